/- -/
import Derived.Test.YtcodjgfoodacaaaGreatDoorPartB
import Derived.Test.YtcodjgfoodacaaaGreatDoorProg
import Derived.Test.YtcodjgfoodacaaaGreatDoorPartD
import Derived.Test.YtcodjgfoodacaaaGreatDoorChecked
import Derived.Lib.AppendZerosOnto
import Derived.Lib.SliceRun
import Derived.WalkKit
import Derived.Lib.Walk
import Derived.Test.YtcodjgfoodacaaaGreatDoorPartC
import Derived.Shelf.SlSortCmp.NoneTotal
import Derived.Ground.SlsfProg
set_option linter.unusedVariables false
set_option linter.unusedSimpArgs false
namespace Go.Ex
open Go.Proofs.Tryz
open Go.Proofs
theorem q5:EqP prog 5 [.int .u8 0] false 1:=zcO (k:=.int .u8) underlying5 ⟨_,(by kernel_rfl:prog.info? 5=some Tryz.t5),rfl⟩ rfl
theorem q49:EqP prog 49 (zdx 3 [.int .u8 0]) true 2:=z2A underlying49 q5 ⟨_,(by kernel_rfl:prog.info? 49=some t49),rfl⟩
def i49:EI:=⟨.array 3 5,3,3,some [.int .u8 0,.int .u8 0,.int .u8 0],true⟩
theorem zru:ziJ prog 49 i49:=⟨⟨t49,by kernel_rfl,rfl,rfl,λz h=>by cases h;exact⟨_,rfl,rfl,z4L rfl,rfl,⟨_,rfl⟩⟩⟩,underlying49,λ_=>KY q49 rfl rfl (gO (by kernel_rfl)) (by decide)⟩
def i64:EI:=⟨.func,1,8,some [.nilFunc],false⟩
theorem q3:EqP prog 3 [.int .i64 0] false 1:=zcO (k:=.int .i64) underlying3 ⟨_,(by kernel_rfl:prog.info? 3=some Tryz.t3),rfl⟩ rfl
theorem q66:EqP prog 66 (Kg [([.int .i64 0],false),([.int .i64 0],false)]) true 2:=z0v underlying66 (by kernel_rfl) ⟨_,(by kernel_rfl:prog.info? 66=some Tryz.t66),rfl⟩ (by decide) (xe.cons (by decide) rfl (q3.mono (by decide)) (xe.cons (by decide) rfl (q3.mono (by decide)) (xe.nil)))
def i66:EI:=⟨.struct [(0,3),(1,3)],2,16,some [.int .i64 0,.int .i64 0],true⟩
theorem zrt:ziJ prog 66 i66:=⟨⟨Tryz.t66,by kernel_rfl,rfl,rfl,λz h=>by cases h;exact⟨_,rfl,rfl,z4L rfl,rfl,⟨_,rfl⟩⟩⟩,⟨_,underlying66,by kernel_rfl,by
  intro f hf;simp only[pc,pG,or_false]at hf;rcases hf with rfl|rfl
  ·exact⟨Tryz.t3,by kernel_rfl⟩
  ·exact⟨Tryz.t3,by kernel_rfl⟩⟩,λ_=>KY q66 rfl rfl (gO (by kernel_rfl)) (by decide)⟩
theorem q67:EqP prog 67 (Kg [([.int .i64 0],false),([.int .i64 0],false)]) true 2:=z0v underlying67 (by kernel_rfl) ⟨_,(by kernel_rfl:prog.info? 67=some t67),rfl⟩ (by decide) (xe.cons (by decide) rfl (q3.mono (by decide)) (xe.cons (by decide) rfl (q3.mono (by decide)) (xe.nil)))
def i67:EI:=⟨.struct [(0,3),(1,3)],2,16,some [.int .i64 0,.int .i64 0],true⟩
theorem zmC:ziJ prog 67 i67:=⟨⟨t67,by kernel_rfl,rfl,rfl,λz h=>by cases h;exact⟨_,rfl,rfl,z4L rfl,rfl,⟨_,rfl⟩⟩⟩,⟨_,underlying67,by kernel_rfl,by
  intro f hf;simp only[pc,pG,or_false]at hf;rcases hf with rfl|rfl
  ·exact⟨Tryz.t3,by kernel_rfl⟩
  ·exact⟨Tryz.t3,by kernel_rfl⟩⟩,λ_=>KY q67 rfl rfl (gO (by kernel_rfl)) (by decide)⟩
theorem zpz:EqP prog 171 (zdx 2 [.int .i64 0]) true 2:=z2A underlying171 q3 ⟨_,(by kernel_rfl:prog.info? 171=some t171),rfl⟩
def zsH:EI:=⟨.array 2 3,2,16,some [.int .i64 0,.int .i64 0],true⟩
theorem zkd:ziJ prog 171 zsH:=⟨⟨t171,by kernel_rfl,rfl,rfl,λz h=>by cases h;exact⟨_,rfl,rfl,z4L rfl,rfl,⟨_,rfl⟩⟩⟩,underlying171,λ_=>KY zpz rfl rfl (gO (by kernel_rfl)) (by decide)⟩
theorem zsz:EqP prog 189 (zdx 16 [.int .i64 0,.int .i64 0]) true 3:=z2A underlying189 zpz ⟨_,(by kernel_rfl:prog.info? 189=some t189),rfl⟩
def zsG:EI:=⟨.array 16 171,32,256,some [.int .i64 0,.int .i64 0,.int .i64 0,.int .i64 0,.int .i64 0,.int .i64 0,.int .i64 0,.int .i64 0,.int .i64 0,.int .i64 0,.int .i64 0,.int .i64 0,.int .i64 0,.int .i64 0,.int .i64 0,.int .i64 0,.int .i64 0,.int .i64 0,.int .i64 0,.int .i64 0,.int .i64 0,.int .i64 0,.int .i64 0,.int .i64 0,.int .i64 0,.int .i64 0,.int .i64 0,.int .i64 0,.int .i64 0,.int .i64 0,.int .i64 0,.int .i64 0],true⟩
theorem zpO:ziJ prog 189 zsG:=⟨⟨t189,by kernel_rfl,rfl,rfl,λz h=>by cases h;exact⟨_,rfl,rfl,z4L rfl,rfl,⟨_,rfl⟩⟩⟩,underlying189,λ_=>KY zsz rfl rfl (gO (by kernel_rfl)) (by decide)⟩
theorem zpy:EqP prog 190 (zdx 16 [.int .i64 0,.int .i64 0]) true 3:=z2A underlying190 zpz ⟨_,(by kernel_rfl:prog.info? 190=some t190),rfl⟩
def zsF:EI:=⟨.array 16 171,32,256,some [.int .i64 0,.int .i64 0,.int .i64 0,.int .i64 0,.int .i64 0,.int .i64 0,.int .i64 0,.int .i64 0,.int .i64 0,.int .i64 0,.int .i64 0,.int .i64 0,.int .i64 0,.int .i64 0,.int .i64 0,.int .i64 0,.int .i64 0,.int .i64 0,.int .i64 0,.int .i64 0,.int .i64 0,.int .i64 0,.int .i64 0,.int .i64 0,.int .i64 0,.int .i64 0,.int .i64 0,.int .i64 0,.int .i64 0,.int .i64 0,.int .i64 0,.int .i64 0],true⟩
theorem zkc:ziJ prog 190 zsF:=⟨⟨t190,by kernel_rfl,rfl,rfl,λz h=>by cases h;exact⟨_,rfl,rfl,z4L rfl,rfl,⟨_,rfl⟩⟩⟩,underlying190,λ_=>KY zpy rfl rfl (gO (by kernel_rfl)) (by decide)⟩
theorem zsy:EqP prog 192 (Kg [([.int .i64 0],false),([.int .i64 0,.int .i64 0,.int .i64 0,.int .i64 0,.int .i64 0,.int .i64 0,.int .i64 0,.int .i64 0,.int .i64 0,.int .i64 0,.int .i64 0,.int .i64 0,.int .i64 0,.int .i64 0,.int .i64 0,.int .i64 0,.int .i64 0,.int .i64 0,.int .i64 0,.int .i64 0,.int .i64 0,.int .i64 0,.int .i64 0,.int .i64 0,.int .i64 0,.int .i64 0,.int .i64 0,.int .i64 0,.int .i64 0,.int .i64 0,.int .i64 0,.int .i64 0],true)]) true 4:=z0v underlying192 (by kernel_rfl) ⟨_,(by kernel_rfl:prog.info? 192=some t192),rfl⟩ (by decide) (xe.cons (by decide) rfl (q3.mono (by decide)) (xe.cons (by decide) rfl (zpy.mono (by decide)) (xe.nil)))
def zsE:EI:=⟨.struct [(0,3),(1,190)],33,264,some [.int .i64 0,.int .i64 0,.int .i64 0,.int .i64 0,.int .i64 0,.int .i64 0,.int .i64 0,.int .i64 0,.int .i64 0,.int .i64 0,.int .i64 0,.int .i64 0,.int .i64 0,.int .i64 0,.int .i64 0,.int .i64 0,.int .i64 0,.int .i64 0,.int .i64 0,.int .i64 0,.int .i64 0,.int .i64 0,.int .i64 0,.int .i64 0,.int .i64 0,.int .i64 0,.int .i64 0,.int .i64 0,.int .i64 0,.int .i64 0,.int .i64 0,.int .i64 0,.int .i64 0],true⟩
theorem zpN:ziJ prog 192 zsE:=⟨⟨t192,by kernel_rfl,rfl,rfl,λz h=>by cases h;exact⟨_,rfl,rfl,z4L rfl,rfl,⟨_,rfl⟩⟩⟩,⟨_,underlying192,by kernel_rfl,by
  intro f hf;simp only[pc,pG,or_false]at hf;rcases hf with rfl|rfl
  ·exact⟨Tryz.t3,by kernel_rfl⟩
  ·exact⟨t190,by kernel_rfl⟩⟩,λ_=>KY zsy rfl rfl (gO (by kernel_rfl)) (by decide)⟩
theorem zsx:EqP prog 193 (Kg [([.int .i64 0],false),([.int .i64 0,.int .i64 0,.int .i64 0,.int .i64 0,.int .i64 0,.int .i64 0,.int .i64 0,.int .i64 0,.int .i64 0,.int .i64 0,.int .i64 0,.int .i64 0,.int .i64 0,.int .i64 0,.int .i64 0,.int .i64 0,.int .i64 0,.int .i64 0,.int .i64 0,.int .i64 0,.int .i64 0,.int .i64 0,.int .i64 0,.int .i64 0,.int .i64 0,.int .i64 0,.int .i64 0,.int .i64 0,.int .i64 0,.int .i64 0,.int .i64 0,.int .i64 0],true)]) true 4:=z0v underlying193 (by kernel_rfl) ⟨_,(by kernel_rfl:prog.info? 193=some t193),rfl⟩ (by decide) (xe.cons (by decide) rfl (q3.mono (by decide)) (xe.cons (by decide) rfl (zpy.mono (by decide)) (xe.nil)))
def zsD:EI:=⟨.struct [(0,3),(1,190)],33,264,some [.int .i64 0,.int .i64 0,.int .i64 0,.int .i64 0,.int .i64 0,.int .i64 0,.int .i64 0,.int .i64 0,.int .i64 0,.int .i64 0,.int .i64 0,.int .i64 0,.int .i64 0,.int .i64 0,.int .i64 0,.int .i64 0,.int .i64 0,.int .i64 0,.int .i64 0,.int .i64 0,.int .i64 0,.int .i64 0,.int .i64 0,.int .i64 0,.int .i64 0,.int .i64 0,.int .i64 0,.int .i64 0,.int .i64 0,.int .i64 0,.int .i64 0,.int .i64 0,.int .i64 0],true⟩
theorem zf3:ziJ prog 193 zsD:=⟨⟨t193,by kernel_rfl,rfl,rfl,λz h=>by cases h;exact⟨_,rfl,rfl,z4L rfl,rfl,⟨_,rfl⟩⟩⟩,⟨_,underlying193,by kernel_rfl,by
  intro f hf;simp only[pc,pG,or_false]at hf;rcases hf with rfl|rfl
  ·exact⟨Tryz.t3,by kernel_rfl⟩
  ·exact⟨t190,by kernel_rfl⟩⟩,λ_=>KY zsx rfl rfl (gO (by kernel_rfl)) (by decide)⟩
end Go.Ex

namespace Go.Own
open Go.Proofs.Tryz
open Go.Proofs
def zpM:Value->Bool
 | .int _ _=>true
 | _=>false
theorem zaJ:∀{z vs us:List Value} {r:Bool},z.all zpM=true->z.length=vs.length->xF vs us=some r->Go.Ex.z9r z vs=true/\Go.Ex.xF vs us=some r
 | [],[],us,r,_,_,h=>by
  cases us with
  | nil=>simp only[xF,Option.some.injEq]at h;subst h;exact⟨rfl,rfl⟩
  | cons u us=>simp[xF]at h
 | a::z,v::vs,us,r,hz,hl,h=>by
  have q:∃k x u' k' y,v=.int k x/\us=.int k' y::u'/\k=k':=by
   cases us with
   | nil=>cases v <;> simp[xF]at h
   | cons u us=>cases v <;> cases u <;> simp[xF]at h;exact⟨_,_,_,_,_,rfl,rfl,h.1⟩
  obtain⟨k,x,u',k',y,rfl,rfl,hk⟩:=q;simp only[xF,hk,if_true,pB]at h;obtain⟨r',e1,rfl⟩:=h;simp only[List.all_cons,ph]at hz;obtain⟨q1,q2⟩:=zaJ hz.2 (by simpa using hl) e1;refine⟨?_,by simp[Go.Ex.xF,hk,q2]⟩;cases a <;> first|(simp[zpM]at hz;done)|simpa[Go.Ex.z9r] using q1
 | [],_::_,_,_,_,hl,_=>by simp at hl
 | _::_,[],_,_,_,hl,_=>by simp at hl
variable {P:Program}
theorem z95 {t n:Nat}{i:Go.Ex.EI}(h:Go.Ex.ziI P t i){z:List Value}(hz:i.zero=some z)(hi:z.all zpM=true)(hs:i.size=n)(hn:z.length=n):ziI P t n:={
 guard:=h.guard
 run:=λvs us r w hv hu he=>by obtain⟨q1,q2⟩:=zaJ hi (by rw[hn,hv]) he;exact h.run vs us r w (by rw[hs];exact hv) (by rw[hs];exact hu) (by simpa only[Go.Ex.zpR,hz] using q1) q2 }
variable {h:Array Obj}{S:zj}
theorem zg {v:Value}(hv:v.oneCell'=true):zM S h (.atom v) [v] []:=by simp only[zM,Rep];exact⟨⟨trivial,hv⟩,trivial⟩
theorem vR (sz:Nat):zM S h (.osl sz true []) [.slice none 0 0] []:=by simp only[zM];exact⟨none,0,rfl,(λ_=>rfl),pd _,pv _,by simp,.inl ⟨trivial,rfl,rfl,trivial⟩⟩
theorem zcQ {sz:Nat}:zM S h (.dop (nlQ sz [])) [.slice none 0 0] []:=by simp only[zM,Rep];exact⟨⟨_,rfl,zeJ.2 ⟨by simp[Rep],λ_=>rfl⟩⟩,trivial⟩
variable {a:A}
theorem KZ {c:List Value}(q:zM S h a c []):∀n,zT S h (List.replicate n a) (List.replicate n c).flatten []
 | 0=>by simp[zT]
 | n+1=>by rw[gZ,gZ,List.flatten_cons];simp only[zT];exact⟨c,_,[],[],rfl,rfl,q,KZ q n⟩
theorem zkm {c c':List Value}(q:zM S h a c [])(e:c'=c):zM S h a c' []:=e ▸ q
variable {fs:List A}
theorem zL {cs:List Value}(q:zT S h fs cs []):zM S h (.agg fs) cs []:=by simpa only[zM] using q
theorem zF:zT S h [] [] []:=by simp[zT]
theorem zf {c1 c2:List Value}(q1:zM S h a c1 [])(q2:zT S h fs c2 []):zT S h (a::fs) (c1++c2) []:=by simp only[zT];exact⟨c1,c2,[],[],rfl,rfl,q1,q2⟩
def ti1:TI:=⟨.other,1,8,some (.atom .nilFunc),false⟩
theorem zlr:ZS prog 1 ti1:=⟨⟨Tryz.t1,by kernel_rfl,rfl,rfl,λz h=>by cases h;exact⟨_,rfl,rfl,λS h=>zg rfl⟩⟩,⟨_,underlying1,rfl⟩,by intro h;cases h⟩
def ti2:TI:=⟨.int .i64,1,8,some (.atom (.int .i64 0)),false⟩
theorem zlq:ZS prog 2 ti2:=⟨⟨Tryz.t2,by kernel_rfl,rfl,rfl,λz h=>by cases h;exact⟨_,rfl,rfl,λS h=>zg rfl⟩⟩,underlying2,by intro h;cases h⟩
def ti3:TI:=⟨.int .i64,1,8,some (.atom (.int .i64 0)),false⟩
theorem zlp:ZS prog 3 ti3:=⟨⟨Tryz.t3,by kernel_rfl,rfl,rfl,λz h=>by cases h;exact⟨_,rfl,rfl,λS h=>zg rfl⟩⟩,underlying3,by intro h;cases h⟩
def ti4:TI:=⟨.bool,1,1,some (.atom (.bool false)),false⟩
theorem zlo:ZS prog 4 ti4:=⟨⟨Tryz.t4,by kernel_rfl,rfl,rfl,λz h=>by cases h;exact⟨_,rfl,rfl,λS h=>zg rfl⟩⟩,underlying4,by intro h;cases h⟩
def ti5:TI:=⟨.int .u8,1,1,some (.atom (.int .u8 0)),false⟩
theorem zln:ZS prog 5 ti5:=⟨⟨Tryz.t5,by kernel_rfl,rfl,rfl,λz h=>by cases h;exact⟨_,rfl,rfl,λS h=>zg rfl⟩⟩,underlying5,by intro h;cases h⟩
def ti9:TI:=⟨.str,1,16,none,false⟩
theorem zlm:ZS prog 9 ti9:=⟨⟨Tryz.t9,by kernel_rfl,rfl,rfl,λz h=>by cases h⟩,underlying9,by intro h;cases h⟩
def zr6:TI:=⟨.other,1,16,some (.atom .nilIface),false⟩
theorem zjj:ZS prog 20 zr6:=⟨⟨t20,by kernel_rfl,rfl,rfl,λz h=>by cases h;exact⟨_,rfl,rfl,λS h=>zg rfl⟩⟩,⟨_,underlying20,rfl⟩,by intro h;cases h⟩
def zr5:TI:=⟨.slice 5,1,24,some (.osl 1 true []),false⟩
theorem zji:ZS prog 22 zr5:=⟨⟨Tryz.t22,by kernel_rfl,rfl,rfl,λz h=>by cases h;exact⟨_,rfl,rfl,λS h=>vR _⟩⟩,underlying22,by intro h;cases h⟩
def zr4:TI:=⟨.slice 117,1,24,some (.osl 1 true []),false⟩
theorem zjh:ZS prog 23 zr4:=⟨⟨t23,by kernel_rfl,rfl,rfl,λz h=>by cases h;exact⟨_,rfl,rfl,λS h=>vR _⟩⟩,underlying23,by intro h;cases h⟩
def zr3:TI:=⟨.struct [(0,1),(1,1),(2,1),(3,1),(4,1)],5,56,some (.agg [.atom (.int .u8 0),.atom (.int .u8 0),.atom (.int .u8 0),.osl 1 true [],.osl 1 true []]),false⟩
theorem zjg:ZS prog 25 zr3:=⟨⟨Tryz.t25,by kernel_rfl,rfl,rfl,λz h=>by cases h;exact⟨_,rfl,rfl,λS h=>zL (zf (zg rfl) (zf (zg rfl) (zf (zg rfl) (zf (vR _) (zf (vR _) (zF))))))⟩⟩,⟨_,underlying25,by kernel_rfl,by
  intro f hf;simp only[pc,pG,or_false]at hf;rcases hf with rfl|rfl|rfl|rfl|rfl
  ·exact⟨Tryz.t5,by kernel_rfl⟩
  ·exact⟨Tryz.t5,by kernel_rfl⟩
  ·exact⟨Tryz.t5,by kernel_rfl⟩
  ·exact⟨Tryz.t22,by kernel_rfl⟩
  ·exact⟨t23,by kernel_rfl⟩⟩,by intro h;cases h⟩
def zr2:TI:=⟨.struct [(0,5)],5,56,some (.agg [.agg [.atom (.int .u8 0),.atom (.int .u8 0),.atom (.int .u8 0),.osl 1 true [],.osl 1 true []]]),false⟩
theorem zjf:ZS prog 27 zr2:=⟨⟨t27,by kernel_rfl,rfl,rfl,λz h=>by cases h;exact⟨_,rfl,rfl,λS h=>zL (zf (zL (zf (zg rfl) (zf (zg rfl) (zf (zg rfl) (zf (vR _) (zf (vR _) (zF))))))) (zF))⟩⟩,⟨_,underlying27,by kernel_rfl,by
  intro f hf;simp only[pc,pG,or_false]at hf;rcases hf with rfl
  ·exact⟨Tryz.t25,by kernel_rfl⟩⟩,by intro h;cases h⟩
def zr1:TI:=⟨.slice 68,1,24,some (.osl 1 true []),false⟩
theorem zje:ZS prog 28 zr1:=⟨⟨t28,by kernel_rfl,rfl,rfl,λz h=>by cases h;exact⟨_,rfl,rfl,λS h=>vR _⟩⟩,underlying28,by intro h;cases h⟩
def zr0:TI:=⟨.struct [(0,1),(1,1),(2,1)],3,40,some (.agg [.atom (.int .i64 0),.atom (.int .i64 0),.osl 1 true []]),false⟩
theorem zjd:ZS prog 30 zr0:=⟨⟨t30,by kernel_rfl,rfl,rfl,λz h=>by cases h;exact⟨_,rfl,rfl,λS h=>zL (zf (zg rfl) (zf (zg rfl) (zf (vR _) (zF))))⟩⟩,⟨_,underlying30,by kernel_rfl,by
  intro f hf;simp only[pc,pG,or_false]at hf;rcases hf with rfl|rfl|rfl
  ·exact⟨Tryz.t3,by kernel_rfl⟩
  ·exact⟨Tryz.t3,by kernel_rfl⟩
  ·exact⟨t28,by kernel_rfl⟩⟩,by intro h;cases h⟩
def zqZ:TI:=⟨.slice 40,1,24,some (.osl 1 true []),false⟩
theorem zjc:ZS prog 32 zqZ:=⟨⟨t32,by kernel_rfl,rfl,rfl,λz h=>by cases h;exact⟨_,rfl,rfl,λS h=>vR _⟩⟩,underlying32,by intro h;cases h⟩
def zqY:TI:=⟨.int .i64,1,8,some (.atom (.int .i64 0)),false⟩
theorem zjb:ZS prog 33 zqY:=⟨⟨t33,by kernel_rfl,rfl,rfl,λz h=>by cases h;exact⟨_,rfl,rfl,λS h=>zg rfl⟩⟩,underlying33,by intro h;cases h⟩
def zqX:TI:=⟨.slice 3,1,24,some (.osl 1 true []),false⟩
theorem zja:ZS prog 40 zqX:=⟨⟨t40,by kernel_rfl,rfl,rfl,λz h=>by cases h;exact⟨_,rfl,rfl,λS h=>vR _⟩⟩,underlying40,by intro h;cases h⟩
def zqW:TI:=⟨.other,1,8,some (.atom .nilFunc),false⟩
theorem zj9:ZS prog 41 zqW:=⟨⟨t41,by kernel_rfl,rfl,rfl,λz h=>by cases h;exact⟨_,rfl,rfl,λS h=>zg rfl⟩⟩,⟨_,underlying41,rfl⟩,by intro h;cases h⟩
def zqV:TI:=⟨.other,1,8,some (.atom .nilFunc),false⟩
theorem zj8:ZS prog 42 zqV:=⟨⟨t42,by kernel_rfl,rfl,rfl,λz h=>by cases h;exact⟨_,rfl,rfl,λS h=>zg rfl⟩⟩,⟨_,underlying42,rfl⟩,by intro h;cases h⟩
def zqU:TI:=⟨.other,1,8,some (.atom .nilFunc),false⟩
theorem zj7:ZS prog 57 zqU:=⟨⟨t57,by kernel_rfl,rfl,rfl,λz h=>by cases h;exact⟨_,rfl,rfl,λS h=>zg rfl⟩⟩,⟨_,underlying57,rfl⟩,by intro h;cases h⟩
def zqT:TI:=⟨.struct [(0,1),(1,1)],2,16,some (.agg [.atom (.int .i64 0),.atom (.int .i64 0)]),true⟩
theorem zj6:ZS prog 67 zqT:=⟨⟨t67,by kernel_rfl,rfl,rfl,λz h=>by cases h;exact⟨_,rfl,rfl,λS h=>zL (zf (zg rfl) (zf (zg rfl) (zF)))⟩⟩,⟨_,underlying67,by kernel_rfl,by
  intro f hf;simp only[pc,pG,or_false]at hf;rcases hf with rfl|rfl
  ·exact⟨Tryz.t3,by kernel_rfl⟩
  ·exact⟨Tryz.t3,by kernel_rfl⟩⟩,λ_=>z95 (Go.Ex.zmC.eqn rfl) rfl rfl rfl rfl⟩
def zqS:TI:=⟨.slice 67,1,24,some (.osl 2 true []),false⟩
theorem zj5:ZS prog 68 zqS:=⟨⟨t68,by kernel_rfl,rfl,rfl,λz h=>by cases h;exact⟨_,rfl,rfl,λS h=>vR _⟩⟩,underlying68,by intro h;cases h⟩
def zqR:TI:=⟨.other,1,8,some (.atom .nilFunc),false⟩
theorem zj4:ZS prog 73 zqR:=⟨⟨t73,by kernel_rfl,rfl,rfl,λz h=>by cases h;exact⟨_,rfl,rfl,λS h=>zg rfl⟩⟩,⟨_,underlying73,rfl⟩,by intro h;cases h⟩
def zqQ:TI:=⟨.slice 78,1,24,some (.osl 1 true []),false⟩
theorem zj3:ZS prog 76 zqQ:=⟨⟨Tryz.t76,by kernel_rfl,rfl,rfl,λz h=>by cases h;exact⟨_,rfl,rfl,λS h=>vR _⟩⟩,underlying76,by intro h;cases h⟩
def zqP:TI:=⟨.int .u64,1,8,some (.atom (.int .u64 0)),false⟩
theorem zj2:ZS prog 78 zqP:=⟨⟨t78,by kernel_rfl,rfl,rfl,λz h=>by cases h;exact⟨_,rfl,rfl,λS h=>zg rfl⟩⟩,underlying78,by intro h;cases h⟩
def zqO:TI:=⟨.other,1,8,some (.atom .nilFunc),false⟩
theorem zj1:ZS prog 80 zqO:=⟨⟨t80,by kernel_rfl,rfl,rfl,λz h=>by cases h;exact⟨_,rfl,rfl,λS h=>zg rfl⟩⟩,⟨_,underlying80,rfl⟩,by intro h;cases h⟩
def zqN:TI:=⟨.slice 32,1,24,some (.osl 1 true []),false⟩
theorem zj0:ZS prog 82 zqN:=⟨⟨t82,by kernel_rfl,rfl,rfl,λz h=>by cases h;exact⟨_,rfl,rfl,λS h=>vR _⟩⟩,underlying82,by intro h;cases h⟩
def zqM:TI:=⟨.other,1,8,some (.atom .nilFunc),false⟩
theorem ziZ:ZS prog 83 zqM:=⟨⟨t83,by kernel_rfl,rfl,rfl,λz h=>by cases h;exact⟨_,rfl,rfl,λS h=>zg rfl⟩⟩,⟨_,underlying83,rfl⟩,by intro h;cases h⟩
def zqL:TI:=⟨.other,1,8,some (.atom .nilFunc),false⟩
theorem ziY:ZS prog 84 zqL:=⟨⟨t84,by kernel_rfl,rfl,rfl,λz h=>by cases h;exact⟨_,rfl,rfl,λS h=>zg rfl⟩⟩,⟨_,underlying84,rfl⟩,by intro h;cases h⟩
def zqK:TI:=⟨.other,1,8,some (.atom .nilFunc),false⟩
theorem ziX:ZS prog 93 zqK:=⟨⟨t93,by kernel_rfl,rfl,rfl,λz h=>by cases h;exact⟨_,rfl,rfl,λS h=>zg rfl⟩⟩,⟨_,underlying93,rfl⟩,by intro h;cases h⟩
def zqJ:TI:=⟨.struct [(0,1),(1,1)],2,16,some (.agg [.atom (.int .i64 0),.atom .nilFunc]),false⟩
theorem ziW:ZS prog 95 zqJ:=⟨⟨t95,by kernel_rfl,rfl,rfl,λz h=>by cases h;exact⟨_,rfl,rfl,λS h=>zL (zf (zg rfl) (zf (zg rfl) (zF)))⟩⟩,⟨_,underlying95,by kernel_rfl,by
  intro f hf;simp only[pc,pG,or_false]at hf;rcases hf with rfl|rfl
  ·exact⟨t33,by kernel_rfl⟩
  ·exact⟨t42,by kernel_rfl⟩⟩,by intro h;cases h⟩
def zqI:TI:=⟨.array 3 95,6,48,some (.agg [.agg [.atom (.int .i64 0),.atom .nilFunc],.agg [.atom (.int .i64 0),.atom .nilFunc],.agg [.atom (.int .i64 0),.atom .nilFunc]]),false⟩
theorem ziV:ZS prog 96 zqI:=⟨⟨t96,by kernel_rfl,rfl,rfl,λz h=>by cases h;exact⟨_,rfl,rfl,λS h=>zL (zf (zL (zf (zg rfl) (zf (zg rfl) (zF)))) (zf (zL (zf (zg rfl) (zf (zg rfl) (zF)))) (zf (zL (zf (zg rfl) (zf (zg rfl) (zF)))) (zF))))⟩⟩,underlying96,by intro h;cases h⟩
def zqH:TI:=⟨.other,1,8,some (.atom .nilFunc),false⟩
theorem ziU:ZS prog 97 zqH:=⟨⟨t97,by kernel_rfl,rfl,rfl,λz h=>by cases h;exact⟨_,rfl,rfl,λS h=>zg rfl⟩⟩,⟨_,underlying97,rfl⟩,by intro h;cases h⟩
def zqG:TI:=⟨.other,1,8,some (.atom .nilFunc),false⟩
theorem ziT:ZS prog 99 zqG:=⟨⟨t99,by kernel_rfl,rfl,rfl,λz h=>by cases h;exact⟨_,rfl,rfl,λS h=>zg rfl⟩⟩,⟨_,underlying99,rfl⟩,by intro h;cases h⟩
def zlV:TI:=⟨.int .u32,1,4,some (.atom (.int .u32 0)),false⟩
theorem zgq:ZS prog 104 zlV:=⟨⟨t104,by kernel_rfl,rfl,rfl,λz h=>by cases h;exact⟨_,rfl,rfl,λS h=>zg rfl⟩⟩,underlying104,by intro h;cases h⟩
def zlU:TI:=⟨.int .u64,1,8,some (.atom (.int .u64 0)),false⟩
theorem zgp:ZS prog 106 zlU:=⟨⟨t106,by kernel_rfl,rfl,rfl,λz h=>by cases h;exact⟨_,rfl,rfl,λS h=>zg rfl⟩⟩,underlying106,by intro h;cases h⟩
def zlT:TI:=⟨.slice 4,1,24,some (.osl 1 true []),false⟩
theorem zgo:ZS prog 111 zlT:=⟨⟨t111,by kernel_rfl,rfl,rfl,λz h=>by cases h;exact⟨_,rfl,rfl,λS h=>vR _⟩⟩,underlying111,by intro h;cases h⟩
def zlS:TI:=⟨.int .u16,1,2,some (.atom (.int .u16 0)),false⟩
theorem zgn:ZS prog 117 zlS:=⟨⟨t117,by kernel_rfl,rfl,rfl,λz h=>by cases h;exact⟨_,rfl,rfl,λS h=>zg rfl⟩⟩,underlying117,by intro h;cases h⟩
def zlR:TI:=⟨.other,1,8,some (.atom .nilFunc),false⟩
theorem zgm:ZS prog 120 zlR:=⟨⟨t120,by kernel_rfl,rfl,rfl,λz h=>by cases h;exact⟨_,rfl,rfl,λS h=>zg rfl⟩⟩,⟨_,underlying120,rfl⟩,by intro h;cases h⟩
def zlQ:TI:=⟨.array 64 40,64,1536,some (.agg (List.replicate 64 (.dop (nlQ 1 [])))),false⟩
theorem zgl:ZS prog 125 zlQ:=⟨⟨t125,by kernel_rfl,rfl,rfl,λz h=>by cases h;exact⟨_,rfl,by kernel_rfl,λS h=>zkm (zL (KZ (zcQ) 64)) (by kernel_rfl)⟩⟩,underlying125,by intro h;cases h⟩
def zlP:TI:=⟨.ptr 154,1,8,some (.atom (.pointer none)),false⟩
theorem zgk:ZS prog 126 zlP:=⟨⟨t126,by kernel_rfl,rfl,rfl,λz h=>by cases h;exact⟨_,rfl,rfl,λS h=>zg rfl⟩⟩,underlying126,by intro h;cases h⟩
def zlO:TI:=⟨.other,1,8,some (.atom .nilFunc),false⟩
theorem zgj:ZS prog 127 zlO:=⟨⟨t127,by kernel_rfl,rfl,rfl,λz h=>by cases h;exact⟨_,rfl,rfl,λS h=>zg rfl⟩⟩,⟨_,underlying127,rfl⟩,by intro h;cases h⟩
def zlN:TI:=⟨.other,1,8,some (.atom .nilFunc),false⟩
theorem zgi:ZS prog 131 zlN:=⟨⟨t131,by kernel_rfl,rfl,rfl,λz h=>by cases h;exact⟨_,rfl,rfl,λS h=>zg rfl⟩⟩,⟨_,underlying131,rfl⟩,by intro h;cases h⟩
def zlM:TI:=⟨.slice 111,1,24,some (.osl 1 true []),false⟩
theorem zgh:ZS prog 136 zlM:=⟨⟨t136,by kernel_rfl,rfl,rfl,λz h=>by cases h;exact⟨_,rfl,rfl,λS h=>vR _⟩⟩,underlying136,by intro h;cases h⟩
def zlL:TI:=⟨.slice 171,1,24,some (.osl 2 true []),false⟩
theorem zgg:ZS prog 144 zlL:=⟨⟨t144,by kernel_rfl,rfl,rfl,λz h=>by cases h;exact⟨_,rfl,rfl,λS h=>vR _⟩⟩,underlying144,by intro h;cases h⟩
def zlK:TI:=⟨.other,1,8,some (.atom .nilFunc),false⟩
theorem zgf:ZS prog 146 zlK:=⟨⟨t146,by kernel_rfl,rfl,rfl,λz h=>by cases h;exact⟨_,rfl,rfl,λS h=>zg rfl⟩⟩,⟨_,underlying146,rfl⟩,by intro h;cases h⟩
def zlJ:TI:=⟨.other,1,8,some (.atom .nilFunc),false⟩
theorem zge:ZS prog 147 zlJ:=⟨⟨t147,by kernel_rfl,rfl,rfl,λz h=>by cases h;exact⟨_,rfl,rfl,λS h=>zg rfl⟩⟩,⟨_,underlying147,rfl⟩,by intro h;cases h⟩
def zlI:TI:=⟨.other,1,8,some (.atom .nilFunc),false⟩
theorem zgd:ZS prog 148 zlI:=⟨⟨t148,by kernel_rfl,rfl,rfl,λz h=>by cases h;exact⟨_,rfl,rfl,λS h=>zg rfl⟩⟩,⟨_,underlying148,rfl⟩,by intro h;cases h⟩
def zlH:TI:=⟨.other,1,8,some (.atom .nilFunc),false⟩
theorem zgc:ZS prog 149 zlH:=⟨⟨t149,by kernel_rfl,rfl,rfl,λz h=>by cases h;exact⟨_,rfl,rfl,λS h=>zg rfl⟩⟩,⟨_,underlying149,rfl⟩,by intro h;cases h⟩
def zlG:TI:=⟨.other,1,8,some (.atom .nilFunc),false⟩
theorem zgb:ZS prog 150 zlG:=⟨⟨t150,by kernel_rfl,rfl,rfl,λz h=>by cases h;exact⟨_,rfl,rfl,λS h=>zg rfl⟩⟩,⟨_,underlying150,rfl⟩,by intro h;cases h⟩
def zlF:TI:=⟨.other,1,8,some (.atom .nilFunc),false⟩
theorem zga:ZS prog 152 zlF:=⟨⟨t152,by kernel_rfl,rfl,rfl,λz h=>by cases h;exact⟨_,rfl,rfl,λS h=>zg rfl⟩⟩,⟨_,underlying152,rfl⟩,by intro h;cases h⟩
def zlE:TI:=⟨.array 64 125,4096,98304,some (.agg (List.replicate 64 (.agg (List.replicate 64 (.dop (nlQ 1 [])))))),false⟩
theorem zg9:ZS prog 154 zlE:=⟨⟨t154,by kernel_rfl,rfl,rfl,λz h=>by cases h;exact⟨_,rfl,by kernel_rfl,λS h=>zkm (zL (KZ (zL (KZ (zcQ) 64)) 64)) (by kernel_rfl)⟩⟩,underlying154,by intro h;cases h⟩
def zlD:TI:=⟨.slice 159,1,24,some (.osl 4 true []),false⟩
theorem zg8:ZS prog 155 zlD:=⟨⟨t155,by kernel_rfl,rfl,rfl,λz h=>by cases h;exact⟨_,rfl,rfl,λS h=>vR _⟩⟩,underlying155,by intro h;cases h⟩
def zlC:TI:=⟨.struct [(0,1),(1,1),(2,1),(3,1)],4,48,some (.agg [.atom (.int .i64 0),.atom (.int .i64 0),.osl 1 true [],.atom (.bool false)]),false⟩
theorem zg7:ZS prog 159 zlC:=⟨⟨t159,by kernel_rfl,rfl,rfl,λz h=>by cases h;exact⟨_,rfl,rfl,λS h=>zL (zf (zg rfl) (zf (zg rfl) (zf (vR _) (zf (zg rfl) (zF)))))⟩⟩,⟨_,underlying159,by kernel_rfl,by
  intro f hf;simp only[pc,pG,or_false]at hf;rcases hf with rfl|rfl|rfl|rfl
  ·exact⟨Tryz.t3,by kernel_rfl⟩
  ·exact⟨Tryz.t3,by kernel_rfl⟩
  ·exact⟨t40,by kernel_rfl⟩
  ·exact⟨Tryz.t4,by kernel_rfl⟩⟩,by intro h;cases h⟩
def zlB:TI:=⟨.array 64 5,64,64,some (.agg (List.replicate 64 (.atom (.int .u8 0)))),false⟩
theorem zg6:ZS prog 162 zlB:=⟨⟨t162,by kernel_rfl,rfl,rfl,λz h=>by cases h;exact⟨_,rfl,by kernel_rfl,λS h=>zkm (zL (KZ (zg rfl) 64)) (by kernel_rfl)⟩⟩,underlying162,by intro h;cases h⟩
def zlA:TI:=⟨.other,1,8,some (.atom .nilFunc),false⟩
theorem zg5:ZS prog 166 zlA:=⟨⟨t166,by kernel_rfl,rfl,rfl,λz h=>by cases h;exact⟨_,rfl,rfl,λS h=>zg rfl⟩⟩,⟨_,underlying166,rfl⟩,by intro h;cases h⟩
def zlz:TI:=⟨.other,1,8,some (.atom .nilFunc),false⟩
theorem zg4:ZS prog 168 zlz:=⟨⟨t168,by kernel_rfl,rfl,rfl,λz h=>by cases h;exact⟨_,rfl,rfl,λS h=>zg rfl⟩⟩,⟨_,underlying168,rfl⟩,by intro h;cases h⟩
def zly:TI:=⟨.other,1,8,some (.atom .nilFunc),false⟩
theorem zg3:ZS prog 169 zly:=⟨⟨t169,by kernel_rfl,rfl,rfl,λz h=>by cases h;exact⟨_,rfl,rfl,λS h=>zg rfl⟩⟩,⟨_,underlying169,rfl⟩,by intro h;cases h⟩
def zlx:TI:=⟨.array 2 3,2,16,some (.agg [.atom (.int .i64 0),.atom (.int .i64 0)]),true⟩
theorem zg2:ZS prog 171 zlx:=⟨⟨t171,by kernel_rfl,rfl,rfl,λz h=>by cases h;exact⟨_,rfl,rfl,λS h=>zL (zf (zg rfl) (zf (zg rfl) (zF)))⟩⟩,underlying171,λ_=>z95 (Go.Ex.zkd.eqn rfl) rfl rfl rfl rfl⟩
def zlw:TI:=⟨.other,1,8,some (.atom .nilFunc),false⟩
theorem zg1:ZS prog 174 zlw:=⟨⟨t174,by kernel_rfl,rfl,rfl,λz h=>by cases h;exact⟨_,rfl,rfl,λS h=>zg rfl⟩⟩,⟨_,underlying174,rfl⟩,by intro h;cases h⟩
def zlv:TI:=⟨.other,1,8,some (.atom .nilFunc),false⟩
theorem zg0:ZS prog 187 zlv:=⟨⟨t187,by kernel_rfl,rfl,rfl,λz h=>by cases h;exact⟨_,rfl,rfl,λS h=>zg rfl⟩⟩,⟨_,underlying187,rfl⟩,by intro h;cases h⟩
def zlu:TI:=⟨.other,1,8,some (.atom (.map none)),false⟩
theorem zfZ:ZS prog 188 zlu:=⟨⟨t188,by kernel_rfl,rfl,rfl,λz h=>by cases h;exact⟨_,rfl,rfl,λS h=>zg rfl⟩⟩,⟨_,underlying188,rfl⟩,by intro h;cases h⟩
def zlt:TI:=⟨.array 16 171,32,256,some (.agg [.agg [.atom (.int .i64 0),.atom (.int .i64 0)],.agg [.atom (.int .i64 0),.atom (.int .i64 0)],.agg [.atom (.int .i64 0),.atom (.int .i64 0)],.agg [.atom (.int .i64 0),.atom (.int .i64 0)],.agg [.atom (.int .i64 0),.atom (.int .i64 0)],.agg [.atom (.int .i64 0),.atom (.int .i64 0)],.agg [.atom (.int .i64 0),.atom (.int .i64 0)],.agg [.atom (.int .i64 0),.atom (.int .i64 0)],.agg [.atom (.int .i64 0),.atom (.int .i64 0)],.agg [.atom (.int .i64 0),.atom (.int .i64 0)],.agg [.atom (.int .i64 0),.atom (.int .i64 0)],.agg [.atom (.int .i64 0),.atom (.int .i64 0)],.agg [.atom (.int .i64 0),.atom (.int .i64 0)],.agg [.atom (.int .i64 0),.atom (.int .i64 0)],.agg [.atom (.int .i64 0),.atom (.int .i64 0)],.agg [.atom (.int .i64 0),.atom (.int .i64 0)]]),true⟩
theorem zfY:ZS prog 190 zlt:=⟨⟨t190,by kernel_rfl,rfl,rfl,λz h=>by cases h;exact⟨_,rfl,rfl,λS h=>zL (zf (zL (zf (zg rfl) (zf (zg rfl) (zF)))) (zf (zL (zf (zg rfl) (zf (zg rfl) (zF)))) (zf (zL (zf (zg rfl) (zf (zg rfl) (zF)))) (zf (zL (zf (zg rfl) (zf (zg rfl) (zF)))) (zf (zL (zf (zg rfl) (zf (zg rfl) (zF)))) (zf (zL (zf (zg rfl) (zf (zg rfl) (zF)))) (zf (zL (zf (zg rfl) (zf (zg rfl) (zF)))) (zf (zL (zf (zg rfl) (zf (zg rfl) (zF)))) (zf (zL (zf (zg rfl) (zf (zg rfl) (zF)))) (zf (zL (zf (zg rfl) (zf (zg rfl) (zF)))) (zf (zL (zf (zg rfl) (zf (zg rfl) (zF)))) (zf (zL (zf (zg rfl) (zf (zg rfl) (zF)))) (zf (zL (zf (zg rfl) (zf (zg rfl) (zF)))) (zf (zL (zf (zg rfl) (zf (zg rfl) (zF)))) (zf (zL (zf (zg rfl) (zf (zg rfl) (zF)))) (zf (zL (zf (zg rfl) (zf (zg rfl) (zF)))) (zF)))))))))))))))))⟩⟩,underlying190,λ_=>z95 (Go.Ex.zkc.eqn rfl) rfl rfl rfl rfl⟩
def zls:TI:=⟨.struct [(0,1),(1,32)],33,264,some (.agg [.atom (.int .i64 0),.agg [.agg [.atom (.int .i64 0),.atom (.int .i64 0)],.agg [.atom (.int .i64 0),.atom (.int .i64 0)],.agg [.atom (.int .i64 0),.atom (.int .i64 0)],.agg [.atom (.int .i64 0),.atom (.int .i64 0)],.agg [.atom (.int .i64 0),.atom (.int .i64 0)],.agg [.atom (.int .i64 0),.atom (.int .i64 0)],.agg [.atom (.int .i64 0),.atom (.int .i64 0)],.agg [.atom (.int .i64 0),.atom (.int .i64 0)],.agg [.atom (.int .i64 0),.atom (.int .i64 0)],.agg [.atom (.int .i64 0),.atom (.int .i64 0)],.agg [.atom (.int .i64 0),.atom (.int .i64 0)],.agg [.atom (.int .i64 0),.atom (.int .i64 0)],.agg [.atom (.int .i64 0),.atom (.int .i64 0)],.agg [.atom (.int .i64 0),.atom (.int .i64 0)],.agg [.atom (.int .i64 0),.atom (.int .i64 0)],.agg [.atom (.int .i64 0),.atom (.int .i64 0)]]]),true⟩
theorem zbU:ZS prog 193 zls:=⟨⟨t193,by kernel_rfl,rfl,rfl,λz h=>by cases h;exact⟨_,rfl,rfl,λS h=>zL (zf (zg rfl) (zf (zL (zf (zL (zf (zg rfl) (zf (zg rfl) (zF)))) (zf (zL (zf (zg rfl) (zf (zg rfl) (zF)))) (zf (zL (zf (zg rfl) (zf (zg rfl) (zF)))) (zf (zL (zf (zg rfl) (zf (zg rfl) (zF)))) (zf (zL (zf (zg rfl) (zf (zg rfl) (zF)))) (zf (zL (zf (zg rfl) (zf (zg rfl) (zF)))) (zf (zL (zf (zg rfl) (zf (zg rfl) (zF)))) (zf (zL (zf (zg rfl) (zf (zg rfl) (zF)))) (zf (zL (zf (zg rfl) (zf (zg rfl) (zF)))) (zf (zL (zf (zg rfl) (zf (zg rfl) (zF)))) (zf (zL (zf (zg rfl) (zf (zg rfl) (zF)))) (zf (zL (zf (zg rfl) (zf (zg rfl) (zF)))) (zf (zL (zf (zg rfl) (zf (zg rfl) (zF)))) (zf (zL (zf (zg rfl) (zf (zg rfl) (zF)))) (zf (zL (zf (zg rfl) (zf (zg rfl) (zF)))) (zf (zL (zf (zg rfl) (zf (zg rfl) (zF)))) (zF)))))))))))))))))) (zF)))⟩⟩,⟨_,underlying193,by kernel_rfl,by
  intro f hf;simp only[pc,pG,or_false]at hf;rcases hf with rfl|rfl
  ·exact⟨Tryz.t3,by kernel_rfl⟩
  ·exact⟨t190,by kernel_rfl⟩⟩,λ_=>z95 (Go.Ex.zf3.eqn rfl) rfl rfl rfl rfl⟩
def tiL:List (Nat×TI):=[(1,ti1),(2,ti2),(3,ti3),(4,ti4),(5,ti5),(9,ti9),(20,zr6),(22,zr5),(23,zr4),(25,zr3),(27,zr2),(28,zr1),(30,zr0),(32,zqZ),(33,zqY),(40,zqX),(41,zqW),(42,zqV),(57,zqU),(67,zqT),(68,zqS),(73,zqR),(76,zqQ),(78,zqP),(80,zqO),(82,zqN),(83,zqM),(84,zqL),(93,zqK),(95,zqJ),(96,zqI),(97,zqH),(99,zqG),(104,zlV),(106,zlU),(111,zlT),(117,zlS),(120,zlR),(125,zlQ),(126,zlP),(127,zlO),(131,zlN),(136,zlM),(144,zlL),(146,zlK),(147,zlJ),(148,zlI),(149,zlH),(150,zlG),(152,zlF),(154,zlE),(155,zlD),(159,zlC),(162,zlB),(166,zlA),(168,zlz),(169,zly),(171,zlx),(174,zlw),(187,zlv),(188,zlu),(190,zlt),(193,zls)]
def yp:TT:=λt=>(tiL.find? λp=>p.1==t).map (·.2)
def zfN (P:Program):List (Nat×TI)->Prop
 | []=>True
 | p::l=>ZS P p.1 p.2/\zfN P l
theorem zfN.mem:∀{l:List (Nat×TI)},zfN P l->∀p∈l,ZS P p.1 p.2
 | p::_,h,q,hq=>by
  rcases pc.1 hq with rfl|hq
  ·exact h.1
  ·exact zfN.mem h.2 q hq
 | [],_,_,hq=>by cases hq
theorem zll:zfN prog tiL:=⟨zlr,zlq,zlp,zlo,zln,zlm,zjj,zji,zjh,zjg,zjf,zje,zjd,zjc,zjb,zja,zj9,zj8,zj7,zj6,zj5,zj4,zj3,zj2,zj1,zj0,ziZ,ziY,ziX,ziW,ziV,ziU,ziT,zgq,zgp,zgo,zgn,zgm,zgl,zgk,zgj,zgi,zgh,zgg,zgf,zge,zgd,zgc,zgb,zga,zg9,zg8,zg7,zg6,zg5,zg4,zg3,zg2,zg1,zg0,zfZ,zfY,zbU,trivial⟩
theorem zq:v6 prog yp:=by intro t i h;unfold yp at h;rw[pB]at h;obtain⟨p,h1,rfl⟩:=h;have h2:=List.find?_some h1;have h3:=zll.mem p (List.mem_of_find?_eq_some h1);rw[beq_iff_eq.1 h2]at h3;exact h3
theorem zsR:yp 1=some ⟨.other,1,8,some (.atom .nilFunc),false⟩:=rfl
theorem zsQ:yp 2=some ⟨.int .i64,1,8,some (.atom (.int .i64 0)),false⟩:=rfl
theorem zsP:yp 3=some ⟨.int .i64,1,8,some (.atom (.int .i64 0)),false⟩:=rfl
theorem zsO:yp 4=some ⟨.bool,1,1,some (.atom (.bool false)),false⟩:=rfl
theorem zsN:yp 5=some ⟨.int .u8,1,1,some (.atom (.int .u8 0)),false⟩:=rfl
theorem zsM:yp 9=some ⟨.str,1,16,none,false⟩:=rfl
theorem zqq:yp 20=some ⟨.other,1,16,some (.atom .nilIface),false⟩:=rfl
theorem zqp:yp 22=some ⟨.slice 5,1,24,some (.osl 1 true []),false⟩:=rfl
theorem zqo:yp 23=some ⟨.slice 117,1,24,some (.osl 1 true []),false⟩:=rfl
theorem zqn:yp 25=some ⟨.struct [(0,1),(1,1),(2,1),(3,1),(4,1)],5,56,some (.agg [.atom (.int .u8 0),.atom (.int .u8 0),.atom (.int .u8 0),.osl 1 true [],.osl 1 true []]),false⟩:=rfl
theorem zqm:yp 27=some ⟨.struct [(0,5)],5,56,some (.agg [.agg [.atom (.int .u8 0),.atom (.int .u8 0),.atom (.int .u8 0),.osl 1 true [],.osl 1 true []]]),false⟩:=rfl
theorem zql:yp 28=some ⟨.slice 68,1,24,some (.osl 1 true []),false⟩:=rfl
theorem zqk:yp 30=some ⟨.struct [(0,1),(1,1),(2,1)],3,40,some (.agg [.atom (.int .i64 0),.atom (.int .i64 0),.osl 1 true []]),false⟩:=rfl
theorem zqj:yp 32=some ⟨.slice 40,1,24,some (.osl 1 true []),false⟩:=rfl
theorem zqi:yp 33=some ⟨.int .i64,1,8,some (.atom (.int .i64 0)),false⟩:=rfl
theorem zqh:yp 40=some ⟨.slice 3,1,24,some (.osl 1 true []),false⟩:=rfl
theorem zqg:yp 41=some ⟨.other,1,8,some (.atom .nilFunc),false⟩:=rfl
theorem zqf:yp 42=some ⟨.other,1,8,some (.atom .nilFunc),false⟩:=rfl
theorem zqe:yp 57=some ⟨.other,1,8,some (.atom .nilFunc),false⟩:=rfl
theorem zqd:yp 67=some ⟨.struct [(0,1),(1,1)],2,16,some (.agg [.atom (.int .i64 0),.atom (.int .i64 0)]),true⟩:=rfl
theorem zqc:yp 68=some ⟨.slice 67,1,24,some (.osl 2 true []),false⟩:=rfl
theorem zqb:yp 73=some ⟨.other,1,8,some (.atom .nilFunc),false⟩:=rfl
theorem zqa:yp 76=some ⟨.slice 78,1,24,some (.osl 1 true []),false⟩:=rfl
theorem zq9:yp 78=some ⟨.int .u64,1,8,some (.atom (.int .u64 0)),false⟩:=rfl
theorem zq8:yp 80=some ⟨.other,1,8,some (.atom .nilFunc),false⟩:=rfl
theorem zq7:yp 82=some ⟨.slice 32,1,24,some (.osl 1 true []),false⟩:=rfl
theorem zq6:yp 83=some ⟨.other,1,8,some (.atom .nilFunc),false⟩:=rfl
theorem zq5:yp 84=some ⟨.other,1,8,some (.atom .nilFunc),false⟩:=rfl
theorem zq4:yp 93=some ⟨.other,1,8,some (.atom .nilFunc),false⟩:=rfl
theorem zq3:yp 95=some ⟨.struct [(0,1),(1,1)],2,16,some (.agg [.atom (.int .i64 0),.atom .nilFunc]),false⟩:=rfl
theorem zq2:yp 96=some ⟨.array 3 95,6,48,some (.agg [.agg [.atom (.int .i64 0),.atom .nilFunc],.agg [.atom (.int .i64 0),.atom .nilFunc],.agg [.atom (.int .i64 0),.atom .nilFunc]]),false⟩:=rfl
theorem zq1:yp 97=some ⟨.other,1,8,some (.atom .nilFunc),false⟩:=rfl
theorem zq0:yp 99=some ⟨.other,1,8,some (.atom .nilFunc),false⟩:=rfl
theorem znt:yp 104=some ⟨.int .u32,1,4,some (.atom (.int .u32 0)),false⟩:=rfl
theorem zns:yp 106=some ⟨.int .u64,1,8,some (.atom (.int .u64 0)),false⟩:=rfl
theorem znr:yp 111=some ⟨.slice 4,1,24,some (.osl 1 true []),false⟩:=rfl
theorem znq:yp 117=some ⟨.int .u16,1,2,some (.atom (.int .u16 0)),false⟩:=rfl
theorem znp:yp 120=some ⟨.other,1,8,some (.atom .nilFunc),false⟩:=rfl
theorem zno:yp 125=some ⟨.array 64 40,64,1536,some (.agg (List.replicate 64 (.dop (nlQ 1 [])))),false⟩:=rfl
theorem znn:yp 126=some ⟨.ptr 154,1,8,some (.atom (.pointer none)),false⟩:=rfl
theorem znm:yp 127=some ⟨.other,1,8,some (.atom .nilFunc),false⟩:=rfl
theorem znl:yp 131=some ⟨.other,1,8,some (.atom .nilFunc),false⟩:=rfl
theorem znk:yp 136=some ⟨.slice 111,1,24,some (.osl 1 true []),false⟩:=rfl
theorem znj:yp 144=some ⟨.slice 171,1,24,some (.osl 2 true []),false⟩:=rfl
theorem zni:yp 146=some ⟨.other,1,8,some (.atom .nilFunc),false⟩:=rfl
theorem znh:yp 147=some ⟨.other,1,8,some (.atom .nilFunc),false⟩:=rfl
theorem zng:yp 148=some ⟨.other,1,8,some (.atom .nilFunc),false⟩:=rfl
theorem znf:yp 149=some ⟨.other,1,8,some (.atom .nilFunc),false⟩:=rfl
theorem zne:yp 150=some ⟨.other,1,8,some (.atom .nilFunc),false⟩:=rfl
theorem znd:yp 152=some ⟨.other,1,8,some (.atom .nilFunc),false⟩:=rfl
theorem znc:yp 154=some ⟨.array 64 125,4096,98304,some (.agg (List.replicate 64 (.agg (List.replicate 64 (.dop (nlQ 1 [])))))),false⟩:=rfl
theorem znb:yp 155=some ⟨.slice 159,1,24,some (.osl 4 true []),false⟩:=rfl
theorem zna:yp 159=some ⟨.struct [(0,1),(1,1),(2,1),(3,1)],4,48,some (.agg [.atom (.int .i64 0),.atom (.int .i64 0),.osl 1 true [],.atom (.bool false)]),false⟩:=rfl
theorem zn9:yp 162=some ⟨.array 64 5,64,64,some (.agg (List.replicate 64 (.atom (.int .u8 0)))),false⟩:=rfl
theorem zn8:yp 166=some ⟨.other,1,8,some (.atom .nilFunc),false⟩:=rfl
theorem zn7:yp 168=some ⟨.other,1,8,some (.atom .nilFunc),false⟩:=rfl
theorem zn6:yp 169=some ⟨.other,1,8,some (.atom .nilFunc),false⟩:=rfl
theorem zn5:yp 171=some ⟨.array 2 3,2,16,some (.agg [.atom (.int .i64 0),.atom (.int .i64 0)]),true⟩:=rfl
theorem zn4:yp 174=some ⟨.other,1,8,some (.atom .nilFunc),false⟩:=rfl
theorem zn3:yp 187=some ⟨.other,1,8,some (.atom .nilFunc),false⟩:=rfl
theorem zn2:yp 188=some ⟨.other,1,8,some (.atom (.map none)),false⟩:=rfl
theorem zn1:yp 190=some ⟨.array 16 171,32,256,some (.agg [.agg [.atom (.int .i64 0),.atom (.int .i64 0)],.agg [.atom (.int .i64 0),.atom (.int .i64 0)],.agg [.atom (.int .i64 0),.atom (.int .i64 0)],.agg [.atom (.int .i64 0),.atom (.int .i64 0)],.agg [.atom (.int .i64 0),.atom (.int .i64 0)],.agg [.atom (.int .i64 0),.atom (.int .i64 0)],.agg [.atom (.int .i64 0),.atom (.int .i64 0)],.agg [.atom (.int .i64 0),.atom (.int .i64 0)],.agg [.atom (.int .i64 0),.atom (.int .i64 0)],.agg [.atom (.int .i64 0),.atom (.int .i64 0)],.agg [.atom (.int .i64 0),.atom (.int .i64 0)],.agg [.atom (.int .i64 0),.atom (.int .i64 0)],.agg [.atom (.int .i64 0),.atom (.int .i64 0)],.agg [.atom (.int .i64 0),.atom (.int .i64 0)],.agg [.atom (.int .i64 0),.atom (.int .i64 0)],.agg [.atom (.int .i64 0),.atom (.int .i64 0)]]),true⟩:=rfl
theorem zn0:yp 193=some ⟨.struct [(0,1),(1,32)],33,264,some (.agg [.atom (.int .i64 0),.agg [.agg [.atom (.int .i64 0),.atom (.int .i64 0)],.agg [.atom (.int .i64 0),.atom (.int .i64 0)],.agg [.atom (.int .i64 0),.atom (.int .i64 0)],.agg [.atom (.int .i64 0),.atom (.int .i64 0)],.agg [.atom (.int .i64 0),.atom (.int .i64 0)],.agg [.atom (.int .i64 0),.atom (.int .i64 0)],.agg [.atom (.int .i64 0),.atom (.int .i64 0)],.agg [.atom (.int .i64 0),.atom (.int .i64 0)],.agg [.atom (.int .i64 0),.atom (.int .i64 0)],.agg [.atom (.int .i64 0),.atom (.int .i64 0)],.agg [.atom (.int .i64 0),.atom (.int .i64 0)],.agg [.atom (.int .i64 0),.atom (.int .i64 0)],.agg [.atom (.int .i64 0),.atom (.int .i64 0)],.agg [.atom (.int .i64 0),.atom (.int .i64 0)],.agg [.atom (.int .i64 0),.atom (.int .i64 0)],.agg [.atom (.int .i64 0),.atom (.int .i64 0)]]]),true⟩:=rfl
attribute [go_sem] zsR zsQ zsP zsO zsN zsM zqq zqp zqo zqn zqm zql zqk zqj zqi zqh zqg zqf zqe zqd zqc zqb zqa zq9 zq8 zq7 zq6 zq5 zq4 zq3 zq2 zq1 zq0 znt zns znr znq znp zno znn znm znl znk znj zni znh zng znf zne znd znc znb zna zn9 zn8 zn7 zn6 zn5 zn4 zn3 zn2 zn1 zn0
end Go.Own

namespace Go.Proofs
open Go.Proofs.Tryz
open Go.RowKit Go.Lib
theorem Tryz.groI:(prog.info? 3).map (λi=>(i.size,i.bytes,i.zero))=some (1,8,some (.int .i64 0)):=by kernel_rfl
set_option maxHeartbeats 4000000 in
set_option maxRecDepth 100000 in
theorem Tryz.gro_run (p:Option Addr)(n:Nat)(w:World)(h0:0<n)(h1:n<=1000000) :
  Calls prog 168 #[.slice p 0 0,.int .i64 n] w λe w'=>
   e=.returned (.slice (some ⟨w.heap.size,0,none⟩) 0 (grownCap w n 0 3)) /\
   w'=w.drew.alloc (.cells (#[]++Builtin.zeroCells (Value.int .i64 0).cells n++Builtin.zeroCells (Value.int .i64 0).cells (grownCap w n 0 3 - n)) 3):=by
 obtain⟨i0,hi0,hi⟩:=pB.1 Tryz.groI;obtain⟨hs0,hi⟩:=Prod.mk.inj hi;obtain⟨hb0,hz0⟩:=Prod.mk.inj hi;have mixed:prog.follows .mixedOrders=true:=by kernel_rfl
 have h1':¬((n:Int)<0):=by omega
 have h3:wrap64 ((n:Int))=(n:Int):=by unfold wrap64;omega
 have h4:(n:Int) > 0:=by omega
 have hold:(Builtin.firstCells i0.size 0 (.slice p 0 0)).run prog w.drew=.ok ([]:List Value).toArray w.drew:=by
  cases p with
  | none=>exact run_firstCells_none w.drew i0.size 0 0 0
  | some a=>exact run_firstCells_some w.drew i0.size 0 a 0 0 [] (by simp) (λj v hj=>by simp at hj)
 have hrz:∀ty,(Builtin.append_ #[40,3] ty #[.slice p 0 0,.int .i64 (n:Int)]).run prog w =
   .ok (.slice (some ⟨w.heap.size,0,none⟩) n (grownCap w n 0 3)) (w.drew.alloc (.cells (#[]++Builtin.zeroCells (Value.int .i64 0).cells n++Builtin.zeroCells (Value.int .i64 0).cells (grownCap w n 0 3 - n)) 3)):=λty=>by
  have h:=Lib.run_append_grow_zeros w 40 3 ty 3 i0 (.int .i64 0) .i64 .i64 underlying40 underlying3 hi0 hz0 p 0 0 [] hold n h0 (by omega) (by omega) (by omega)
   (by rw[hb0];omega)
   (by rw[pq];exact growslice_fits h0 (by rw[hb0];omega))
  rw[pq]at h;exact h
 have hGn:n<=grownCap w n 0 3:=grownCap_ge w _ _ _;obtain⟨G,hG⟩:∃G,G=grownCap w n 0 3:=⟨_,rfl⟩;rw[<-hG]at hrz hGn ⊢;have hG63:G<=9223372036854775807:=by have:=grownCap_le_maxLen w n 0 3 (by unfold maxLen;omega);rw[<-hG]at this;unfold maxLen at this;omega
 clear hold hG
 go_enter func168,ntmps168
 cases p with
 | none=>
  go_wp2_with (at_builtin;refine Lib.wpList_append_run _ rfl _ _ _ _ rfl _ _ rfl rfl _ _ (hrz _) ?_)
  all_goals (go_ret;exact⟨rfl,rfl⟩)
 | some a=>
  obtain⟨ab,ao,asp⟩:=a
  go_wp2_with (at_builtin;refine Lib.wpList_append_run _ rfl _ _ _ _ rfl _ _ rfl rfl _ _ (hrz _) ?_)
  all_goals (go_ret;exact⟨rfl,rfl⟩)
end Go.Proofs
namespace Go.Own
open Go.Proofs
theorem zf7 (n:Int)(h0:0<n)(h1:n<=1000000):Qr Tryz.prog 168 [.sl 1 true [],eI .i64 n] (.osl 1 false []):=by
 refine⟨⟨_,Tryz.func168,by kernel_rfl,by kernel_rfl⟩,?_⟩;intro S w vs F hS hq hF;obtain⟨m,rfl⟩:∃m:Nat,n=(m:Int):=⟨n.toNat,by omega⟩;match vs,hq with
 | [u,v],q=>
  obtain⟨F1,F2,rfl,q1,F3,F4,rfl,q2,q3⟩:=q;have e3:F4=[]:=q3;subst e3;have d:∀{x:A} {u:Value} {F:List Nat},x.isD=true->Has S w.heap x u F->uL S x u/\F=[]:=by
   intro x u F hx q;rcases q with⟨q,rfl⟩|⟨cs,q1,q2,q3⟩
   ·exact⟨q.rep1 hx,rfl⟩
   ·obtain⟨r,rfl⟩:=q1.isD hx;exact⟨⟨cs,r,q3⟩,rfl⟩
  obtain⟨⟨cs,r1,e1⟩,rfl⟩:=d rfl q1;obtain⟨⟨ds,r2,e2⟩,rfl⟩:=d rfl q2;simp only[Rep]at r1;obtain⟨p,c,rfl,hc,_⟩:=r1;obtain rfl:c=0:=by simpa using hc
  have hv:v=.int .i64 (m:Int):=by
   rw[e2];obtain⟨rfl,_⟩:ds=[.int .i64 (m:Int)]/\_:=by simpa only[eI,Rep] using r2
   rfl
  have hu:u=.slice p 0 0:=by rw[e1];rfl
  subst hv hu;refine(Tryz.gro_run p m w (by omega) (by omega)).mono ?_;rintro e' w' ⟨rfl,rfl⟩;have hsz:∀k,(Builtin.zeroCells (Value.int .i64 0).cells k).size=k:=λk=>by simp[Builtin.zeroCells,Value.cells]
  have hGn:m<=grownCap w m 0 3:=grownCap_ge w _ _ _;have hGm:=grownCap_le_maxLen w m 0 3 (by unfold maxLen;omega);have hfr:∀o,S w.heap.size o=none:=λo=>by
   cases hh:S w.heap.size o with
   | none=>rfl
   | some x=>have:=hS _ _ _ hh;simp[yc]at this
  generalize grownCap w m 0 3=G at hGn hGm ⊢;refine⟨_,S,[w.heap.size],rfl,((UP.refl _ _).drew).alloc (.inl (pd _)) _,λ_ _ _ h=>h,λ_ _ _ _=>rfl,⟨λb o v h=>?_,hS.gok⟩,.inr ⟨[.slice (some ⟨w.heap.size,0,none⟩) 0 G],?_,by simp,rfl⟩,by simp,by simp⟩
  ·have h':=hS _ _ _ h;have hne:b≠w.heap.size:=by rintro rfl;rw[hfr]at h;cases h
   show yc (w.heap.push _) b o=some v;unfold yc at h' ⊢;rw[ns,if_neg hne];exact h'
  ·simp only[zM];refine⟨_,G,rfl,by simp,by simp,hGm,by simp,.inr ⟨w.heap.size,_,3,[],[],rfl,by show(w.heap.push _)[w.heap.size]?=_;rw[ns,if_pos rfl],?_,by simp,⟨rfl,rfl⟩,rfl,hfr⟩⟩;simp only[Array.size_append,hsz,Array.size_empty];omega
structure wK (α:Type) where
 e0:α
 e1:α
 deriving DecidableEq
instance {α:Type}[BEq α]:BEq (wK α):=⟨λx y=>(x.e0==y.e0)&&(x.e1==y.e1)⟩
section
variable {α:Type}
def z2B (f:α->A)(x:wK α):A:=.agg [f x.e0,f x.e1]
instance (f:α->A)[h:zaY f]:zaY (z2B f):=⟨λx=>by simp[z2B,A.isD,A.areD,h.isD]⟩
instance (f g:α->A)[h:z3j f g]:z3j (z2B f) (z2B g):=⟨λx=>by simp[z2B,A.loose,A.looses,h.lo]⟩
instance (f g:α->A)[h:z0A f g]:z0A (z2B f) (z2B g):=⟨λx=>by simp[z2B,A.live,A.lives,h.live],λx=>by simp[z2B,A.shut,A.shuts,h.sh]⟩
instance (f:α->A)[h:YD f]:YD (z2B f):=⟨λx y q=>by simp only[z2B,A.agg.injEq,List.cons.injEq,and_true]at q;cases x;cases y;simp only[wK.mk.injEq];exact⟨h.inj _ _ q.1,h.inj _ _ q.2⟩⟩
end
structure xg (α:Type) where
 e0:α
 e1:α
 e2:α
 e3:α
 e4:α
 e5:α
 e6:α
 e7:α
 e8:α
 e9:α
 e10:α
 e11:α
 e12:α
 e13:α
 e14:α
 e15:α
 deriving DecidableEq
instance {α:Type}[BEq α]:BEq (xg α):=⟨λx y=>(x.e0==y.e0)&&(x.e1==y.e1)&&(x.e2==y.e2)&&(x.e3==y.e3)&&(x.e4==y.e4)&&(x.e5==y.e5)&&(x.e6==y.e6)&&(x.e7==y.e7)&&(x.e8==y.e8)&&(x.e9==y.e9)&&(x.e10==y.e10)&&(x.e11==y.e11)&&(x.e12==y.e12)&&(x.e13==y.e13)&&(x.e14==y.e14)&&(x.e15==y.e15)⟩
section
variable {α:Type}
def zfn (f:α->A)(x:xg α):A:=.agg [f x.e0,f x.e1,f x.e2,f x.e3,f x.e4,f x.e5,f x.e6,f x.e7,f x.e8,f x.e9,f x.e10,f x.e11,f x.e12,f x.e13,f x.e14,f x.e15]
end
section
variable {α:Type}
def xg.toL (x:xg α):List α:=[x.e0,x.e1,x.e2,x.e3,x.e4,x.e5,x.e6,x.e7,x.e8,x.e9,x.e10,x.e11,x.e12,x.e13,x.e14,x.e15]
def xg.ofL:List α->xg α->xg α
 | [x0,x1,x2,x3,x4,x5,x6,x7,x8,x9,cr,ez,x12,dc,cg,x15],_=>⟨x0,x1,x2,x3,x4,x5,x6,x7,x8,x9,cr,ez,x12,dc,cg,x15⟩
 | _,d=>d
theorem xg.toL_ofL (l:List α)(d:xg α)(h:l.length=16):(xg.ofL l d).toL=l:=by
 match l,h with
 | [x0,x1,x2,x3,x4,x5,x6,x7,x8,x9,cr,ez,x12,dc,cg,x15],_=>rfl
def xg.setI (x:xg α)(i:Int)(v:α):xg α:=xg.ofL (x.toL.set i.toNat v) x
theorem xg.setL (f:α->A)(x:xg α)(i:Int)(v:α):(x.toL.map f).set i.toNat (f v)=((xg.setI x i v).toL).map f:=by unfold xg.setI;rw[xg.toL_ofL _ _ (by simp[xg.toL]),List.map_set]
end
structure zG where
 States:Int
 Inputs:Int
 Outputs:Int
 Tree:List Int
 Edges:List Int
def Y3 (f0:Int->A)(f1:Int->A)(f2:Int->A)(f3:List Int->A)(f4:List Int->A)(x:zG):A:=.agg [f0 x.States,f1 x.Inputs,f2 x.Outputs,f3 x.Tree,f4 x.Edges]
instance (f0:Int->A)(f1:Int->A)(f2:Int->A)(f3:List Int->A)(f4:List Int->A)(g0:Int->A)(g1:Int->A)(g2:Int->A)(g3:List Int->A)(g4:List Int->A)[h0:z3j f0 g0][h1:z3j f1 g1][h2:z3j f2 g2][h3:z3j f3 g3][h4:z3j f4 g4]:z3j (Y3 f0 f1 f2 f3 f4) (Y3 g0 g1 g2 g3 g4):=⟨λx=>by simp[Y3,A.loose,A.looses,h0.lo,h1.lo,h2.lo,h3.lo,h4.lo]⟩
instance (f0:Int->A)(f1:Int->A)(f2:Int->A)(f3:List Int->A)(f4:List Int->A)[h0:YD f0][h1:YD f1][h2:YD f2][h3:YD f3][h4:YD f4]:YD (Y3 f0 f1 f2 f3 f4):=⟨λx y h=>by simp only[Y3,A.agg.injEq,List.cons.injEq,and_true]at h;cases x;cases y;simp only[zG.mk.injEq];exact⟨h0.inj _ _ h.1,h1.inj _ _ h.2.1,h2.inj _ _ h.2.2.1,h3.inj _ _ h.2.2.2.1,h4.inj _ _ h.2.2.2.2⟩⟩
structure ur where
 C:zG
def Y2 (f0:zG->A)(x:ur):A:=.agg [f0 x.C]
instance (f0:zG->A)(g0:zG->A)[h0:z3j f0 g0]:z3j (Y2 f0) (Y2 g0):=⟨λx=>by simp[Y2,A.loose,A.looses,h0.lo]⟩
instance (f0:zG->A)[h0:YD f0]:YD (Y2 f0):=⟨λx y h=>by simp only[Y2,A.agg.injEq,List.cons.injEq,and_true]at h;cases x;cases y;simp only[ur.mk.injEq];exact h0.inj _ _ h⟩
structure z8 where
 To:Int
 Out:Int
def u7 (f0:Int->A)(f1:Int->A)(x:z8):A:=.agg [f0 x.To,f1 x.Out]
instance (f0:Int->A)(f1:Int->A)[h0:zaY f0][h1:zaY f1]:zaY (u7 f0 f1):=⟨λx=>by simp[u7,A.isD,A.areD,h0.isD,h1.isD]⟩
instance (f0:Int->A)(f1:Int->A)(g0:Int->A)(g1:Int->A)[h0:z3j f0 g0][h1:z3j f1 g1]:z3j (u7 f0 f1) (u7 g0 g1):=⟨λx=>by simp[u7,A.loose,A.looses,h0.lo,h1.lo]⟩
instance (f0:Int->A)(f1:Int->A)(g0:Int->A)(g1:Int->A)[h0:z0A f0 g0][h1:z0A f1 g1]:z0A (u7 f0 f1) (u7 g0 g1):=⟨λx=>by simp[u7,A.live,A.lives,h0.live,h1.live],λx=>by simp[u7,A.shut,A.shuts,h0.sh,h1.sh]⟩
instance (f0:Int->A)(f1:Int->A)[h0:YD f0][h1:YD f1]:YD (u7 f0 f1):=⟨λx y h=>by simp only[u7,A.agg.injEq,List.cons.injEq,and_true]at h;cases x;cases y;simp only[z8.mk.injEq];exact⟨h0.inj _ _ h.1,h1.inj _ _ h.2⟩⟩
structure z6 where
 Inputs:Int
 Outputs:Int
 Rows:List (List z8)
def wx (f0:Int->A)(f1:Int->A)(f2:List (List z8)->A)(x:z6):A:=.agg [f0 x.Inputs,f1 x.Outputs,f2 x.Rows]
instance (f0:Int->A)(f1:Int->A)(f2:List (List z8)->A)(g0:Int->A)(g1:Int->A)(g2:List (List z8)->A)[h0:z3j f0 g0][h1:z3j f1 g1][h2:z3j f2 g2]:z3j (wx f0 f1 f2) (wx g0 g1 g2):=⟨λx=>by simp[wx,A.loose,A.looses,h0.lo,h1.lo,h2.lo]⟩
instance (f0:Int->A)(f1:Int->A)(f2:List (List z8)->A)[h0:YD f0][h1:YD f1][h2:YD f2]:YD (wx f0 f1 f2):=⟨λx y h=>by simp only[wx,A.agg.injEq,List.cons.injEq,and_true]at h;cases x;cases y;simp only[z6.mk.injEq];exact⟨h0.inj _ _ h.1,h1.inj _ _ h.2.1,h2.inj _ _ h.2.2⟩⟩
instance (f0:Int->A)(f1:Int->A)(f2:List (List z8)->A)(g0:Int->A)(g1:Int->A)(g2:List (List z8)->A)(x:z6)[∀y,LeA (f0 y) (g0 y)][∀y,LeA (f1 y) (g1 y)][∀y,LeA (f2 y) (g2 y)][∀y,SzA (f0 y) (g0 y)][∀y,SzA (f1 y) (g1 y)][∀y,SzA (f2 y) (g2 y)]:LeA (wx f0 f1 f2 x) (wx g0 g1 g2 x):=by unfold wx;infer_instance
structure zA where
 block_:Int
 signature_:xg (wK Int)
instance:BEq zA:=⟨λx y=>(x.block_==y.block_)&&(x.signature_==y.signature_)⟩
def JW (f0:Int->A)(f1:xg (wK Int)->A)(x:zA):A:=.agg [f0 x.block_,f1 x.signature_]
structure zJ where
 S:Int
 T:Int
 Word:List Int
 Apart:Bool
def zW (f0:Int->A)(f1:Int->A)(f2:List Int->A)(f3:Bool->A)(x:zJ):A:=.agg [f0 x.S,f1 x.T,f2 x.Word,f3 x.Apart]
instance (f0:Int->A)(f1:Int->A)(f2:List Int->A)(f3:Bool->A)[h0:zaY f0][h1:zaY f1][h2:zaY f2][h3:zaY f3]:zaY (zW f0 f1 f2 f3):=⟨λx=>by simp[zW,A.isD,A.areD,h0.isD,h1.isD,h2.isD,h3.isD]⟩
instance (f0:Int->A)(f1:Int->A)(f2:List Int->A)(f3:Bool->A)(g0:Int->A)(g1:Int->A)(g2:List Int->A)(g3:Bool->A)[h0:z0A f0 g0][h1:z0A f1 g1][h2:z0A f2 g2][h3:z0A f3 g3]:z0A (zW f0 f1 f2 f3) (zW g0 g1 g2 g3):=⟨λx=>by simp[zW,A.live,A.lives,h0.live,h1.live,h2.live,h3.live],λx=>by simp[zW,A.shut,A.shuts,h0.sh,h1.sh,h2.sh,h3.sh]⟩
instance:zs1 (K:=zA) (JW (eI .i64) (zfn (z2B (eI .i64)))):=⟨λx y=>by obtain⟨_,⟨⟨_,_⟩,⟨_,_⟩,⟨_,_⟩,⟨_,_⟩,⟨_,_⟩,⟨_,_⟩,⟨_,_⟩,⟨_,_⟩,⟨_,_⟩,⟨_,_⟩,⟨_,_⟩,⟨_,_⟩,⟨_,_⟩,⟨_,_⟩,⟨_,_⟩,⟨_,_⟩⟩⟩:=x;obtain⟨_,⟨⟨_,_⟩,⟨_,_⟩,⟨_,_⟩,⟨_,_⟩,⟨_,_⟩,⟨_,_⟩,⟨_,_⟩,⟨_,_⟩,⟨_,_⟩,⟨_,_⟩,⟨_,_⟩,⟨_,_⟩,⟨_,_⟩,⟨_,_⟩,⟨_,_⟩,⟨_,_⟩⟩⟩:=y;simp only[zfn,z2B,JW,eI,z5w,z8Y,z8Y.keyLs,zY,BEq.beq,pE,Option.some.injEq,Value.agg.injEq,pJ,p9,pt,Array.mk.injEq,List.cons.injEq,Value.int.injEq,true_and,and_true,ph,decide_eq_true_eq,and_assoc]⟩
def zkj:ArN 64 Int:=⟨zpU,rfl⟩
def YA (l_:List Int)(k_:Int):Option Int :=
 bif decide (k_<((l_.length:Nat):Int)) then(
  (idx l_ k_).bind λbg=>
  some (w64 (bg)))
 else(
  some 0)
def Vh (x_:zG)(gu:List (List z8)):Option z6 :=
 some (z6.mk (w64 (1+(w64 (Int.tmod x_.Inputs 3)))) (w64 (1+(w64 (Int.tmod x_.Outputs 3)))) gu)
def Vg (s_:Int)(gv:List (List z8)):Option (LR (List (List z8)×Int) (List (List z8))) :=
 some (.next (gv,w64 (s_+1)))
def Xi (i_:Int)(gw:List (List z8)):Option (LR (List (List z8)×Int) (List (List z8))) :=
 some (.next (gw,w64 (i_+1)))
def ZC (x_:zG)(s_:Int)(cq:List (List z8))(i_:Int):Option (LR (List (List z8)×Int) (List (List z8))) :=
 bif decide (i_<(w64 (1+(w64 (Int.tmod x_.Inputs 3))))) then(
  (idx cq s_).bind λj9=>
  (idx j9 i_).bind λjf=>
  bif decide (jf.To<0) then(
   (idx cq s_).bind λfk=>
   (YA x_.Edges (w64 ((w64 (s_*(w64 (1+(w64 (Int.tmod x_.Inputs 3))))))+i_))).bind λr_=>
   gd (((w64 (1+(w64 (Int.tmod x_.States 6)))):Int)≠0) <|
   (idx fk i_).bind λff=>
   Xi i_ (cq.set s_.toNat (fk.set i_.toNat (z8.mk (Int.tmod r_ (w64 (1+(w64 (Int.tmod x_.States 6))))) ff.Out))))
  else(
   Xi i_ cq))
 else(
  some (.done cq))
def ZD (x_:zG)(fc:List (List z8))(s_:Int):Option (LR (List (List z8)×Int) (List (List z8))) :=
 bif decide (s_<(w64 (1+(w64 (Int.tmod x_.States 6))))) then(
  (loop (λs=>ZC x_ s_ s.1 s.2) (fc,0)).bind λt6=>
  Vg s_ t6)
 else(
  some (.done fc))
def Vi (x_:zG)(gf:List (List z8)):Option z6 :=
 (loop (λs=>ZD x_ s.1 s.2) (gf,0)).bind λt4=>
 Vh x_ t4
def Vf (a6:Int)(gx:List (List z8)):Option (LR (List (List z8)×Int) (List (List z8))) :=
 some (.next (gx,w64 (a6+1)))
def uD (x_:zG)(ay:List (List z8))(a6:Int)(k_:Int):Option (LR (List (List z8)×Int) (List (List z8))) :=
 gd (((w64 (1+(w64 (Int.tmod x_.Inputs 3)))):Int)≠0) <|
 (idx ay (w64 (Int.tdiv k_ (w64 (1+(w64 (Int.tmod x_.Inputs 3))))))).bind λfl=>
 gd (((w64 (1+(w64 (Int.tmod x_.Inputs 3)))):Int)≠0) <|
 (idx fl (Int.tmod k_ (w64 (1+(w64 (Int.tmod x_.Inputs 3)))))).bind λfg=>
 Vf a6 (ay.set (w64 (Int.tdiv k_ (w64 (1+(w64 (Int.tmod x_.Inputs 3)))))).toNat (fl.set (Int.tmod k_ (w64 (1+(w64 (Int.tmod x_.Inputs 3))))).toNat (z8.mk a6 fg.Out)))
def Wh (x_:zG)(ay:List (List z8))(a6:Int)(free:List Int):Option (LR (List (List z8)×Int) (List (List z8))) :=
 (idx free 0).bind λix=>
 bif decide ((w64 (a6 - 1))<((x_.Tree.length:Nat):Int)) then(
  (idx x_.Tree (w64 (a6 - 1))).bind λkj=>
  gd ((((free.length:Nat):Int):Int)≠0) <|
  (idx free (Int.tmod (w64 (kj)) ((free.length:Nat):Int))).bind λje=>
  uD x_ ay a6 je)
 else(
  uD x_ ay a6 ix)
def Y1 (a9:Int)(iy:List Int):Option (LR (List Int×Int) (List Int)) :=
 some (.next (iy,w64 (a9+1)))
def jP (x_:zG)(ay:List (List z8))(a6:Int)(eh:List Int)(a9:Int):Option (LR (List Int×Int) (List Int)) :=
 bif decide (a9<(w64 (a6*(w64 (1+(w64 (Int.tmod x_.Inputs 3))))))) then(
  gd (((w64 (1+(w64 (Int.tmod x_.Inputs 3)))):Int)≠0) <|
  (idx ay (w64 (Int.tdiv a9 (w64 (1+(w64 (Int.tmod x_.Inputs 3))))))).bind λju=>
  gd (((w64 (1+(w64 (Int.tmod x_.Inputs 3)))):Int)≠0) <|
  (idx ju (Int.tmod a9 (w64 (1+(w64 (Int.tmod x_.Inputs 3)))))).bind λiz=>
  bif decide (iz.To<0) then(
   gd (eh.length+([a9]:List Int).length<=4294967296) <|
   Y1 a9 (eh++([a9]:List Int)))
  else(
   Y1 a9 eh))
 else(
  some (.done eh))
def ZB (x_:zG)(ay:List (List z8))(a6:Int):Option (LR (List (List z8)×Int) (List (List z8))) :=
 bif decide (a6<(w64 (1+(w64 (Int.tmod x_.States 6))))) then(
  (loop (λs=>jP x_ ay a6 s.1 s.2) (([]:List Int),0)).bind λt12=>
  Wh x_ ay a6 t12)
 else(
  some (.done ay))
def Vj (x_:zG)(gy:List (List z8)):Option z6 :=
 (loop (λs=>ZB x_ s.1 s.2) (gy,1)).bind λt8=>
 Vi x_ t8
def Wg (bi:Int)(gh:List (List z8)):Option (LR (List (List z8)×Int) (List (List z8))) :=
 some (.next (gh,w64 (bi+1)))
def Wf (bn:List (List z8))(bi:Int)(row:List z8):Option (LR (List (List z8)×Int) (List (List z8))) :=
 gd (bn.length+([row]:List (List z8)).length<=4294967296) <|
 Wg bi (bn++([row]:List (List z8)))
def jN (x_:zG)(bi:Int)(ca:List z8)(i3:Int):Option (LR (List z8×Int) (List z8)) :=
 bif decide (i3<(w64 (1+(w64 (Int.tmod x_.Inputs 3))))) then(
  (YA x_.Edges (w64 ((w64 (bi*(w64 (1+(w64 (Int.tmod x_.Inputs 3))))))+i3))).bind λah=>
  gd (((w64 (1+(w64 (Int.tmod x_.States 6)))):Int)≠0) <|
  gd (((w64 (1+(w64 (Int.tmod x_.Outputs 3)))):Int)≠0) <|
  gd (ca.length+([(z8.mk (-1) (Int.tmod (w64 (Int.tdiv ah (w64 (1+(w64 (Int.tmod x_.States 6)))))) (w64 (1+(w64 (Int.tmod x_.Outputs 3))))))]:List z8).length<=4294967296) <|
  some (.next ((ca++([(z8.mk (-1) (Int.tmod (w64 (Int.tdiv ah (w64 (1+(w64 (Int.tmod x_.States 6)))))) (w64 (1+(w64 (Int.tmod x_.Outputs 3))))))]:List z8)),w64 (i3+1))))
 else(
  some (.done ca))
def jO (x_:zG)(bn:List (List z8))(bi:Int):Option (LR (List (List z8)×Int) (List (List z8))) :=
 bif decide (bi<(w64 (1+(w64 (Int.tmod x_.States 6))))) then(
  (loop (λs=>jN x_ bi s.1 s.2) (([]:List z8),0)).bind λt17=>
  Wf bn bi t17)
 else(
  some (.done bn))
def Jk (x_:zG):Option z6 :=
 gd ((6:Int)≠0) <|
 gd ((3:Int)≠0) <|
 gd ((3:Int)≠0) <|
 (loop (λs=>jO x_ s.1 s.2) (([]:List (List z8)),0)).bind λmc=>
 Vj x_ mc
def QO:Option Int :=
 some 0
def jL (i_:Int)(lq:Int)(lu:Bool)(lv:Bool)(lw:Bool)(ly:Bool)(lz:Bool):Option (LR Int (Unit⊕Int)) :=
 some (.next (w64 (i_+1)))
def jK (m_:z6)(aw:List (List Bool))(s_:Int)(t_:Int)(i_:Int):Option (LR Int (Unit⊕Int)) :=
 bif decide (i_<m_.Inputs) then(
  (idx m_.Rows s_).bind λam=>
  (idx am i_).bind λak=>
  (idx m_.Rows t_).bind λij=>
  (idx ij i_).bind λbk=>
  bif ak.Out != bk.Out then(
   some (.done (.inr 1)))
  else(
   bif decide (ak.To>=0) then(
    bif decide (bk.To>=0) then(
     (idx aw ak.To).bind λdw=>
     (idx dw bk.To).bind λcb=>
     bif cb then(
      some (.done (.inr 1)))
     else(
      jL i_ ak.To (decide (ak.To>=0)) (decide (ak.To>=0)) (decide (bk.To>=0)) (decide (bk.To>=0)) cb))
    else(
     jL i_ ak.To (decide (ak.To>=0)) (decide (ak.To>=0)) (decide (bk.To>=0)) (decide (bk.To>=0)) false))
   else(
    jL i_ ak.To (decide (ak.To>=0)) (decide (ak.To>=0)) false false false)))
 else(
  some (.done (.inl ())))
def Uh (m_:z6)(aw:List (List Bool))(s_:Int)(t_:Int):Option Int :=
 (loop (λs=>jK m_ aw s_ t_ s) 0).bind λt2=>
 match t2 with
 | .inl p=>QO
 | .inr p=>some p
def X6 (im:List (List Bool)):Option (List (List Bool)) :=
 some im
def X5 (round:Int)(gz:List (List Bool)):Option (LR (List (List Bool)×Int) (List (List Bool))) :=
 some (.next (gz,w64 (round+1)))
def X4 (round:Int)(next:List (List Bool)):Option (LR (List (List Bool)×Int) (List (List Bool))) :=
 X5 round next
def X3 (s_:Int)(i4:List (List Bool)):Option (LR (List (List Bool)×Int) (List (List Bool))) :=
 some (.next (i4,w64 (s_+1)))
def vG (m_:z6)(bc:List (List Bool))(s_:Int)(em:List (List Bool))(t_:Int):Option (LR (List (List Bool)×Int) (List (List Bool))) :=
 bif decide (t_<((m_.Rows.length:Nat):Int)) then(
  (idx em s_).bind λdx=>
  (idx bc s_).bind λdw=>
  (idx dw t_).bind λcb=>
  bif cb then(
   (idx dx t_).bind λk0=>
   some (.next ((em.set s_.toNat (dx.set t_.toNat true)),w64 (t_+1))))
  else(
   (Uh m_ bc s_ t_).bind λr_=>
   (idx dx t_).bind λkl=>
   some (.next ((em.set s_.toNat (dx.set t_.toNat (r_==1))),w64 (t_+1)))))
 else(
  some (.done em))
def vH (m_:z6)(bc:List (List Bool))(ft:List (List Bool))(s_:Int):Option (LR (List (List Bool)×Int) (List (List Bool))) :=
 bif decide (s_<((m_.Rows.length:Nat):Int)) then(
  gd ((0:Int)<=((m_.Rows.length:Nat):Int)/\(((m_.Rows.length:Nat):Int):Int)<=4294967296) <|
  gd (ft.length+([(List.replicate ((m_.Rows.length:Nat):Int).toNat false)]:List (List Bool)).length<=4294967296) <|
  (loop (λs=>vG m_ bc s_ s.1 s.2) ((ft++([(List.replicate ((m_.Rows.length:Nat):Int).toNat false)]:List (List Bool))),0)).bind λt8=>
  X3 s_ t8)
 else(
  some (.done ft))
def vI (m_:z6)(k_:Int)(bc:List (List Bool))(round:Int):Option (LR (List (List Bool)×Int) (List (List Bool))) :=
 bif decide (round<k_) then(
  (loop (λs=>vH m_ bc s.1 s.2) (([]:List (List Bool)),0)).bind λt6=>
  X4 round t6)
 else(
  some (.done bc))
def X7 (m_:z6)(k_:Int)(aw:List (List Bool)):Option (List (List Bool)) :=
 (loop (λs=>vI m_ k_ s.1 s.2) (aw,0)).bind λt3=>
 X6 t3
def vF (m_:z6)(d6:List (List Bool))(a6:Int):Option (LR (List (List Bool)×Int) (List (List Bool))) :=
 bif decide (a6<((m_.Rows.length:Nat):Int)) then(
  gd ((0:Int)<=((m_.Rows.length:Nat):Int)/\(((m_.Rows.length:Nat):Int):Int)<=4294967296) <|
  gd (d6.length+([(List.replicate ((m_.Rows.length:Nat):Int).toNat false)]:List (List Bool)).length<=4294967296) <|
  some (.next ((d6++([(List.replicate ((m_.Rows.length:Nat):Int).toNat false)]:List (List Bool))),w64 (a6+1))))
 else(
  some (.done d6))
def Wt (m_:z6)(k_:Int):Option (List (List Bool)) :=
 (loop (λs=>vF m_ s.1 s.2) (([]:List (List Bool)),0)).bind λt9=>
 X7 m_ k_ t9
def X2 (out:List Int):Option (List Int) :=
 some out
def kA (s_:Int)(az:List Int)(cj:Int):Option (LR (List Int×Int×Int) (List Int)) :=
 some (.next (az,cj,w64 (s_+1)))
def wS (ai:List Int)(s_:Int)(km:Int)(i5:Int):Option (LR (List Int×Int×Int) (List Int)) :=
 gd (ai.length+([i5]:List Int).length<=4294967296) <|
 kA s_ (ai++([i5]:List Int)) km
def k8 (ai:List Int)(n_:Int)(s_:Int)(b_:Int):Option (LR (List Int×Int×Int) (List Int)) :=
 bif decide (b_<0) then(
  wS ai s_ (w64 (n_+1)) n_)
 else(
  wS ai s_ n_ b_)
def uj (t_:Int)(kn:Int):Option (LR (Int×Int) Int) :=
 some (.next (kn,w64 (t_+1)))
def ui (aw:List (List Bool))(ai:List Int)(s_:Int)(jg:Int)(t_:Int):Option (LR (Int×Int) Int) :=
 bif decide (t_<s_) then(
  (idx aw s_).bind λdw=>
  (idx dw t_).bind λcb=>
  bif !cb then(
   (idx ai t_).bind λbq=>
   uj t_ bq)
  else(
   uj t_ jg))
 else(
  some (.done jg))
def k7 (aw:List (List Bool))(ai:List Int)(n_:Int)(s_:Int):Option (LR (List Int×Int×Int) (List Int)) :=
 bif decide (s_<((aw.length:Nat):Int)) then(
  (loop (λs=>ui aw ai s_ s.1 s.2) ((-1),0)).bind λt6=>
  k8 ai n_ s_ t6)
 else(
  some (.done ai))
def Zg (aw:List (List Bool)):Option (List Int) :=
 (loop (λs=>k7 aw s.1 s.2.1 s.2.2) (([]:List Int),0,0)).bind λt2=>
 X2 t2
def Qm (m_:z6)(k_:Int):Option (List Int) :=
 (Wt m_ k_).bind λr_=>
 (Zg r_).bind λah=>
 some ah
def Zw (m_:z6):Option (List Int) :=
 (Qm m_ ((m_.Rows.length:Nat):Int)).bind λr_=>
 some r_
def Vw (m_:z6)(s_:Int)(i_:Int):Option z8 :=
 bif decide (s_<0) then(
  some (z8.mk (-1) (-1)))
 else(
  (idx m_.Rows s_).bind λam=>
  (idx am i_).bind λak=>
  some ak)
def Zx (ig:z6->Int->(List Int)->Option Int)(m_:z6)(s_:Int)(w_:List Int):Option Int :=
 bif ((w_.length:Nat):Int)==0 then(
  some s_)
 else(
  (idx w_ 0).bind λd8=>
  (Vw m_ s_ d8).bind λr_=>
  gd ((0:Int)<=1/\(1:Int)<=((w_.length:Nat):Int)/\(((w_.length:Nat):Int):Int)<=((w_.length:Nat):Int)) <|
  (ig m_ r_.To (w_.drop (1:Int).toNat)).bind λah=>
  some ah)
def Xc (fu:Nat):z6->Int->(List Int)->Option Int:=Nat.rec (motive:=λ_=>z6->Int->(List Int)->Option Int) (λ_ _ _=>none) (λ_ ih=>Zx ih) fu
def JQ (m_:z6)(s_:Int)(w_:List Int):Option Int:=Xc (w_.length+1) m_ s_ w_
def X9 (out:List Int):Option (List Int) :=
 gd (out.length+([0]:List Int).length<=4294967296) <|
 some (out++([0]:List Int))
def X8 (inputs:Int)(ai:List Int)(k_:Int):Option (LR (List Int×Int) (List Int⊕List Int)) :=
 bif decide (k_>=0) then(
  (idx ai k_).bind λbq=>
  bif decide ((w64 (bq+1))<inputs) then(
   (idx ai k_).bind λdy=>
   (idx ai k_).bind λjv=>
   some (.done (.inr (ai.set k_.toNat (w64 (dy+1))))))
  else(
   (idx ai k_).bind λjw=>
   some (.next ((ai.set k_.toNat 0),w64 (k_ - 1)))))
 else(
  some (.done (.inl ai)))
def XP (w_:List Int)(inputs:Int):Option (List Int) :=
 gd (([]:List Int).length+w_.length<=4294967296) <|
 (loop (λs=>X8 inputs s.1 s.2) (w_,w64 (((w_.length:Nat):Int) - 1))).bind λt2=>
 match t2 with
 | .inl p=>X9 p
 | .inr p=>some p
def Wb (l_:List (List Int))(is:List Bool):Option (List (List Int)×List Bool) :=
 some (l_,is)
def uC (m_:z6)(w_:List Int)(gc:List (List Int))(ko:List Bool):Option (LR (List (List Int)×List Bool×List Int) ((List (List Int)×List Bool))) :=
 (XP w_ m_.Inputs).bind λr_=>
 some (.next (gc,ko,r_))
def Wa (m_:z6)(bu:Int)(eb:List (List Int))(gi:List Bool)(w_:List Int):Option (LR (List (List Int)×List Bool×List Int) ((List (List Int)×List Bool))) :=
 bif decide (((w_.length:Nat):Int)<((m_.Rows.length:Nat):Int)) then(
  (JQ m_ bu w_).bind λah=>
  bif decide (ah>=0) then(
   (idx gi ah).bind λl4=>
   bif !l4 then(
    (idx gi ah).bind λl9=>
    (idx eb ah).bind λbg=>
    uC m_ w_ (eb.set ah.toNat w_) (gi.set ah.toNat true))
   else(
    uC m_ w_ eb gi))
  else(
   uC m_ w_ eb gi))
 else(
  some (.done (eb,gi)))
def Ui (m_:z6)(bu:Int):Option (List (List Int)×List Bool) :=
 gd ((0:Int)<=((m_.Rows.length:Nat):Int)/\(((m_.Rows.length:Nat):Int):Int)<=4294967296) <|
 gd ((0:Int)<=((m_.Rows.length:Nat):Int)/\(((m_.Rows.length:Nat):Int):Int)<=4294967296) <|
 (loop (λs=>Wa m_ bu s.1 s.2.1 s.2.2) ((List.replicate ((m_.Rows.length:Nat):Int).toNat ([]:List Int)),(List.replicate ((m_.Rows.length:Nat):Int).toNat false),([]:List Int))).bind λt2=>
 Wb t2.1 t2.2
def Wu (m_:z6):Option (List (List Int)×List Bool) :=
 (Ui m_ 0).bind λr_=>
 some (r_.1,r_.2)
def JP:Option Int :=
 some 0
def Xa (a_:List Int)(b_:List Int)(i_:Int):Option (LR Int (Unit⊕Int)) :=
 bif decide (i_<((a_.length:Nat):Int)) then(
  (idx a_ i_).bind λdl=>
  (idx b_ i_).bind λdm=>
  bif dl != dm then(
   (idx a_ i_).bind λgn=>
   (idx b_ i_).bind λgp=>
   bif decide (gn<gp) then(
    some (.done (.inr 1)))
   else(
    some (.done (.inr 0))))
  else(
   some (.next (w64 (i_+1)))))
 else(
  some (.done (.inl ())))
def Jd (a_:List Int)(b_:List Int):Option Int :=
 bif ((a_.length:Nat):Int) !=((b_.length:Nat):Int) then(
  bif decide (((a_.length:Nat):Int)<((b_.length:Nat):Int)) then(
   some 1)
  else(
   some 0))
 else(
  (loop (λs=>Xa a_ b_ s) 0).bind λt2=>
  match t2 with
  | .inl p=>JP
  | .inr p=>some p)
def QP (out:List Int):Option (List Int) :=
 some out
def jM (s_:Int)(az:List Int):Option (LR (List Int×Int) (List Int)) :=
 some (.next (az,w64 (s_+1)))
def Wc (ai:List Int)(s_:Int)(k_:Int):Option (LR (List Int×Int) (List Int)) :=
 gd ((0:Int)<=0/\(0:Int)<=k_/\(k_:Int)<=((ai.length:Nat):Int)) <|
 gd (([]:List Int).length+((ai.drop 0).take (k_.toNat - 0)).length<=4294967296) <|
 gd (((ai.drop 0).take (k_.toNat - 0)).length+([s_]:List Int).length<=4294967296) <|
 gd ((0:Int)<=k_/\(k_:Int)<=((ai.length:Nat):Int)/\(((ai.length:Nat):Int):Int)<=((ai.length:Nat):Int)) <|
 gd ((((ai.drop 0).take (k_.toNat - 0))++([s_]:List Int)).length+(ai.drop k_.toNat).length<=4294967296) <|
 jM s_ ((((ai.drop 0).take (k_.toNat - 0))++([s_]:List Int))++(ai.drop k_.toNat))
def ZX (r_:List (List Int)×List Bool)(ai:List Int)(s_:Int)(a9:Int):Option (LR Int Int) :=
 bif decide (a9<((ai.length:Nat):Int)) then(
  (idx ai a9).bind λbq=>
  (idx r_.1 bq).bind λlf=>
  (idx r_.1 s_).bind λlh=>
  (Jd lf lh).bind λah=>
  bif ah==1 then(
   some (.next (w64 (a9+1))))
  else(
   some (.done a9)))
 else(
  some (.done a9))
def ZY (r_:List (List Int)×List Bool)(ai:List Int)(s_:Int):Option (LR (List Int×Int) (List Int)) :=
 bif decide (s_<((r_.1.length:Nat):Int)) then(
  (idx r_.2 s_).bind λu_=>
  bif !u_ then(
   jM s_ ai)
  else(
   (loop (λs=>ZX r_ ai s_ s) 0).bind λt5=>
   Wc ai s_ t5))
 else(
  some (.done ai))
def Uj (m_:z6):Option (List Int) :=
 (Wu m_).bind λr_=>
 (loop (λs=>ZY r_ s.1 s.2) (([]:List Int),0)).bind λt2=>
 QP t2
def X1 (out:List Int):Option (List Int) :=
 some out
def uX (k_:Int)(az:List Int):Option (LR (List Int×Int) (List Int)) :=
 some (.next (az,w64 (k_+1)))
def YZ (ah:List Int)(ai:List Int)(k_:Int)(there:Int):Option (LR (List Int×Int) (List Int)) :=
 bif there==0 then(
  (idx ah k_).bind λcm=>
  gd (ai.length+([cm]:List Int).length<=4294967296) <|
  uX k_ (ai++([cm]:List Int)))
 else(
  uX k_ ai)
def Ze (n_:Int)(ik:Int):Option (LR (Int×Int) Int) :=
 some (.next (ik,w64 (n_+1)))
def Zd (r_:List Int)(ah:List Int)(k_:Int)(fx:Int)(n_:Int):Option (LR (Int×Int) Int) :=
 bif decide (n_<k_) then(
  (idx ah n_).bind λge=>
  (idx r_ ge).bind λi6=>
  (idx ah k_).bind λi7=>
  (idx r_ i7).bind λlk=>
  bif i6==lk then(
   Ze n_ 1)
  else(
   Ze n_ fx))
 else(
  some (.done fx))
def YX (r_:List Int)(ah:List Int)(ai:List Int)(k_:Int):Option (LR (List Int×Int) (List Int)) :=
 bif decide (k_<((ah.length:Nat):Int)) then(
  (loop (λs=>Zd r_ ah k_ s.1 s.2) (0,0)).bind λt5=>
  YZ ah ai k_ t5)
 else(
  some (.done ai))
def Zf (m_:z6):Option (List Int) :=
 (Zw m_).bind λr_=>
 (Uj m_).bind λah=>
 (loop (λs=>YX r_ ah s.1 s.2) (([]:List Int),0)).bind λt2=>
 X1 t2
def Yg (out:List Bool):Option (List Bool) :=
 some out
def Yf (round:Int)(az:List Bool):Option (LR (List Bool×Int) (List Bool)) :=
 some (.next (az,w64 (round+1)))
def Ye (s_:Int)(gj:List Bool):Option (LR (List Bool×Int) (List Bool)) :=
 some (.next (gj,w64 (s_+1)))
def vY (i_:Int)(jx:List Bool):Option (LR (List Bool×Int) (List Bool)) :=
 some (.next (jx,w64 (i_+1)))
def qY (m_:z6)(s_:Int)(eu:List Bool)(i_:Int):Option (LR (List Bool×Int) (List Bool)) :=
 bif decide (i_<m_.Inputs) then(
  (idx m_.Rows s_).bind λam=>
  (idx am i_).bind λak=>
  (idx eu s_).bind λbq=>
  bif bq then(
   bif decide (ak.To>=0) then(
    (idx eu ak.To).bind λdy=>
    vY i_ (eu.set ak.To.toNat true))
   else(
    vY i_ eu))
  else(
   vY i_ eu))
 else(
  some (.done eu))
def qZ (m_:z6)(bv:List Bool)(s_:Int):Option (LR (List Bool×Int) (List Bool)) :=
 bif decide (s_<((m_.Rows.length:Nat):Int)) then(
  (loop (λs=>qY m_ s_ s.1 s.2) (bv,0)).bind λt6=>
  Ye s_ t6)
 else(
  some (.done bv))
def Yd (m_:z6)(ai:List Bool)(round:Int):Option (LR (List Bool×Int) (List Bool)) :=
 bif decide (round<((m_.Rows.length:Nat):Int)) then(
  (loop (λs=>qZ m_ s.1 s.2) (ai,0)).bind λt4=>
  Yf round t4)
 else(
  some (.done ai))
def Xb (m_:z6)(bu:Int):Option (List Bool) :=
 gd ((0:Int)<=((m_.Rows.length:Nat):Int)/\(((m_.Rows.length:Nat):Int):Int)<=4294967296) <|
 (idx (List.replicate ((m_.Rows.length:Nat):Int).toNat false) bu).bind λmj=>
 (loop (λs=>Yd m_ s.1 s.2) (((List.replicate ((m_.Rows.length:Nat):Int).toNat false).set bu.toNat true),0)).bind λt2=>
 Yg t2
def Ql (out:List Int):Option (List Int) :=
 some out
def Qk (s_:Int)(az:List Int):Option (LR (List Int×Int) (List Int)) :=
 some (.next (az,w64 (s_+1)))
def Qj (ai:List Int)(s_:Int)(k_:Int):Option (LR (List Int×Int) (List Int)) :=
 gd (ai.length+([k_]:List Int).length<=4294967296) <|
 Qk s_ (ai++([k_]:List Int))
def Yz (n_:Int)(fe:Int):Option (LR (Int×Int) Int) :=
 some (.next (fe,w64 (n_+1)))
def Wr (r_:List Int)(ah:List Int)(al:List Bool)(s_:Int)(a9:Int)(n_:Int):Option (LR (Int×Int) Int) :=
 bif decide (n_<((ah.length:Nat):Int)) then(
  (idx al s_).bind λcm=>
  bif cm then(
   (idx ah n_).bind λge=>
   (idx r_ ge).bind λi6=>
   (idx r_ s_).bind λi7=>
   bif i6==i7 then(
    Yz n_ n_)
   else(
    Yz n_ a9))
  else(
   Yz n_ a9))
 else(
  some (.done a9))
def Qi (r_:List Int)(ah:List Int)(al:List Bool)(ai:List Int)(s_:Int):Option (LR (List Int×Int) (List Int)) :=
 bif decide (s_<((r_.length:Nat):Int)) then(
  (loop (λs=>Wr r_ ah al s_ s.1 s.2) ((-1),0)).bind λt5=>
  Qj ai s_ t5)
 else(
  some (.done ai))
def KO (m_:z6):Option (List Int) :=
 (Zw m_).bind λr_=>
 (Zf m_).bind λah=>
 (Xb m_ 0).bind λal=>
 (loop (λs=>Qi r_ ah al s.1 s.2) (([]:List Int),0)).bind λt2=>
 Ql t2
def Yc (m_:z6)(gk:List (List z8)):Option z6 :=
 some (z6.mk m_.Inputs m_.Outputs gk)
def Yb (k_:Int)(fy:List (List z8)):Option (LR (List (List z8)×Int) (List (List z8))) :=
 some (.next (fy,w64 (k_+1)))
def Ya (a8:List (List z8))(k_:Int)(row:List z8):Option (LR (List (List z8)×Int) (List (List z8))) :=
 gd (a8.length+([row]:List (List z8)).length<=4294967296) <|
 Yb k_ (a8++([row]:List (List z8)))
def vX (ca:List z8)(i_:Int)(ak:z8)(ew:Int):Option (LR (List z8×Int) (List z8)) :=
 gd (ca.length+([(z8.mk ew ak.Out)]:List z8).length<=4294967296) <|
 some (.next ((ca++([(z8.mk ew ak.Out)]:List z8)),w64 (i_+1)))
def qW (m_:z6)(r_:List Int)(ah:List Int)(k_:Int)(ca:List z8)(i_:Int):Option (LR (List z8×Int) (List z8)) :=
 bif decide (i_<m_.Inputs) then(
  (idx r_ k_).bind λcm=>
  (idx m_.Rows cm).bind λam=>
  (idx am i_).bind λak=>
  bif decide (ak.To>=0) then(
   (idx ah ak.To).bind λge=>
   vX ca i_ ak ge)
  else(
   vX ca i_ ak ak.To))
 else(
  some (.done ca))
def qX (m_:z6)(r_:List Int)(ah:List Int)(a8:List (List z8))(k_:Int):Option (LR (List (List z8)×Int) (List (List z8))) :=
 bif decide (k_<((r_.length:Nat):Int)) then(
  (loop (λs=>qW m_ r_ ah k_ s.1 s.2) (([]:List z8),0)).bind λt5=>
  Ya a8 k_ t5)
 else(
  some (.done a8))
def YW (m_:z6):Option z6 :=
 (Zf m_).bind λr_=>
 (KO m_).bind λah=>
 (loop (λs=>qX m_ r_ ah s.1 s.2) (([]:List (List z8)),0)).bind λt2=>
 Yc m_ t2
def Jj (x_:ur):Option z6 :=
 gd ((5:Int)≠0) <|
 (Jk (zG.mk (Int.tmod x_.C.States 5) x_.C.Inputs x_.C.Outputs x_.C.Tree x_.C.Edges)).bind λr_=>
 (YW r_).bind λah=>
 some ah
def ul:Option z8 :=
 some (z8.mk (-1) (-1))
def Xh (m_:z6)(x_:z8):Option Bool :=
 (ul).bind λr_=>
 bif (x_.To==r_.To)&&((x_.Out==r_.Out)&&true) then(
  some true)
 else(
  bif decide (x_.To>=0) then(
   bif decide (x_.To<((m_.Rows.length:Nat):Int)) then(
    bif decide (x_.Out>=0) then(
     some (decide (x_.Out<m_.Outputs)))
    else(
     some false))
   else(
    some false))
  else(
   some false))
def Yj (x_:z8)(x1:z6):Option Bool :=
 (Xh x1 x_).bind λr_=>
 some (!r_)
def xo:Option Int :=
 some (-1)
def zU (s_:List z8)(f_:z6)(x8:Int):Option (LR Int (Unit⊕Int)) :=
 bif decide (x8<((s_.length:Nat):Int)) then(
  (idx s_ x8).bind λda=>
  (Yj da f_).bind λr_=>
  bif r_ then(
   some (.done (.inr x8)))
  else(
   some (.next (w64 (x8+1)))))
 else(
  some (.done (.inl ())))
def yz (s_:List z8)(f_:z6):Option Int :=
 (loop (λs=>zU s_ f_ s) 0).bind λt2=>
 match t2 with
 | .inl p=>xo
 | .inr p=>some p
def y4 (s_:List z8)(f_:z6):Option Bool :=
 (yz s_ f_).bind λr_=>
 some (decide (r_>=0))
def XQ:Option Int :=
 some 0
def vu (m_:z6)(ii:Int):Option (LR Int (Unit⊕Int)) :=
 bif decide (ii<((m_.Rows.length:Nat):Int)) then(
  (idx m_.Rows ii).bind λam=>
  bif ((am.length:Nat):Int) != m_.Inputs then(
   some (.done (.inr 1)))
  else(
   (y4 am m_).bind λr_=>
   bif r_ then(
    some (.done (.inr 1)))
   else(
    some (.next (w64 (ii+1))))))
 else(
  some (.done (.inl ())))
def xS (m_:z6):Option Int :=
 bif decide (m_.Inputs > 16) then(
  some 3)
 else(
  bif decide (m_.Outputs > 16) then(
   some 3)
  else(
   bif decide (((m_.Rows.length:Nat):Int) > 64) then(
    some 3)
   else(
    bif decide (m_.Inputs<1) then(
     some 1)
    else(
     bif decide (m_.Outputs<1) then(
      some 1)
     else(
      bif decide (((m_.Rows.length:Nat):Int)<1) then(
       some 1)
      else(
       (loop (λs=>vu m_ s) 0).bind λt2=>
       match t2 with
       | .inl p=>XQ
       | .inr p=>some p))))))
def Xd (m_:z6):Option ((Int×z6)×(Int×z6)×(Int×z6)) :=
 some ((9,m_),(11,m_),(12,m_))
def We (m_:z6):Option z6 :=
 some m_
variable {σ:Type}
def qE (cr:Int)(fz:σ):Option (LR (σ×Int) σ) :=
 some (.next (fz,w64 (cr+1)))
def wq (yy:σ->(wK Int×z8)->Option (σ×Bool))(cr:Int)(am:List z8)(de:σ)(aq:Int):Option (LR (σ×Int) (σ⊕σ)) :=
 bif decide (aq<((am.length:Nat):Int)) then(
  (idx am aq).bind λak=>
  (yy de ((wK.mk cr aq),ak)).bind λyr=>
  bif !yr.2 then(
   some (.done (.inr yr.1)))
  else(
   some (.next (yr.1,w64 (aq+1)))))
 else(
  some (.done (.inl de)))
def vJ (x0:z6)(yy:σ->(wK Int×z8)->Option (σ×Bool))(ce:σ)(cr:Int):Option (LR (σ×Int) σ) :=
 bif decide (cr<((x0.Rows.length:Nat):Int)) then(
  (idx x0.Rows cr).bind λam=>
  (loop (λs=>wq yy cr am s.1 s.2) (ce,0)).bind λt3=>
  match t3 with
  | .inl p=>qE cr p
  | .inr p=>some (.done p))
 else(
  some (.done ce))
def jA (x0:z6){σ:Type}(yy:σ->(wK Int×z8)->Option (σ×Bool))(sg:σ):Option σ :=
 (loop (λs=>vJ x0 yy s.1 s.2) (sg,0)).bind λt1=>
 some t1
def vh (s_:List (wK Int)):Option (List (wK Int)) :=
 gd ((0:Int)<=0/\(0:Int)<=((s_.length:Nat):Int)/\(((s_.length:Nat):Int):Int)<=((s_.length:Nat):Int)/\(((s_.length:Nat):Int):Int)<=((s_.length:Nat):Int)) <|
 some ((s_.drop 0).take (((s_.length:Nat):Int).toNat - 0))
def uk (out:List (wK Int)):Option (List (wK Int)) :=
 (vh out).bind λr_=>
 some r_
def yn (ai:List (wK Int))(x8:wK Int)(x9:z8):Option (LR (List (wK Int)) Empty) :=
 (ul).bind λal=>
 bif (x9.To==al.To)&&((x9.Out==al.Out)&&true) then(
  gd (ai.length+([x8]:List (wK Int)).length<=4294967296) <|
  some (.next (ai++([x8]:List (wK Int)))))
 else(
  some (.next ai))
def kB (m_:z6):Option (List (wK Int)) :=
 (We m_).bind λah=>
 (jA ah (yOf (λs x=>yn s x.1 x.2)) (.next ([]:List (wK Int)))).bind λt2=>
 match t2 with
 | .next ai=>(
  uk ai)
 | .done z=>nomatch z
def qe (m_:z6):Option (Bool×Int) :=
 (xS m_).bind λr_=>
 bif r_ != 0 then(
  some (false,r_))
 else(
  (kB m_).bind λah=>
  some (((ah.length:Nat):Int)==0,0))
def ZA (x0:z6):Option Bool :=
 (qe x0).bind λr_=>
 some r_.1
def xa (ig:Int->(List Bool)->z6->Option (List Bool×z6))(am:List z8)(x1:List Bool)(dz:Int)(dn:Int)(fm:List (List z8))(bh:Int):Option (LR (List Bool×Int×Int×List (List z8)×Int) ((List Bool×z6))) :=
 bif decide (bh<((am.length:Nat):Int)) then(
  (idx am bh).bind λak=>
  (ig ak.To x1 (z6.mk dz dn fm)).bind λr_=>
  some (.next (r_.1,r_.2.Inputs,r_.2.Outputs,r_.2.Rows,w64 (bh+1))))
 else(
  some (.done (x1,(z6.mk dz dn fm))))
def wj (ig:Int->(List Bool)->z6->Option (List Bool×z6))(s_:Int)(y0:List Bool)(y1:z6):Option (List Bool×z6) :=
 bif s_==(-1) then(
  some (y0,y1))
 else(
  (idx y0 s_).bind λmd=>
  bif md then(
   some (y0,y1))
  else(
   (idx y0 s_).bind λmf=>
   (idx y1.Rows s_).bind λam=>
   (loop (λs=>xa ig am s.1 s.2.1 s.2.2.1 s.2.2.2.1 s.2.2.2.2) ((y0.set s_.toNat true),y1.Inputs,y1.Outputs,y1.Rows,0)).bind λt1=>
   some t1))
def yf (fu:Nat):Int->(List Bool)->z6->Option (List Bool×z6):=Nat.rec (motive:=λ_=>Int->(List Bool)->z6->Option (List Bool×z6)) (λ_ _ _=>none) (λ_ ih=>wj ih) fu
def uB:Option Int :=
 some (-1)
def yC (s_:List Bool)(v_:Bool)(x8:Int):Option (LR Int (Unit⊕Int)) :=
 bif decide (x8<((s_.length:Nat):Int)) then(
  (idx s_ x8).bind λda=>
  bif v_==da then(
   some (.done (.inr x8)))
  else(
   some (.next (w64 (x8+1)))))
 else(
  some (.done (.inl ())))
def vQ (s_:List Bool)(v_:Bool):Option Int :=
 (loop (λs=>yC s_ v_ s) 0).bind λt2=>
 match t2 with
 | .inl p=>uB
 | .inr p=>some p
def xD (s_:List Bool)(v_:Bool):Option Bool :=
 (vQ s_ v_).bind λr_=>
 some (decide (r_>=0))
def um (m_:z6):Option (Bool×Int) :=
 (xS m_).bind λr_=>
 bif r_ != 0 then(
  some (false,r_))
 else(
  gd ((0:Int)<=((m_.Rows.length:Nat):Int)/\(((m_.Rows.length:Nat):Int):Int)<=4294967296) <|
  (yf fuel 0 (List.replicate ((m_.Rows.length:Nat):Int).toNat false) m_).bind λah=>
  (xD ah.1 false).bind λal=>
  some (!al,0))
def Zz (x0:z6):Option Bool :=
 (um x0).bind λr_=>
 some r_.1
def W3 (m_:z6):Option z6 :=
 some m_
def YT (out:xg (wK Int)):Option (xg (wK Int)) :=
 some out
def kX (bp:Int)(az:xg (wK Int)):Option (LR (xg (wK Int)×Int) (xg (wK Int))) :=
 some (.next (az,w64 (bp+1)))
def kW (p_:List Int)(am:List z8)(ai:xg (wK Int))(bp:Int):Option (LR (xg (wK Int)×Int) (xg (wK Int))) :=
 bif decide (bp<((am.length:Nat):Int)) then(
  (idx am bp).bind λak=>
  (idx (xg.toL ai) bp).bind λcell=>
  (some (xg.setI ai bp (wK.mk ak.Out (-1)))).bind λarr=>
  bif ak.To !=(-1) then(
   (idx p_ ak.To).bind λbt=>
   (idx (xg.toL arr) bp).bind λa7=>
   (some (xg.setI arr bp (wK.mk a7.e0 bt))).bind λarr1=>
   kX bp arr1)
  else(
   kX bp arr))
 else(
  some (.done ai))
def kY (m_:z6)(p_:List Int)(s_:Int):Option (xg (wK Int)) :=
 (idx m_.Rows s_).bind λam=>
 (loop (λs=>kW p_ am s.1 s.2) ((xg.mk (wK.mk 0 0) (wK.mk 0 0) (wK.mk 0 0) (wK.mk 0 0) (wK.mk 0 0) (wK.mk 0 0) (wK.mk 0 0) (wK.mk 0 0) (wK.mk 0 0) (wK.mk 0 0) (wK.mk 0 0) (wK.mk 0 0) (wK.mk 0 0) (wK.mk 0 0) (wK.mk 0 0) (wK.mk 0 0)),0)).bind λt2=>
 YT t2
def jX (out:List Int):Option (List Int) :=
 some out
def wQ (ai:List Int)(du:Int)(bt:Int)(r_:xg (wK Int))(dp:List (zA×Int)):Option (LR ((List (zA×Int))×List Int×Int) (List Int)) :=
 (some ((z4D dp (zA.mk bt r_)).getD 0)).bind λval=>
 (idx ai du).bind λbq=>
 some (.next (dp,(ai.set du.toNat val),w64 (du+1)))
def uf (m_:z6)(p_:List Int)(names:List (zA×Int))(ai:List Int)(du:Int):Option (LR ((List (zA×Int))×List Int×Int) (List Int)) :=
 bif decide (du<((p_.length:Nat):Int)) then(
  (idx p_ du).bind λbt=>
  (kY m_ p_ du).bind λr_=>
  (some ((z4D names (zA.mk bt r_)).getD 0)).bind λl5=>
  bif !((z4D names (zA.mk bt r_)).isSome) then(
   wQ ai du bt r_ (zdh names (zA.mk bt r_) ((names.length:Nat):Int)))
  else(
   wQ ai du bt r_ names))
 else(
  some (.done ai))
def kZ (m_:z6)(p_:List Int):Option (List Int) :=
 gd ((0:Int)<=((p_.length:Nat):Int)/\(((p_.length:Nat):Int):Int)<=4294967296) <|
 (loop (λs=>uf m_ p_ s.1 s.2.1 s.2.2) (([]:List (zA×Int)),(List.replicate ((p_.length:Nat):Int).toNat (0:Int)),0)).bind λt2=>
 jX t2
def ve:Option Bool :=
 some true
def yY (s1:List Int)(s2:List Int)(dc:Int):Option (LR Int (Unit⊕Bool)) :=
 bif decide (dc<((s1.length:Nat):Int)) then(
  (idx s1 dc).bind λga=>
  (idx s2 dc).bind λd0=>
  bif ga != d0 then(
   some (.done (.inr false)))
  else(
   some (.next (w64 (dc+1)))))
 else(
  some (.done (.inl ())))
def w7 (s1:List Int)(s2:List Int):Option Bool :=
 bif ((s1.length:Nat):Int) !=((s2.length:Nat):Int) then(
  some false)
 else(
  (loop (λs=>yY s1 s2 s) 0).bind λt2=>
  match t2 with
  | .inl p=>ve
  | .inr p=>some p)
def vE (x0:z6)(yy:σ->(List Int)->Option (σ×Bool))(ce:σ)(p_:List Int):Option (LR (σ×List Int) σ) :=
 (yy ce p_).bind λyr=>
 bif yr.2 then(
  (kZ x0 p_).bind λr_=>
  (w7 p_ r_).bind λah=>
  bif ah then(
   some (.done yr.1))
  else(
   some (.next (yr.1,r_))))
 else(
  some (.done yr.1))
def qU (x0:z6){σ:Type}(yy:σ->(List Int)->Option (σ×Bool))(sg:σ):Option σ :=
 gd ((0:Int)<=((x0.Rows.length:Nat):Int)/\(((x0.Rows.length:Nat):Int):Int)<=4294967296) <|
 (loop (λs=>vE x0 yy s.1 s.2) (sg,(List.replicate ((x0.Rows.length:Nat):Int).toNat (0:Int)))).bind λt1=>
 some t1
def jY (p_:List Int)(n_:Int):Option (List Int×Int×Int) :=
 some (p_,n_,0)
def wR (ip:List Int)(cj:Int)(cg:List Int):Option (LR (List Int×Int) Empty) :=
 some (.next (cg,w64 (cj+1)))
def Za (m_:z6):Option (List Int×Int×Int) :=
 (xS m_).bind λr_=>
 bif r_ != 0 then(
  some (([]:List Int),0,r_))
 else(
  (W3 m_).bind λah=>
  (qU ah (yOf (λs x=>wR s.1 s.2 x)) (.next (([]:List Int),(-1)))).bind λt2=>
  match t2 with
  | .next (ip,cj)=>(
   jY ip cj)
  | .done z=>nomatch z)
def uc (m_:Int):Option Int :=
 some m_
def wD (x_:List Int)(jy:Int)(i_:Int):Option (LR (Int×Int) Int) :=
 bif decide (i_<((x_.length:Nat):Int)) then(
  (idx x_ i_).bind λkc=>
  some (.next ((mx jy kc),w64 (i_+1))))
 else(
  some (.done jy))
def ud (x_:List Int):Option Int :=
 bif decide (((x_.length:Nat):Int)<1) then(
  none)
 else(
  (idx x_ 0).bind λke=>
  (loop (λs=>wD x_ s.1 s.2) (ke,1)).bind λt2=>
  uc t2)
def Zy (x0:z6):Option Bool :=
 (Za x0).bind λr_=>
 (ud r_.1).bind λah=>
 some (ah==(w64 (((r_.1.length:Nat):Int) - 1)))
def qC:Option Int :=
 some 0
def w9 (m_:z6):Option Int :=
 (xS m_).bind λr_=>
 bif r_ != 0 then(
  some r_)
 else(
  (Xd m_).bind λah=>
  (ZA ah.1.2).bind λal=>
  bif !al then(
   some ah.1.1)
  else(
   (Zz ah.2.1.2).bind λax=>
   bif !ax then(
    some ah.2.1.1)
   else(
    (Zy ah.2.2.2).bind λbm=>
    bif !bm then(
     some ah.2.2.1)
    else(
     qC))))
def uo (n_:Int):Option Int :=
 some n_
def ZH (x6:Int)(fz:σ):Option (LR (σ×Int) σ) :=
 some (.next (fz,w64 (x6+1)))
def qj (x0:Int)(yy:σ->(Int×Int)->Option (σ×Bool))(x6:Int)(de:σ)(b_:Int):Option (LR (σ×Int) (σ⊕σ)) :=
 bif decide (b_<x0) then(
  (yy de (x6,b_)).bind λyr=>
  bif !yr.2 then(
   some (.done (.inr yr.1)))
  else(
   some (.next (yr.1,w64 (b_+1)))))
 else(
  some (.done (.inl de)))
def ZG (x0:Int)(yy:σ->(Int×Int)->Option (σ×Bool))(ce:σ)(x6:Int):Option (LR (σ×Int) σ) :=
 bif decide (x6<x0) then(
  (loop (λs=>qj x0 yy x6 s.1 s.2) (ce,w64 (x6+1))).bind λt3=>
  match t3 with
  | .inl p=>ZH x6 p
  | .inr p=>some (.done p))
 else(
  some (.done ce))
def yV (x0:Int){σ:Type}(yy:σ->(Int×Int)->Option (σ×Bool))(sg:σ):Option σ :=
 (loop (λs=>ZG x0 yy s.1 s.2) (sg,0)).bind λt1=>
 some t1
def Qp (a_:Int)(b_:Int):Option Bool :=
 some true
def ZU (s_:Int)(x1:z6):Option Bool :=
 bif decide (s_<0) then(
  some true)
 else(
  some (decide (s_>=((x1.Rows.length:Nat):Int))))
def wo:Option Int :=
 some (-1)
def y5 (s_:List Int)(f_:z6)(x8:Int):Option (LR Int (Unit⊕Int)) :=
 bif decide (x8<((s_.length:Nat):Int)) then(
  (idx s_ x8).bind λda=>
  (ZU da f_).bind λr_=>
  bif r_ then(
   some (.done (.inr x8)))
  else(
   some (.next (w64 (x8+1)))))
 else(
  some (.done (.inl ())))
def yH (s_:List Int)(f_:z6):Option Int :=
 (loop (λs=>y5 s_ f_ s) 0).bind λt2=>
 match t2 with
 | .inl p=>wo
 | .inr p=>some p
def yZ (s_:List Int)(f_:z6):Option Bool :=
 (yH s_ f_).bind λr_=>
 some (decide (r_>=0))
def Wm (m_:z6)(l_:List Int):Option Int :=
 (xS m_).bind λr_=>
 bif r_ != 0 then(
  some r_)
 else(
  (yZ l_ m_).bind λah=>
  bif ah then(
   some 1)
  else(
   some 0))
def Qb (m_:z6):Option z6 :=
 some m_
def Zr (x8:Int)(fz:σ):Option (LR (σ×Int) σ) :=
 some (.next (fz,w64 (x8+1)))
def uM (x0:z6)(yy:σ->(Int×Int)->Option (σ×Bool))(x8:Int)(de:σ)(t_:Int):Option (LR (σ×Int) (σ⊕σ)) :=
 bif decide (t_<((x0.Rows.length:Nat):Int)) then(
  (yy de (x8,t_)).bind λyr=>
  bif !yr.2 then(
   some (.done (.inr yr.1)))
  else(
   some (.next (yr.1,w64 (t_+1)))))
 else(
  some (.done (.inl de)))
def Zq (x0:z6)(yy:σ->(Int×Int)->Option (σ×Bool))(ce:σ)(x8:Int):Option (LR (σ×Int) σ) :=
 bif decide (x8<((x0.Rows.length:Nat):Int)) then(
  (loop (λs=>uM x0 yy x8 s.1 s.2) (ce,w64 (x8+1))).bind λt3=>
  match t3 with
  | .inl p=>Zr x8 p
  | .inr p=>some (.done p))
 else(
  some (.done ce))
def uw (x0:z6){σ:Type}(yy:σ->(Int×Int)->Option (σ×Bool))(sg:σ):Option σ :=
 (loop (λs=>Zq x0 yy s.1 s.2) (sg,0)).bind λt1=>
 some t1
def xV (l:List Int)(n:Int):Option (List Int):=bif l.isEmpty&&(decide (0<n)&&decide (n<=1000000)) then some [] else none
def wN (ib:List Int):Option (List Int) :=
 some ib
def zQ (slices:List (List Int))(dg:List Int)(jz:Int):Option (LR (List Int×Int) (List Int)) :=
 bif decide (jz<((slices.length:Nat):Int)) then(
  (idx slices jz).bind λgg=>
  gd (dg.length+gg.length<=4294967296) <|
  some (.next ((dg++gg),w64 (jz+1))))
 else(
  some (.done dg))
def wO (slices:List (List Int))(size:Int):Option (List Int) :=
 (xV [] size).bind λr_=>
 (loop (λs=>zQ slices s.1 s.2) (r_,0)).bind λt3=>
 wN t3
def zP (slices:List (List Int))(gq:Int)(ez:Int):Option (LR (Int×Int) Int) :=
 bif decide (ez<((slices.length:Nat):Int)) then(
  (idx slices ez).bind λgl=>
  bif decide ((w64 (gq+((gl.length:Nat):Int)))<0) then(
   none)
  else(
   some (.next (w64 (gq+((gl.length:Nat):Int)),w64 (ez+1)))))
 else(
  some (.done gq))
def wF (slices:List (List Int)):Option (List Int) :=
 (loop (λs=>zP slices s.1 s.2) (0,0)).bind λt4=>
 wO slices t4
def yq (s_:List Int):Option (List Int) :=
 gd ((0:Int)<=0/\(0:Int)<=((s_.length:Nat):Int)/\(((s_.length:Nat):Int):Int)<=((s_.length:Nat):Int)/\(((s_.length:Nat):Int):Int)<=((s_.length:Nat):Int)) <|
 some ((s_.drop 0).take (((s_.length:Nat):Int).toNat - 0))
def uH (n_:Int)(f_:ArN 64 (ArN 64 (List Int)))(out:List Int):Option (List Int×ArN 64 (ArN 64 (List Int))) :=
 bif ((out.length:Nat):Int) != n_ then(
  some ([],f_))
 else(
  (yq out).bind λr_=>
  gd (r_≠[]) <|
  some (r_,f_))
def w6 (dj:Int):Option (LR Int (List Int)) :=
 some (.next (w64 (dj+1)))
def v8 (m_:z6)(t_:Int)(n_:Int)(f_:ArN 64 (ArN 64 (List Int)))(am:List z8)(dj:Int):Option (LR Int (List Int)) :=
 bif decide (dj<((am.length:Nat):Int)) then(
  (idx am dj).bind λak=>
  (idx m_.Rows t_).bind λij=>
  (idx ij dj).bind λbk=>
  bif ak.Out != bk.Out then(
   some (.done ([dj]:List Int)))
  else(
   bif decide (n_ > 1) then(
    bif ak.To !=(-1) then(
     (idx (f_.l) ak.To).bind λcell=>
     (idx (cell.l) bk.To).bind λa7=>
     bif ((a7.length:Nat):Int)==(w64 (n_ - 1)) then(
      (idx (f_.l) ak.To).bind λd7=>
      (idx (d7.l) bk.To).bind λep=>
      (wF ([[dj],ep])).bind λah=>
      some (.done ah))
     else(
      w6 dj))
    else(
     w6 dj))
   else(
    w6 dj)))
 else(
  some (.done ([]:List Int)))
def uN (m_:z6)(s_:Int)(t_:Int)(n_:Int)(f_:ArN 64 (ArN 64 (List Int))):Option (List Int×ArN 64 (ArN 64 (List Int))) :=
 (idx m_.Rows s_).bind λam=>
 (loop (λs=>v8 m_ t_ n_ f_ am s) 0).bind λt2=>
 uH n_ f_ t2
def qP (s_:Int)(t_:Int)(w_:List Int)(f_:ArN 64 (ArN 64 (List Int))):Option (ArN 64 (ArN 64 (List Int))) :=
 (idx (f_.l) s_).bind λcell=>
 (idx (cell.l) t_).bind λa7=>
 (some (ArN.setI cell t_ w_)).bind λarr=>
 (some (ArN.setI f_ s_ arr)).bind λarr1=>
 (idx (arr1.l) t_).bind λd7=>
 (idx (d7.l) s_).bind λep=>
 (some (ArN.setI d7 s_ w_)).bind λarr2=>
 (some (ArN.setI arr1 t_ arr2)).bind λkg=>
 some kg
def qB (f_:ArN 64 (ArN 64 (List Int))):Option (ArN 64 (ArN 64 (List Int))) :=
 some f_
def qA (n_:Int)(kp:ArN 64 (ArN 64 (List Int))):Option (LR (ArN 64 (ArN 64 (List Int))×Int) (ArN 64 (ArN 64 (List Int)))) :=
 some (.next (kp,w64 (n_+1)))
def vw (now:List zJ)(i8:ArN 64 (ArN 64 (List Int)))(j4:Int):Option (LR (ArN 64 (ArN 64 (List Int))×Int) (ArN 64 (ArN 64 (List Int)))) :=
 bif decide (j4<((now.length:Nat):Int)) then(
  (idx now j4).bind λcn=>
  (qP cn.S cn.T cn.Word i8).bind λr_=>
  some (.next (r_,w64 (j4+1))))
 else(
  some (.done i8))
def qz (n_:Int)(kq:ArN 64 (ArN 64 (List Int)))(now:List zJ):Option (LR (ArN 64 (ArN 64 (List Int))×Int) (ArN 64 (ArN 64 (List Int)))) :=
 (loop (λs=>vw now s.1 s.2) (kq,0)).bind λt5=>
 qA n_ t5
def xL (m_:z6)(n_:Int)(ee:ArN 64 (ArN 64 (List Int)))(dt:List zJ)(fh:Int)(bh:Int):Option (LR (ArN 64 (ArN 64 (List Int))×List zJ) Empty) :=
 (idx (ee.l) fh).bind λcell=>
 (idx (cell.l) bh).bind λa7=>
 bif !a7.isEmpty then(
  some (.next (ee,dt)))
 else(
  (uN m_ fh bh n_ ee).bind λal=>
  bif !al.1.isEmpty then(
   gd (dt.length+([(zJ.mk fh bh al.1 false)]:List zJ).length<=4294967296) <|
   some (.next (al.2,(dt++([(zJ.mk fh bh al.1 false)]:List zJ)))))
  else(
   some (.next (al.2,dt))))
def qw (m_:z6)(iq:ArN 64 (ArN 64 (List Int)))(n_:Int):Option (LR (ArN 64 (ArN 64 (List Int))×Int) (ArN 64 (ArN 64 (List Int)))) :=
 bif decide (n_<(mx ((m_.Rows.length:Nat):Int) 2)) then(
  (Qb m_).bind λah=>
  (uw ah (yOf (λs x=>xL m_ n_ s.1 s.2 x.1 x.2)) (.next (iq,([]:List zJ)))).bind λt6=>
  match t6 with
  | .next (ee,dt)=>(
   qz n_ ee dt)
  | .done z=>nomatch z)
 else(
  some (.done iq))
def qO (m_:z6):Option (ArN 64 (ArN 64 (List Int))) :=
 (loop (λs=>qw m_ s.1 s.2) ((ArN.rep 64 (ArN.rep 64 ([]:List Int))),1)).bind λt2=>
 qB t2
def yG (s_:List Int):Option (List Int) :=
 gd (([]:List Int).length+s_.length<=4294967296) <|
 some s_
def uO (m_:z6)(s_:Int)(t_:Int):Option (List Int×Bool×Int) :=
 (Wm m_ ([s_,t_])).bind λr_=>
 bif r_ != 0 then(
  some (([]:List Int),false,r_))
 else(
  (qO m_).bind λah=>
  (idx (ah.l) s_).bind λcell=>
  (idx (cell.l) t_).bind λa7=>
  (yG a7).bind λal=>
  (yq al).bind λax=>
  some (ax,decide (((ax.length:Nat):Int) > 0),0))
def V9 (c_:Int)(x1:Int):Option Bool :=
 bif decide (c_<0) then(
  some true)
 else(
  some (decide (c_>=x1)))
def vD:Option Int :=
 some (-1)
def yh (s_:List Int)(f_:Int)(x8:Int):Option (LR Int (Unit⊕Int)) :=
 bif decide (x8<((s_.length:Nat):Int)) then(
  (idx s_ x8).bind λda=>
  (V9 da f_).bind λr_=>
  bif r_ then(
   some (.done (.inr x8)))
  else(
   some (.next (w64 (x8+1)))))
 else(
  some (.done (.inl ())))
def wM (s_:List Int)(f_:Int):Option Int :=
 (loop (λs=>yh s_ f_ s) 0).bind λt2=>
 match t2 with
 | .inl p=>vD
 | .inr p=>some p
def xW (s_:List Int)(f_:Int):Option Bool :=
 (wM s_ f_).bind λr_=>
 some (decide (r_>=0))
def kN (w_:List Int)(inputs:Int):Option Int :=
 bif decide (inputs > 16) then(
  some 3)
 else(
  bif decide (((w_.length:Nat):Int) > 256) then(
   some 3)
  else(
   bif decide (inputs<1) then(
    some 1)
   else(
    (xW w_ inputs).bind λr_=>
    bif r_ then(
     some 1)
    else(
     some 0))))
def Qy:Option Int :=
 some 0
def jF (l_:List (List Int))(inputs:Int)(j5:Int):Option (LR Int (Unit⊕Int)) :=
 bif decide (j5<((l_.length:Nat):Int)) then(
  (idx l_ j5).bind λbg=>
  (kN bg inputs).bind λr_=>
  bif r_ != 0 then(
   some (.done (.inr r_)))
  else(
   some (.next (w64 (j5+1)))))
 else(
  some (.done (.inl ())))
def XF (l_:List (List Int))(inputs:Int):Option Int :=
 bif decide (inputs > 16) then(
  some 3)
 else(
  bif decide (((l_.length:Nat):Int) > 4096) then(
   some 3)
  else(
   bif decide (inputs<1) then(
    some 1)
   else(
    (loop (λs=>jF l_ inputs s) 0).bind λt2=>
    match t2 with
    | .inl p=>Qy
    | .inr p=>some p)))
def ue (s_:List (List Int)):Option (List (List Int)) :=
 gd (([]:List (List Int)).length+s_.length<=4294967296) <|
 some s_
def Xp (x_:Int):Option Bool :=
 some (x_ != x_)
def qp (x_:Int)(y_:Int):Option Int :=
 (Xp x_).bind λr_=>
 (Xp y_).bind λah=>
 bif r_ then(
  bif ah then(
   some 0)
  else(
   some (-1)))
 else(
  bif ah then(
   some 1)
  else(
   bif decide (x_<y_) then(
    some (-1))
   else(
    bif decide (x_ > y_) then(
     some 1)
    else(
     some 0))))
def wu (s1:List Int)(s2:List Int):Option Int :=
 bif decide (((s1.length:Nat):Int)<((s2.length:Nat):Int)) then(
  some (-1))
 else(
  some 0)
def yD (s1:List Int)(s2:List Int)(ez:Int):Option (LR Int (Unit⊕Int)) :=
 bif decide (ez<((s1.length:Nat):Int)) then(
  (idx s1 ez).bind λga=>
  bif decide (ez>=((s2.length:Nat):Int)) then(
   some (.done (.inr 1)))
  else(
   (idx s2 ez).bind λd0=>
   (qp ga d0).bind λr_=>
   bif r_ != 0 then(
    some (.done (.inr r_)))
   else(
    some (.next (w64 (ez+1))))))
 else(
  some (.done (.inl ())))
def wh (s1:List Int)(s2:List Int):Option Int :=
 (loop (λs=>yD s1 s2 s) 0).bind λt2=>
 match t2 with
 | .inl p=>wu s1 s2
 | .inr p=>some p
def Vl:Option Int :=
 some 0
def ZI (vals:List Int)(x8:Int):Option (LR Int (Unit⊕Int)) :=
 bif decide (x8<((vals.length:Nat):Int)) then(
  (idx vals x8).bind λkh=>
  bif kh != 0 then(
   some (.done (.inr kh)))
  else(
   some (.next (w64 (x8+1)))))
 else(
  some (.done (.inl ())))
def Jo (vals:List Int):Option Int :=
 (loop (λs=>ZI vals s) 0).bind λt2=>
 match t2 with
 | .inl p=>Vl
 | .inr p=>some p
def xI (a_:List Int)(b_:List Int):Option Int :=
 (qp ((a_.length:Nat):Int) ((b_.length:Nat):Int)).bind λr_=>
 (wh a_ b_).bind λah=>
 (Jo ([r_,ah])).bind λal=>
 some al
def jE (a_:List Int)(b_:List Int):Option Bool :=
 (xI a_ b_).bind λr_=>
 some (r_==0)
def wG (s_:List (List Int)):Option (List (List Int)) :=
 some s_
def xu (k_:Int):Option (LR Int (Unit⊕List (List Int))) :=
 some (.next (w64 (k_+1)))
def ya (a6:List (List Int))(a9:Int):Option (LR Int (Unit⊕List (List Int))) :=
 gd ((0:Int)<=a9/\(a9:Int)<=((a6.length:Nat):Int)) <|
 gd ((0:Int)<=a9/\(a9:Int)<=((a6.length:Nat):Int)) <|
 gd ((0:Int)<=a9/\(a9:Int)<=(((a6.take a9.toNat++List.replicate (a6.length - a9.toNat) []).length:Nat):Int)) <|
 some (.done (.inr ((a6.take a9.toNat++List.replicate (a6.length - a9.toNat) []).take a9.toNat)))
def y9 (k2:Int)(kr:List (List Int))(ku:Int):Option (LR (List (List Int)×Int×Int) ((List (List Int)×Int))) :=
 some (.next (kr,ku,w64 (k2+1)))
def y8 (k_:Int)(bi:List (List Int))(fe:Int)(k2:Int):Option (LR (List (List Int)×Int×Int) ((List (List Int)×Int))) :=
 bif decide (k2<((bi.length - k_.toNat:Nat):Int)) then(
  gd ((0:Int)<=k_/\(0:Int)<=k2) <|
  (idx bi (k_+k2)).bind λjn=>
  gd ((0:Int)<=k_/\(0:Int)<=w64 (k2 - 1)) <|
  (idx bi (k_+(w64 (k2 - 1)))).bind λjo=>
  (jE jn jo).bind λah=>
  bif !ah then(
   gd ((0:Int)<=k_/\(0:Int)<=k2) <|
   (idx bi (k_+k2)).bind λjp=>
   (idx bi fe).bind λma=>
   y9 k2 (bi.set fe.toNat jp) (w64 (fe+1)))
  else(
   y9 k2 bi fe))
 else(
  some (.done (bi,fe)))
def yl (s_:List (List Int))(k_:Int):Option (LR Int (Unit⊕List (List Int))) :=
 bif decide (k_<((s_.length:Nat):Int)) then(
  (idx s_ k_).bind λda=>
  (idx s_ (w64 (k_ - 1))).bind λjq=>
  (jE da jq).bind λr_=>
  bif r_ then(
   gd ((0:Int)<=k_/\(k_:Int)<=((s_.length:Nat):Int)) <|
   (loop (λs=>y8 k_ s.1 s.2.1 s.2.2) (s_,k_,1)).bind λt5=>
   ya t5.1 t5.2)
  else(
   xu k_))
 else(
  some (.done (.inl ())))
def yS (s_:List (List Int))(eq:Unit):Option (List (List Int)) :=
 bif decide (((s_.length:Nat):Int)<2) then(
  some s_)
 else(
  (loop (λs=>yl s_ s) 1).bind λt2=>
  match t2 with
  | .inl p=>wG s_
  | .inr p=>some p)
def xX (s_:List (List Int)):Option (List (List Int)) :=
 some s_
def Qx (n_:Int):Option Int :=
 some n_
def jD (l_:List (List Int))(cj:Int)(x7:Int):Option (LR (Int×Int) Int) :=
 bif decide (x7<((l_.length:Nat):Int)) then(
  (idx l_ x7).bind λbg=>
  some (.next (w64 (cj+((bg.length:Nat):Int)),w64 (x7+1))))
 else(
  some (.done cj))
def XE (l_:List (List Int)):Option Int :=
 (loop (λs=>jD l_ s.1 s.2) (0,0)).bind λt2=>
 Qx t2
def YJ (out:List (List Int×Bool)):Option (List (List Int)×Int) :=
 gd (∀q∈out,q.2=true) <|
 some ((out.map (·.1)),0)
def wz (al:List (List Int))(az:List (List Int×Bool))(bh:Int):Option (LR ((List (List Int×Bool))×Int) ((List (List Int×Bool)))) :=
 bif decide (bh<((al.length - (0:Int).toNat:Nat):Int)) then(
  gd ((0:Int)<=0/\(0:Int)<=bh) <|
  (idx az (0+bh)).bind λbq=>
  (yG bq.1).bind λbm=>
  (yq bm).bind λct=>
  (idx az bh).bind λdy=>
  some (.next ((az.set bh.toNat (ct,true)),w64 (bh+1))))
 else(
  some (.done az))
def Wl (l_:List (List Int)):Option (List (List Int)×Int) :=
 (ue l_).bind λr_=>
 (zdV (λx y=>xI x y) r_).bind λsorted=>
 (yS sorted ()).bind λah=>
 (xX ah).bind λal=>
 bif decide (((al.length:Nat):Int) > 4096) then(
  some (([]:List (List Int)),3))
 else(
  (XE al).bind λax=>
  bif decide (ax > 65536) then(
   some (([]:List (List Int)),3))
  else(
   (loop (λs=>wz al s.1 s.2) ((al.map λq=>(q,false)),0)).bind λt2=>
   YJ t2))
def Vu (l_:List (List Int))(inputs:Int):Option (List (List Int)×Int) :=
 (XF l_ inputs).bind λr_=>
 bif r_ != 0 then(
  some (([]:List (List Int)),r_))
 else(
  (Wl l_).bind λah=>
  some (ah.1,ah.2))
def Xj (m_:z6)(x5:Int)(out:List (List Int)):Option (List (List Int)×Int) :=
 (Vu out m_.Inputs).bind λr_=>
 some (r_.1,r_.2)
def qh (m_:z6)(br:Int)(ai:List (List Int))(bp:Int)(aq:Int):Option (LR (Int×List (List Int)) ((Int×List (List Int)))) :=
 (Qp bp aq).bind λal=>
 bif !al then(
  some (.next (br,ai)))
 else(
  (uO m_ bp aq).bind λax=>
  bif ax.2.2 != 0 then(
   some (.done (ax.2.2,ai)))
  else(
   gd (ai.length+([ax.1]:List (List Int)).length<=4294967296) <|
   some (.next (br,(ai++([ax.1]:List (List Int)))))))
def Wz (m_:z6)(is:Unit):Option (List (List Int)×Int) :=
 (uo ((m_.Rows.length:Nat):Int)).bind λah=>
 (yV ah (yOf (λs x=>qh m_ s.1 s.2 x.1 x.2)) (.next (0,([]:List (List Int))))).bind λt2=>
 match t2 with
 | .next (br,ai)=>(
  Xj m_ br ai)
 | .done (br,ai)=>(
  some (([]:List (List Int)),br))
def XU (m_:z6):Option (List (List Int)×Int) :=
 (w9 m_).bind λr_=>
 bif r_ != 0 then(
  some (([]:List (List Int)),r_))
 else(
  (Wz m_ ()).bind λah=>
  some (ah.1,ah.2))
def Y0 (m_:z6)(s_:Int):Option Int :=
 (xS m_).bind λr_=>
 bif r_ != 0 then(
  some r_)
 else(
  bif decide (s_<0) then(
   some 1)
  else(
   bif decide (s_>=((m_.Rows.length:Nat):Int)) then(
    some 1)
   else(
    some 0)))
def Xg (a6:Int)(out:List Int):Option (List Int×Int) :=
 some (out,a6)
def Zi (ai:List Int)(aq:Int)(ew:Int)(io:Int):Option (LR (Int×List Int×Int) ((Int×List Int))) :=
 (idx ai aq).bind λbq=>
 some (.next (ew,(ai.set aq.toNat io),w64 (aq+1)))
def Xf (m_:z6)(w_:List Int)(bi:Int)(ai:List Int)(aq:Int):Option (LR (Int×List Int×Int) ((Int×List Int))) :=
 bif decide (aq<((w_.length:Nat):Int)) then(
  (idx w_ aq).bind λd8=>
  (ul).bind λr_=>
  bif bi !=(-1) then(
   (idx m_.Rows bi).bind λam=>
   (idx am d8).bind λak=>
   Zi ai aq ak.To ak.Out)
  else(
   Zi ai aq r_.To r_.Out))
 else(
  some (.done (bi,ai)))
def Ww (m_:z6)(s_:Int)(w_:List Int):Option (List Int×Int) :=
 gd ((0:Int)<=((w_.length:Nat):Int)/\(((w_.length:Nat):Int):Int)<=4294967296) <|
 (loop (λs=>Xf m_ w_ s.1 s.2.1 s.2.2) (s_,(List.replicate ((w_.length:Nat):Int).toNat (0:Int)),0)).bind λt2=>
 Xg t2.1 t2.2
def Wy (m_:z6)(s_:Int)(w_:List Int):Option (List Int×Int) :=
 (Y0 m_ s_).bind λr_=>
 bif r_ != 0 then(
  some (([]:List Int),r_))
 else(
  (kN w_ m_.Inputs).bind λah=>
  bif ah != 0 then(
   some (([]:List Int),ah))
  else(
   (Ww m_ s_ w_).bind λal=>
   some (al.1,0)))
def xN (s_:List (List Int)):Option (List (List Int)) :=
 some s_
def qH (out:List (List Int)):Option (List (List Int)) :=
 (xN out).bind λr_=>
 some r_
def yT (m_:z6)(l_:List (List Int))(s_:Int)(ai:List (List Int))(cg:Int):Option (LR (List (List Int)×Int) (List (List Int))) :=
 bif decide (cg<((l_.length:Nat):Int)) then(
  (idx l_ cg).bind λbg=>
  (Wy m_ s_ bg).bind λah=>
  gd (ai.length+([ah.1]:List (List Int)).length<=4294967296) <|
  some (.next ((ai++([ah.1]:List (List Int))),w64 (cg+1))))
 else(
  some (.done ai))
def xJ (m_:z6)(l_:List (List Int))(s_:Int):Option (List (List Int)) :=
 (loop (λs=>yT m_ l_ s_ s.1 s.2) (([]:List (List Int)),0)).bind λt2=>
 qH t2
def kE (x_:List Int)(y_:List Int):Option Bool :=
 (w7 x_ y_).bind λr_=>
 some r_
def xC:Option Bool :=
 some true
def zV (s1:List (List Int))(s2:List (List Int))(aq:Int):Option (LR Int (Unit⊕Bool)) :=
 bif decide (aq<((s1.length:Nat):Int)) then(
  (idx s1 aq).bind λga=>
  (idx s2 aq).bind λd0=>
  (kE ga d0).bind λr_=>
  bif !r_ then(
   some (.done (.inr false)))
  else(
   some (.next (w64 (aq+1)))))
 else(
  some (.done (.inl ())))
def yI (s1:List (List Int))(s2:List (List Int))(eq:Unit):Option Bool :=
 bif ((s1.length:Nat):Int) !=((s2.length:Nat):Int) then(
  some false)
 else(
  (loop (λs=>zV s1 s2 s) 0).bind λt2=>
  match t2 with
  | .inl p=>xC
  | .inr p=>some p)
def wV (a_:List (List Int))(b_:List (List Int)):Option Bool :=
 (yI a_ b_ ()).bind λr_=>
 some r_
def Yt (out:List Int):Option (List Int) :=
 some out
def qI (ai:List Int)(ic:Int):Option (LR (List Int) Empty) :=
 gd (ai.length+([ic]:List Int).length<=4294967296) <|
 some (.next (ai++([ic]:List Int)))
def vK (aq:Int)(i9:Int):Option (LR (Int×Int) Int) :=
 some (.next (i9,w64 (aq+1)))
def yU (m_:z6)(w_:List (List Int))(dc:Int)(cg:Int)(fw:Int)(aq:Int):Option (LR (Int×Int) Int) :=
 bif decide (aq<((w_.length:Nat):Int)) then(
  gd ((0:Int)<=aq/\(aq:Int)<=w64 (aq+1)/\(w64 (aq+1):Int)<=((w_.length:Nat):Int)) <|
  (xJ m_ ((w_.drop aq.toNat).take ((w64 (aq+1)).toNat - aq.toNat)) dc).bind λah=>
  gd ((0:Int)<=aq/\(aq:Int)<=w64 (aq+1)/\(w64 (aq+1):Int)<=((w_.length:Nat):Int)) <|
  (xJ m_ ((w_.drop aq.toNat).take ((w64 (aq+1)).toNat - aq.toNat)) cg).bind λal=>
  (wV ah al).bind λax=>
  bif !ax then(
   gd ((0:Int)<=aq) <|
   vK aq (orK .u64 fw (z3w .u64 1 aq)))
  else(
   vK aq fw))
 else(
  some (.done fw))
def vL (m_:z6)(w_:List (List Int))(ai:List Int)(dc:Int)(cg:Int):Option (LR (List Int) Empty) :=
 (loop (λs=>yU m_ w_ dc cg s.1 s.2) (0,0)).bind λt4=>
 qI ai t4
def jB (m_:z6)(w_:List (List Int)):Option (List Int) :=
 (uo ((m_.Rows.length:Nat):Int)).bind λr_=>
 (yV r_ (yOf (λs x=>vL m_ w_ s x.1 x.2)) (.next ([]:List Int))).bind λt2=>
 match t2 with
 | .next ai=>(
  Yt ai)
 | .done z=>nomatch z
def uY (ll:Int):Option Int :=
 some (z56 .i64 (w64 (ll)) 127)
def uZ (jh:Int):Option Int :=
 uY (IntKind.u64.wrap (jh+(Int.fdiv jh (2 ^ 32))))
def q9 (ji:Int):Option Int :=
 uZ (IntKind.u64.wrap (ji+(Int.fdiv ji (2 ^ 16))))
def qa (jj:Int):Option Int :=
 q9 (IntKind.u64.wrap (jj+(Int.fdiv jj (2 ^ 8))))
def qb (jk:Int):Option Int :=
 qa (z56 .u64 (IntKind.u64.wrap ((Int.fdiv jk (2 ^ 4))+jk)) 1085102592571150095)
def qd (jl:Int):Option Int :=
 qb (IntKind.u64.wrap ((z56 .u64 (Int.fdiv jl (2 ^ 2)) 3689348814741910323)+(z56 .u64 jl 3689348814741910323)))
def Zh (x_:Int):Option Int :=
 qd (IntKind.u64.wrap ((z56 .u64 (Int.fdiv x_ (2 ^ 1)) 6148914691236517205)+(z56 .u64 x_ 6148914691236517205)))
def wp (x_:Int):Option Int :=
 (Zh x_).bind λr_=>
 some r_
def xE (x_:Int):Option Int :=
 bif x_==0 then(
  some 64)
 else(
  (idx (zkj.l) (Int.fdiv (IntKind.u64.wrap ((z56 .u64 x_ (IntKind.u64.wrap (0 - x_)))*285870213051353865)) (2 ^ 58))).bind λcell=>
  some (w64 (cell)))
def vj (x_:Int):Option Int :=
 (xE x_).bind λr_=>
 some r_
def WA (a_:Int)(b_:Int):Option Bool :=
 (vj (ziL .u64 a_ b_)).bind λr_=>
 gd ((0:Int)<=r_) <|
 some ((z56 .u64 (Int.fdiv a_ (2 ^ (min (r_).toNat 64))) 1)==1)
def xO (s_:List (List Int)):Option (List (List Int)) :=
 some s_
def Yl (out:List (List Int)):Option (List (List Int)×Int) :=
 (xO out).bind λal=>
 some (al,0)
def jC (gb:Int)(az:List (List Int)):Option (LR (List (List Int)×Int) (List (List Int))) :=
 some (.next (az,w64 (gb+1)))
def wa (r_:List (List Int)×Int)(dh:Int)(ai:List (List Int))(gb:Int):Option (LR (List (List Int)×Int) (List (List Int))) :=
 bif decide (gb<((r_.1.length:Nat):Int)) then(
  (idx r_.1 gb).bind λu_=>
  gd ((0:Int)<=gb) <|
  bif (z56 .u64 (Int.fdiv dh (2 ^ (min (gb).toNat 64))) 1)==1 then(
   gd (ai.length+([u_]:List (List Int)).length<=4294967296) <|
   jC gb (ai++([u_]:List (List Int))))
  else(
   jC gb ai))
 else(
  some (.done ai))
def Ym (r_:List (List Int)×Int)(dh:Int):Option (List (List Int)×Int) :=
 (loop (λs=>wa r_ dh s.1 s.2) (([]:List (List Int)),0)).bind λt3=>
 Yl t3
def yx (bl:Int)(fj:Int):Option (LR (Int×Int) Int) :=
 some (.next (fj,IntKind.u64.wrap (bl+1)))
def Yk (bl:Int):Option (LR (Int×Int) Int) :=
 yx bl bl
def u6 (ah:List Int)(au:Int)(bl:Int)(j6:Int):Option (LR Int (Unit⊕Int)) :=
 bif decide (j6<((ah.length:Nat):Int)) then(
  (idx ah j6).bind λcm=>
  bif (z56 .u64 cm bl)==0 then(
   some (.done (.inr au)))
  else(
   some (.next (w64 (j6+1)))))
 else(
  some (.done (.inl ())))
def wW (ah:List Int)(au:Int)(bl:Int)(ir:Bool):Option (LR (Int×Int) Int) :=
 (loop (λs=>u6 ah au bl s) 0).bind λt9=>
 match t9 with
 | .inl p=>Yk bl
 | .inr p=>yx bl p
def xK (r_:List (List Int)×Int)(ah:List Int)(au:Int)(bl:Int):Option (LR (Int×Int) Int) :=
 bif decide (bl<(z3w .u64 1 ((r_.1.length:Nat):Int))) then(
  (wp bl).bind λax=>
  (wp au).bind λbm=>
  bif decide (ax > bm) then(
   yx bl au)
  else(
   bif ax==bm then(
    bif bl==au then(
     yx bl au)
    else(
     (WA bl au).bind λct=>
     bif !ct then(
      yx bl au)
     else(
      wW ah au bl (!ct))))
   else(
    wW ah au bl false)))
 else(
  some (.done au))
def uq (m_:z6):Option (List (List Int)×Int) :=
 (XU m_).bind λr_=>
 bif r_.2 != 0 then(
  some (([]:List (List Int)),r_.2))
 else(
  bif decide (((r_.1.length:Nat):Int) > 12) then(
   some (([]:List (List Int)),3))
  else(
   (jB m_ r_.1).bind λah=>
   gd ((0:Int)<=((r_.1.length:Nat):Int)) <|
   gd ((0:Int)<=((r_.1.length:Nat):Int)) <|
   (loop (λs=>xK r_ ah s.1 s.2) (IntKind.u64.wrap ((z3w .u64 1 ((r_.1.length:Nat):Int)) - 1),0)).bind λt5=>
   Ym r_ t5))
def Qn (out:List Int):Option (List Int) :=
 some out
def Wv (m_:z6)(w_:List Int)(a6:Int)(ai:List Int)(k_:Int):Option (LR (Int×List Int×Int) (List Int)) :=
 bif decide (k_<((w_.length:Nat):Int)) then(
  (idx w_ k_).bind λd8=>
  (Vw m_ a6 d8).bind λr_=>
  gd (ai.length+([r_.Out]:List Int).length<=4294967296) <|
  some (.next (r_.To,(ai++([r_.Out]:List Int)),w64 (k_+1))))
 else(
  some (.done ai))
def Uk (m_:z6)(s_:Int)(w_:List Int):Option (List Int) :=
 (loop (λs=>Wv m_ w_ s.1 s.2.1 s.2.2) (s_,([]:List Int),0)).bind λt2=>
 Qn t2
def Yh:Option Int :=
 some 0
def vZ (a_:List Int)(b_:List Int)(i_:Int):Option (LR Int (Unit⊕Int)) :=
 bif decide (i_<((a_.length:Nat):Int)) then(
  (idx a_ i_).bind λdl=>
  (idx b_ i_).bind λdm=>
  bif decide (dl<dm) then(
   some (.done (.inr (-1))))
  else(
   (idx a_ i_).bind λgn=>
   (idx b_ i_).bind λgp=>
   bif decide (gn > gp) then(
    some (.done (.inr 1)))
   else(
    some (.next (w64 (i_+1))))))
 else(
  some (.done (.inl ())))
def Vd (a_:List Int)(b_:List Int):Option Int :=
 bif decide (((a_.length:Nat):Int)<((b_.length:Nat):Int)) then(
  some (-1))
 else(
  bif decide (((a_.length:Nat):Int) > ((b_.length:Nat):Int)) then(
   some 1)
  else(
   (loop (λs=>vZ a_ b_ s) 0).bind λt2=>
   match t2 with
   | .inl p=>Yh
   | .inr p=>some p))
def Je (a_:List Int)(b_:List Int):Option Bool :=
 (Vd a_ b_).bind λr_=>
 some (r_==0)
def Ws (m_:z6)(w_:List Int)(s_:Int)(t_:Int):Option Int :=
 (Uk m_ s_ w_).bind λr_=>
 (Uk m_ t_ w_).bind λah=>
 (Je r_ ah).bind λal=>
 bif al then(
  some 0)
 else(
  some 1)
def JO (out:List Int):Option (List Int) :=
 gd (out.length+([0]:List Int).length<=4294967296) <|
 some (out++([0]:List Int))
def JN (inputs:Int)(ai:List Int)(k_:Int):Option (LR (List Int×Int) (List Int⊕List Int)) :=
 bif decide (k_>=0) then(
  (idx ai k_).bind λbq=>
  bif decide ((w64 (bq+1))<inputs) then(
   (idx ai k_).bind λdy=>
   (idx ai k_).bind λjv=>
   some (.done (.inr (ai.set k_.toNat (w64 (dy+1))))))
  else(
   (idx ai k_).bind λjw=>
   some (.next ((ai.set k_.toNat 0),w64 (k_ - 1)))))
 else(
  some (.done (.inl ai)))
def z0p (w_:List Int)(inputs:Int):Option (List Int) :=
 gd (([]:List Int).length+w_.length<=4294967296) <|
 (loop (λs=>JN inputs s.1 s.2) (w_,w64 (((w_.length:Nat):Int) - 1))).bind λt2=>
 match t2 with
 | .inl p=>JO p
 | .inr p=>some p
def XO:Option (List Int×Bool) :=
 some (([]:List Int),false)
def Zv (m_:z6)(s_:Int)(t_:Int)(w_:List Int):Option (LR (List Int) (Unit⊕(List Int×Bool))) :=
 bif decide (((w_.length:Nat):Int)<(mx ((m_.Rows.length:Nat):Int) 2)) then(
  (Ws m_ w_ s_ t_).bind λr_=>
  bif r_==1 then(
   some (.done (.inr (w_,true))))
  else(
   (z0p w_ m_.Inputs).bind λah=>
   some (.next ah)))
 else(
  some (.done (.inl ())))
def ww (m_:z6)(s_:Int)(t_:Int):Option (List Int×Bool) :=
 (loop (λs=>Zv m_ s_ t_ s) ([]:List Int)).bind λt2=>
 match t2 with
 | .inl p=>XO
 | .inr p=>some p
def WY:Option Int :=
 some 0
def qV (a_:List Int)(b_:List Int)(i_:Int):Option (LR Int (Unit⊕Int)) :=
 bif decide (i_<((a_.length:Nat):Int)) then(
  (idx a_ i_).bind λdl=>
  (idx b_ i_).bind λdm=>
  bif decide (dl<dm) then(
   some (.done (.inr (-1))))
  else(
   (idx a_ i_).bind λgn=>
   (idx b_ i_).bind λgp=>
   bif decide (gn > gp) then(
    some (.done (.inr 1)))
   else(
    some (.next (w64 (i_+1))))))
 else(
  some (.done (.inl ())))
def ug (a_:List Int)(b_:List Int):Option Int :=
 bif ((a_.length:Nat):Int) !=((b_.length:Nat):Int) then(
  bif decide (((a_.length:Nat):Int)<((b_.length:Nat):Int)) then(
   some (-1))
  else(
   some 1))
 else(
  (loop (λs=>qV a_ b_ s) 0).bind λt2=>
  match t2 with
  | .inl p=>WY
  | .inr p=>some p)
def Qg (w_:List Int)(cx:Int)(eb:List (List Int)):Option (List (List Int)) :=
 gd (([]:List Int).length+w_.length<=4294967296) <|
 (idx eb cx).bind λbg=>
 some (eb.set cx.toNat w_)
def Wq (cx:Int)(gc:List (List Int))(i_:Int):Option (LR (List (List Int)×Int) (List (List Int))) :=
 bif decide (i_ > cx) then(
  (idx gc (w64 (i_ - 1))).bind λco=>
  (idx gc i_).bind λmb=>
  some (.next ((gc.set i_.toNat co),w64 (i_ - 1))))
 else(
  some (.done gc))
def Yx (l_:List (List Int))(w_:List Int)(cx:Int):Option (List (List Int)) :=
 gd (l_.length+([[]]:List (List Int)).length<=4294967296) <|
 (loop (λs=>Wq cx s.1 s.2) ((l_++([[]]:List (List Int))),w64 ((((l_++([[]]:List (List Int))).length:Nat):Int) - 1))).bind λt4=>
 Qg w_ cx t4
def Qh (l_:List (List Int))(w_:List Int)(cx:Int):Option (List (List Int)) :=
 bif decide (cx<((l_.length:Nat):Int)) then(
  (idx l_ cx).bind λjr=>
  (ug jr w_).bind λr_=>
  bif r_==0 then(
   some l_)
  else(
   Yx l_ w_ cx))
 else(
  Yx l_ w_ cx)
def Wp (l_:List (List Int))(w_:List Int)(fp:Int)(gm:Int):Option (LR (Int×Int) Int) :=
 bif decide (fp<gm) then(
  gd ((2:Int)≠0) <|
  (idx l_ (w64 (Int.tdiv (w64 (fp+gm)) 2))).bind λjs=>
  (ug js w_).bind λah=>
  bif decide (ah<0) then(
   some (.next (w64 ((w64 (Int.tdiv (w64 (fp+gm)) 2))+1),gm)))
  else(
   some (.next (fp,w64 (Int.tdiv (w64 (fp+gm)) 2)))))
 else(
  some (.done fp))
def KN (l_:List (List Int))(w_:List Int):Option (List (List Int)) :=
 (loop (λs=>Wp l_ w_ s.1 s.2) (0,((l_.length:Nat):Int))).bind λt5=>
 Qh l_ w_ t5
def JM (out:List (List Int)):Option (List (List Int)) :=
 some out
def uh (l_:List (List Int))(ai:List (List Int))(i_:Int):Option (LR (List (List Int)×Int) (List (List Int))) :=
 bif decide (i_<((l_.length:Nat):Int)) then(
  (idx l_ i_).bind λbg=>
  (KN ai bg).bind λr_=>
  some (.next (r_,w64 (i_+1))))
 else(
  some (.done ai))
def Jc (l_:List (List Int)):Option (List (List Int)) :=
 (loop (λs=>uh l_ s.1 s.2) (([]:List (List Int)),0)).bind λt2=>
 JM t2
def W6 (out:List (List Int)):Option (List (List Int)) :=
 (Jc out).bind λr_=>
 some r_
def W5 (a_:Int)(az:List (List Int)):Option (LR (List (List Int)×Int) (List (List Int))) :=
 some (.next (az,w64 (a_+1)))
def wv (b_:Int)(gj:List (List Int)):Option (LR (List (List Int)×Int) (List (List Int))) :=
 some (.next (gj,w64 (b_+1)))
def ZV (m_:z6)(s_:Int)(a_:Int)(bv:List (List Int))(b_:Int):Option (LR (List (List Int)×Int) (List (List Int))) :=
 bif decide (b_<((m_.Rows.length:Nat):Int)) then(
  bif decide (s_<0) then(
   (ww m_ a_ b_).bind λah=>
   gd (bv.length+([ah.1]:List (List Int)).length<=4294967296) <|
   wv b_ (bv++([ah.1]:List (List Int))))
  else(
   bif a_==s_ then(
    (ww m_ a_ b_).bind λal=>
    gd (bv.length+([al.1]:List (List Int)).length<=4294967296) <|
    wv b_ (bv++([al.1]:List (List Int))))
   else(
    bif b_==s_ then(
     (ww m_ a_ b_).bind λax=>
     gd (bv.length+([ax.1]:List (List Int)).length<=4294967296) <|
     wv b_ (bv++([ax.1]:List (List Int))))
    else(
     wv b_ bv))))
 else(
  some (.done bv))
def W4 (m_:z6)(s_:Int)(ai:List (List Int))(a_:Int):Option (LR (List (List Int)×Int) (List (List Int))) :=
 bif decide (a_<((m_.Rows.length:Nat):Int)) then(
  (loop (λs=>ZV m_ s_ a_ s.1 s.2) (ai,w64 (a_+1))).bind λt4=>
  W5 a_ t4)
 else(
  some (.done ai))
def Ua (m_:z6)(s_:Int):Option (List (List Int)) :=
 (loop (λs=>W4 m_ s_ s.1 s.2) (([]:List (List Int)),0)).bind λt2=>
 W6 t2
def Ud (m_:z6):Option (List (List Int)) :=
 (Ua m_ (-1)).bind λr_=>
 some r_
def JS:Option z6 :=
 some (z6.mk 2 2 ([[(z8.mk 1 0),(z8.mk 0 0)],[(z8.mk 2 0),(z8.mk 1 1)],[(z8.mk 0 1),(z8.mk 2 0)]]))
def XR (l_:List (List Int)):Option (List (List Int)) :=
 some l_
def z1o (a_:Int)(b_:Int)(x2:Int):Option Bool :=
 bif a_==x2 then(
  some true)
 else(
  some (b_==x2))
def Ys (m_:z6)(x5:Int)(out:List (List Int)):Option (List (List Int)×Int) :=
 (Vu out m_.Inputs).bind λr_=>
 some (r_.1,r_.2)
def qG (m_:z6)(is:Int)(br:Int)(ai:List (List Int))(bp:Int)(aq:Int):Option (LR (Int×List (List Int)) ((Int×List (List Int)))) :=
 (z1o bp aq is).bind λal=>
 bif !al then(
  some (.next (br,ai)))
 else(
  (uO m_ bp aq).bind λax=>
  bif ax.2.2 != 0 then(
   some (.done (ax.2.2,ai)))
  else(
   gd (ai.length+([ax.1]:List (List Int)).length<=4294967296) <|
   some (.next (br,(ai++([ax.1]:List (List Int)))))))
def V0 (m_:z6)(is:Int):Option (List (List Int)×Int) :=
 (uo ((m_.Rows.length:Nat):Int)).bind λah=>
 (yV ah (yOf (λs x=>qG m_ is s.1 s.2 x.1 x.2)) (.next (0,([]:List (List Int))))).bind λt2=>
 match t2 with
 | .next (br,ai)=>(
  Ys m_ br ai)
 | .done (br,ai)=>(
  some (([]:List (List Int)),br))
def KV (m_:z6)(s_:Int):Option (List (List Int)×Int) :=
 (w9 m_).bind λr_=>
 bif r_ != 0 then(
  some (([]:List (List Int)),r_))
 else(
  bif decide (s_<0) then(
   some (([]:List (List Int)),1))
  else(
   bif decide (s_>=((m_.Rows.length:Nat):Int)) then(
    some (([]:List (List Int)),1))
   else(
    (V0 m_ s_).bind λah=>
    some (ah.1,ah.2))))
def Vc:Option Bool :=
 some true
def Zu (a_:List (List Int))(b_:List (List Int))(i_:Int):Option (LR Int (Unit⊕Bool)) :=
 bif decide (i_<((a_.length:Nat):Int)) then(
  (idx a_ i_).bind λdl=>
  (idx b_ i_).bind λdm=>
  (ug dl dm).bind λr_=>
  bif r_ != 0 then(
   some (.done (.inr false)))
  else(
   some (.next (w64 (i_+1)))))
 else(
  some (.done (.inl ())))
def Yy (a_:List (List Int))(b_:List (List Int)):Option Bool :=
 bif ((a_.length:Nat):Int) !=((b_.length:Nat):Int) then(
  some false)
 else(
  (loop (λs=>Zu a_ b_ s) 0).bind λt2=>
  match t2 with
  | .inl p=>Vc
  | .inr p=>some p)
def qg (a_:List (List Int))(b_:List (List Int)):Option Bool :=
 (Yy a_ b_).bind λr_=>
 bif r_ then(
  some (((a_.length:Nat):Int)==((a_.length:Nat):Int)))
 else(
  some false)
def XY:Option Bool :=
 some true
def jG (l_:List (List Int))(i_:Int):Option (LR Int (Unit⊕Bool)) :=
 bif decide (i_<((l_.length:Nat):Int)) then(
  (idx l_ (w64 (i_ - 1))).bind λbg=>
  (idx l_ i_).bind λco=>
  (xI bg co).bind λr_=>
  bif decide (r_>=0) then(
   some (.done (.inr false)))
  else(
   some (.next (w64 (i_+1)))))
 else(
  some (.done (.inl ())))
def VB (l_:List (List Int)):Option Bool :=
 (loop (λs=>jG l_ s) 1).bind λt2=>
 match t2 with
 | .inl p=>XY
 | .inr p=>some p
def VC (l_:List (List Int))(inputs:Int):Option Int :=
 (XF l_ inputs).bind λr_=>
 bif r_ != 0 then(
  some r_)
 else(
  (VB l_).bind λah=>
  bif !ah then(
   some 1)
  else(
   (XE l_).bind λal=>
   bif decide (al > 65536) then(
    some 3)
   else(
    some 0)))
def Zj (m_:z6)(l_:List (List Int)):Option Int :=
 (w9 m_).bind λr_=>
 bif r_ != 0 then(
  some r_)
 else(
  (VC l_ m_.Inputs).bind λah=>
  some ah)
def Xk:Option (Bool×Int) :=
 some (true,0)
def qm (all:List (List (List Int)))(lm:Int)(ii:Int):Option (LR Unit Unit) :=
 (idx all lm).bind λjt=>
 (idx all ii).bind λja=>
 (wV jt ja).bind λal=>
 bif al then(
  some (.done ()))
 else(
  some (.next ()))
def Xl (m_:z6)(all:List (List (List Int))):Option (Bool×Int) :=
 (uo ((m_.Rows.length:Nat):Int)).bind λah=>
 (yV ah (yOf (λs x=>qm all x.1 x.2)) (.next ())).bind λt3=>
 match t3 with
 | .next _=>(
  Xk)
 | .done _=>(
  some (false,0))
def wI (m_:z6)(l_:List (List Int))(ie:List (List (List Int)))(jb:Int):Option (LR (List (List (List Int))×Int) (List (List (List Int)))) :=
 bif decide (jb<((m_.Rows.length:Nat):Int)) then(
  (xJ m_ l_ jb).bind λax=>
  gd (ie.length+([ax]:List (List (List Int))).length<=4294967296) <|
  some (.next ((ie++([ax]:List (List (List Int)))),w64 (jb+1))))
 else(
  some (.done ie))
def Zk (m_:z6)(l_:List (List Int)):Option (Bool×Int) :=
 (Zj m_ l_).bind λr_=>
 bif r_ != 0 then(
  some (false,r_))
 else(
  (loop (λs=>wI m_ l_ s.1 s.2) (([]:List (List (List Int))),0)).bind λt4=>
  Xl m_ t4)
def V1 (m_:z6)(l_:List (List Int))(s_:Int):Option (List (List Int)×Int) :=
 (Zj m_ l_).bind λr_=>
 bif r_ != 0 then(
  some (([]:List (List Int)),r_))
 else(
  bif decide (s_<0) then(
   some (([]:List (List Int)),1))
  else(
   bif decide (s_>=((m_.Rows.length:Nat):Int)) then(
    some (([]:List (List Int)),1))
   else(
    (xJ m_ l_ s_).bind λah=>
    some (ah,0))))
def XT (a_:List Int)(b_:List Int):Option Bool :=
 some (((a_.length:Nat):Int)==((b_.length:Nat):Int))
def yN:Option Bool :=
 some true
def yM (s1:List (List Int))(s2:List (List Int))(aq:Int):Option (LR Int (Unit⊕Bool)) :=
 bif decide (aq<((s1.length:Nat):Int)) then(
  (idx s1 aq).bind λga=>
  (idx s2 aq).bind λd0=>
  (XT ga d0).bind λr_=>
  bif !r_ then(
   some (.done (.inr false)))
  else(
   some (.next (w64 (aq+1)))))
 else(
  some (.done (.inl ())))
def xp (s1:List (List Int))(s2:List (List Int))(eq:Unit):Option Bool :=
 bif ((s1.length:Nat):Int) !=((s2.length:Nat):Int) then(
  some false)
 else(
  (loop (λs=>yM s1 s2 s) 0).bind λt2=>
  match t2 with
  | .inl p=>yN
  | .inr p=>some p)
def vg (s_:List Int):Option (List Int) :=
 some s_
def Xn (out:List Int):Option (List Int×Int) :=
 (vg out).bind λal=>
 some (al,0)
def kF (bh:Int)(az:List Int):Option (LR (List Int×Int) (List Int)) :=
 some (.next (az,w64 (bh+1)))
def Xm (m_:z6)(l_:List (List Int))(bj:List (List Int))(ai:List Int)(bh:Int):Option (LR (List Int×Int) (List Int)) :=
 bif decide (bh<((m_.Rows.length:Nat):Int)) then(
  (xJ m_ l_ bh).bind λax=>
  (wV ax bj).bind λbm=>
  bif bm then(
   gd (ai.length+([bh]:List Int).length<=4294967296) <|
   kF bh (ai++([bh]:List Int)))
  else(
   kF bh ai))
 else(
  some (.done ai))
def qn (m_:z6)(l_:List (List Int))(bj:List (List Int)):Option (List Int×Int) :=
 (Zj m_ l_).bind λr_=>
 bif r_ != 0 then(
  some (([]:List Int),r_))
 else(
  (xp l_ bj ()).bind λah=>
  bif !ah then(
   some (([]:List Int),16))
  else(
   (loop (λs=>Xm m_ l_ bj s.1 s.2) (([]:List Int),0)).bind λt2=>
   Xn t2))
def z0u (a_:List Int)(b_:List Int):Option Bool :=
 (Yy ([a_]) ([b_])).bind λr_=>
 bif r_ then(
  some (((a_.length:Nat):Int)==((a_.length:Nat):Int)))
 else(
  some false)
def Up:Option Bool :=
 (JS).bind λr_=>
 (XR ([[0],[1]])).bind λah=>
 (XU r_).bind λal=>
 (KV r_ 0).bind λax=>
 (KV r_ 1).bind λbm=>
 (KV r_ 2).bind λct=>
 (uq r_).bind λia=>
 bif al.2 != 0 then(
  some false)
 else(
  bif ax.2 != 0 then(
   some false)
  else(
   bif bm.2 != 0 then(
    some false)
   else(
    bif ct.2 != 0 then(
     some false)
    else(
     bif ia.2 != 0 then(
      some false)
     else(
      (qg al.1 ah).bind λka=>
      bif !ka then(
       some false)
      else(
       (qg ax.1 ah).bind λl6=>
       bif !l6 then(
        some false)
       else(
        (qg bm.1 ah).bind λl7=>
        bif !l7 then(
         some false)
        else(
         gd ((0:Int)<=0/\(0:Int)<=1/\(1:Int)<=((ah.length:Nat):Int)) <|
         (qg ct.1 ((ah.drop 0).take ((1:Int).toNat - 0))).bind λk9=>
         bif !k9 then(
          some false)
         else(
          (qg ia.1 ah).bind λla=>
          bif !la then(
           some false)
          else(
           gd ((0:Int)<=0/\(0:Int)<=1/\(1:Int)<=((ah.length:Nat):Int)) <|
           (Zk r_ ((ah.drop 0).take ((1:Int).toNat - 0))).bind λj7=>
           (XR ([[0,0]])).bind λki=>
           (Zk r_ ki).bind λj8=>
           (V1 r_ ah 1).bind λcp=>
           (XR ([[0],[0]])).bind λiu=>
           (qn r_ ah iu).bind λcu=>
           gd ((0:Int)<=0/\(0:Int)<=1/\(1:Int)<=((ah.length:Nat):Int)) <|
           (XR ([[0]])).bind λiv=>
           (qn r_ ((ah.drop 0).take ((1:Int).toNat - 0)) iv).bind λdb=>
           gd ((0:Int)<=0/\(0:Int)<=1/\(1:Int)<=((ah.length:Nat):Int)) <|
           (XR ([[7]])).bind λiw=>
           (qn r_ ((ah.drop 0).take ((1:Int).toNat - 0)) iw).bind λd9=>
           gd ((0:Int)<=0/\(0:Int)<=1/\(1:Int)<=((ah.length:Nat):Int)) <|
           (qn r_ ((ah.drop 0).take ((1:Int).toNat - 0)) ([]:List (List Int))).bind λfq=>
           bif j7.2==0 then(
            bif j8.2==0 then(
             bif cp.2==0 then(
              bif cu.2==0 then(
               bif db.2==0 then(
                bif d9.2==0 then(
                 bif !j7.1 then(
                  bif j8.1 then(
                   (qg cp.1 ah).bind λlb=>
                   bif lb then(
                    (z0u cu.1 ([0])).bind λlc=>
                    bif lc then(
                     (z0u db.1 ([0,1])).bind λld=>
                     bif ld then(
                      bif ((d9.1.length:Nat):Int)==0 then(
                       some (fq.2==16))
                      else(
                       some false))
                     else(
                      some false))
                    else(
                     some false))
                   else(
                    some false))
                  else(
                   some false))
                 else(
                  some false))
                else(
                 some false))
               else(
                some false))
              else(
               some false))
             else(
              some false))
            else(
             some false))
           else(
            some false)))))))))))
def jZ (out:List (List Int)):Option (List (List Int)) :=
 some out
def xv (m_:z6)(l_:List (List Int))(s_:Int)(ai:List (List Int))(i_:Int):Option (LR (List (List Int)×Int) (List (List Int))) :=
 bif decide (i_<((l_.length:Nat):Int)) then(
  (idx l_ i_).bind λbg=>
  (Uk m_ s_ bg).bind λr_=>
  gd (ai.length+([r_]:List (List Int)).length<=4294967296) <|
  some (.next ((ai++([r_]:List (List Int))),w64 (i_+1))))
 else(
  some (.done ai))
def uW (m_:z6)(l_:List (List Int))(s_:Int):Option (List (List Int)) :=
 (loop (λs=>xv m_ l_ s_ s.1 s.2) (([]:List (List Int)),0)).bind λt2=>
 jZ t2
def QL:Option Bool :=
 some true
def W8 (a_:Int):Option (LR Int (Unit⊕Bool)) :=
 some (.next (w64 (a_+1)))
def ZW (m_:z6)(l_:List (List Int))(a_:Int)(b_:Int):Option (LR Int (Unit⊕Bool)) :=
 bif decide (b_<a_) then(
  (uW m_ l_ a_).bind λr_=>
  (uW m_ l_ b_).bind λah=>
  (Yy r_ ah).bind λal=>
  bif al then(
   some (.done (.inr false)))
  else(
   some (.next (w64 (b_+1)))))
 else(
  some (.done (.inl ())))
def W7 (m_:z6)(l_:List (List Int))(a_:Int):Option (LR Int (Unit⊕Bool)) :=
 bif decide (a_<((m_.Rows.length:Nat):Int)) then(
  (loop (λs=>ZW m_ l_ a_ s) 0).bind λt4=>
  match t4 with
  | .inl p=>W8 a_
  | .inr p=>some (.done (.inr p)))
 else(
  some (.done (.inl ())))
def Ub (m_:z6)(l_:List (List Int)):Option Bool :=
 (loop (λs=>W7 m_ l_ s) 0).bind λt2=>
 match t2 with
 | .inl p=>QL
 | .inr p=>some p
def Vv (w_:List Int):Option Int :=
 bif decide (((w_.length:Nat):Int) > 256) then(
  some 3)
 else(
  some 0)
def WX:Option Int :=
 some 0
def vW (w_:List Int)(inputs:Int)(i_:Int):Option (LR Int (Unit⊕Int)) :=
 bif decide (i_<((w_.length:Nat):Int)) then(
  (idx w_ i_).bind λd8=>
  bif decide (d8<0) then(
   some (.done (.inr 1)))
  else(
   (idx w_ i_).bind λln=>
   bif decide (ln>=inputs) then(
    some (.done (.inr 1)))
   else(
    some (.next (w64 (i_+1))))))
 else(
  some (.done (.inl ())))
def YV (w_:List Int)(inputs:Int):Option Int :=
 (loop (λs=>vW w_ inputs s) 0).bind λt2=>
 match t2 with
 | .inl p=>WX
 | .inr p=>some p
def QN:Option Int :=
 some 0
def jI (l_:List (List Int))(inputs:Int)(i_:Int):Option (LR Int (Unit⊕Int)) :=
 bif decide (i_<((l_.length:Nat):Int)) then(
  (idx l_ i_).bind λbg=>
  (Vv bg).bind λr_=>
  bif r_ != 0 then(
   some (.done (.inr r_)))
  else(
   (idx l_ i_).bind λco=>
   (YV co inputs).bind λah=>
   bif ah != 0 then(
    some (.done (.inr ah)))
   else(
    some (.next (w64 (i_+1))))))
 else(
  some (.done (.inl ())))
def Uf (l_:List (List Int))(inputs:Int):Option Int :=
 bif decide (inputs > 16) then(
  some 3)
 else(
  bif decide (((l_.length:Nat):Int) > 4096) then(
   some 3)
  else(
   bif decide (inputs<1) then(
    some 1)
   else(
    (loop (λs=>jI l_ inputs s) 0).bind λt2=>
    match t2 with
    | .inl p=>QN
    | .inr p=>some p)))
def QM (n_:Int):Option Int :=
 some n_
def jH (l_:List (List Int))(cj:Int)(i_:Int):Option (LR (Int×Int) Int) :=
 bif decide (i_<((l_.length:Nat):Int)) then(
  (idx l_ i_).bind λbg=>
  some (.next (w64 (cj+((bg.length:Nat):Int)),w64 (i_+1))))
 else(
  some (.done cj))
def Ue (l_:List (List Int)):Option Int :=
 (loop (λs=>jH l_ s.1 s.2) (0,0)).bind λt2=>
 QM t2
def W9 (l_:List (List Int)):Option Int :=
 (Ue l_).bind λah=>
 bif decide (ah > 65536) then(
  some 3)
 else(
  some 0)
def jJ (l_:List (List Int))(i_:Int):Option (LR Int (Unit⊕Int)) :=
 bif decide (i_<((l_.length:Nat):Int)) then(
  (idx l_ (w64 (i_ - 1))).bind λbg=>
  (idx l_ i_).bind λco=>
  (ug bg co).bind λal=>
  bif decide (al>=0) then(
   some (.done (.inr 1)))
  else(
   some (.next (w64 (i_+1)))))
 else(
  some (.done (.inl ())))
def Ug (l_:List (List Int))(inputs:Int):Option Int :=
 (Uf l_ inputs).bind λr_=>
 bif r_ != 0 then(
  some r_)
 else(
  (loop (λs=>jJ l_ s) 1).bind λt2=>
  match t2 with
  | .inl p=>W9 l_
  | .inr p=>some p)
def U0:Option Bool :=
 some false
def uV (a_:List (List Int))(b_:List (List Int))(i_:Int):Option (LR Int (Unit⊕Bool)) :=
 bif decide (i_<((a_.length:Nat):Int)) then(
  gd ((0:Int)<=i_/\(i_:Int)<=w64 (i_+1)/\(w64 (i_+1):Int)<=((a_.length:Nat):Int)) <|
  gd ((0:Int)<=i_/\(i_:Int)<=w64 (i_+1)/\(w64 (i_+1):Int)<=((b_.length:Nat):Int)) <|
  (Yy ((a_.drop i_.toNat).take ((w64 (i_+1)).toNat - i_.toNat)) ((b_.drop i_.toNat).take ((w64 (i_+1)).toNat - i_.toNat))).bind λr_=>
  bif !r_ then(
   (idx a_ i_).bind λdl=>
   (idx b_ i_).bind λdm=>
   (Ug ([dl,dm]) 16).bind λah=>
   some (.done (.inr (ah==0))))
  else(
   some (.next (w64 (i_+1)))))
 else(
  some (.done (.inl ())))
def Zb (a_:List (List Int))(b_:List (List Int)):Option Bool :=
 (loop (λs=>uV a_ b_ s) 0).bind λt2=>
 match t2 with
 | .inl p=>U0
 | .inr p=>some p
def Uc (dh:List (List Int)):Option (List (List Int)) :=
 some dh
def xZ (n_:Int)(fj:List (List Int)):Option (LR (List (List Int)×Int) (List (List Int))) :=
 some (.next (fj,w64 (n_+1)))
def YU (m_:z6)(au:List (List Int))(n_:Int)(cd:List (List Int)):Option (LR (List (List Int)×Int) (List (List Int))) :=
 (Ub m_ cd).bind λah=>
 bif ah then(
  bif decide (((cd.length:Nat):Int)<((au.length:Nat):Int)) then(
   xZ n_ cd)
  else(
   bif ((cd.length:Nat):Int)==((au.length:Nat):Int) then(
    (Zb cd au).bind λal=>
    bif al then(
     xZ n_ cd)
    else(
     xZ n_ au))
   else(
    xZ n_ au)))
 else(
  xZ n_ au)
def Zc (i_:Int)(il:List (List Int)):Option (LR (List (List Int)×Int) (List (List Int))) :=
 some (.next (il,w64 (i_+1)))
def xY (r_:List (List Int))(n_:Int)(dr:List (List Int))(i_:Int):Option (LR (List (List Int)×Int) (List (List Int))) :=
 bif decide (i_<((r_.length:Nat):Int)) then(
  gd ((0:Int)<=i_) <|
  gd ((2:Int)≠0) <|
  bif (Int.tmod (Int.fdiv n_ (2 ^ (min (i_).toNat 64))) 2)==1 then(
   (idx r_ i_).bind λcm=>
   gd (dr.length+([cm]:List (List Int)).length<=4294967296) <|
   Zc i_ (dr++([cm]:List (List Int))))
  else(
   Zc i_ dr))
 else(
  some (.done dr))
def wH (m_:z6)(r_:List (List Int))(au:List (List Int))(n_:Int):Option (LR (List (List Int)×Int) (List (List Int))) :=
 gd ((0:Int)<=((r_.length:Nat):Int)) <|
 bif decide (n_<(z3w .i64 1 ((r_.length:Nat):Int))) then(
  (loop (λs=>xY r_ n_ s.1 s.2) (([]:List (List Int)),0)).bind λt5=>
  YU m_ au n_ t5)
 else(
  some (.done au))
def Wo (m_:z6):Option (List (List Int)) :=
 (Ud m_).bind λr_=>
 (loop (λs=>wH m_ r_ s.1 s.2) (r_,0)).bind λt2=>
 Uc t2
def kD (x_:ur):Option Bool :=
 (Jj (ur.mk x_.C)).bind λr_=>
 (uq r_).bind λah=>
 (Ud r_).bind λal=>
 bif decide (((al.length:Nat):Int) > 12) then(
  bif ah.2==3 then(
   bif ((ah.1.length:Nat):Int)==0 then(
    (Up).bind λax=>
    some ax)
   else(
    some false))
  else(
   some false))
 else(
  (Zk r_ ah.1).bind λbm=>
  bif ah.2==0 then(
   (Wo r_).bind λct=>
   (qg ah.1 ct).bind λia=>
   bif ia then(
    bif bm.2==0 then(
     bif bm.1 then(
      (Up).bind λka=>
      some ka)
     else(
      some false))
    else(
     some false))
   else(
    some false))
  else(
   some false))
abbrev F0_:=z2B (eI .i64)
abbrev F1_:=eSl 1 false (eI .u8)
abbrev F2_:=eSl 1 true (eI .i64)
abbrev F3_:=eOs 1 true (eI .i64)
abbrev F4_:=eSl 1 false (eI .u16)
abbrev F5_:=eOs 1 false (eI .i64)
abbrev F6_:=eSl 1 false (eI .i64)
abbrev F7_:=zfn F0_
abbrev F8_:=u7 (eI .i64) (eI .i64)
abbrev F9_:=eSl 1 true F2_
abbrev zp2:=eOs 1 true F3_
abbrev ziH:=eSl 1 true F6_
abbrev xy:=eSl 1 false F6_
abbrev zdu:=eOs 1 false F6_
abbrev zs0:=eSl 2 true F8_
abbrev yX:=eSl 2 false F8_
abbrev jU:=eOs 2 false F8_
abbrev z3m:=JW (eI .i64) F7_
abbrev zsU:=eSl 1 true zs0
abbrev zsT:=eSl 1 false yX
abbrev z0k:=Y3 (eI .u8) (eI .u8) (eI .u8) F1_ F4_
abbrev zaX:=wx (eI .i64) (eI .i64) zsU
abbrev zD:=wx (eI .i64) (eI .i64) zsT
abbrev z3l:=eSp zD
def rpN {α:Type _}(n:Nat)(a:α)(l:List α):List α:=Nat.rec l (λ_ r=>a::r) n
abbrev aLn (n:Nat):H:=.a (.atom (.int .i64 ((n:Nat):Int)))
end Go.Own

namespace Go.Proofs
open Go.Proofs.Tryz
open Go.Shelf
def Tryz.so118_ren:Go.Shelf.Ren:=⟨λ|6=>118|15=>139|14=>138|28=>161|29=>162|20=>153|21=>154|22=>155|23=>156|24=>157|25=>158|26=>159|27=>160|46=>169|47=>170|48=>171|49=>172|50=>173|57=>174|n=>n,λ|22=>32|24=>40|25=>91|3=>3|39=>78|0=>0|53=>104|55=>106|4=>4|46=>180|45=>179|50=>184|5=>5|9=>9|66=>194|70=>198|76=>200|77=>201|n=>n,λ|n=>n⟩
theorem Tryz.so118:Go.Proofs.SlLaysF0.n6 prog Tryz.so118_ren:={
 mixed:=by kernel_rfl
 f6:=⟨f118.name,by decide,func118.trans (congrArg some (by kernel_rfl))⟩
 f14:=⟨f138.name,by decide,func138.trans (congrArg some (by kernel_rfl))⟩
 f15:=func139.trans (congrArg some (by kernel_rfl))
 f20:=⟨f153.name,by decide,func153.trans (congrArg some (by kernel_rfl))⟩
 f21:=⟨f154.name,by decide,func154.trans (congrArg some (by kernel_rfl))⟩
 f22:=⟨f155.name,by decide,func155.trans (congrArg some (by kernel_rfl))⟩
 f23:=⟨f156.name,by decide,func156.trans (congrArg some (by kernel_rfl))⟩
 f24:=⟨f157.name,by decide,func157.trans (congrArg some (by kernel_rfl))⟩
 f25:=⟨f158.name,by decide,func158.trans (congrArg some (by kernel_rfl))⟩
 f26:=⟨f159.name,by decide,func159.trans (congrArg some (by kernel_rfl))⟩
 f27:=⟨f160.name,by decide,func160.trans (congrArg some (by kernel_rfl))⟩
 f28:=func161.trans (congrArg some (by kernel_rfl))
 f29:=func162.trans (congrArg some (by kernel_rfl))
 f46:=⟨f169.name,by decide,func169.trans (congrArg some (by kernel_rfl))⟩
 f47:=func170.trans (congrArg some (by kernel_rfl))
 f48:=func171.trans (congrArg some (by kernel_rfl))
 f49:=⟨f172.name,by decide,func172.trans (congrArg some (by kernel_rfl))⟩
 f50:=⟨f173.name,by decide,func173.trans (congrArg some (by kernel_rfl))⟩
 f57:=⟨f174.name,by decide,func174.trans (congrArg some (by kernel_rfl))⟩
 t0:=underlying0
 a0:=isAgg0
 z0:=sizeOf0
 v0:=zeroValue0
 t3:=underlying3
 a3:=isAgg3
 z3:=sizeOf3
 v3:=zeroValue3
 t4:=underlying4
 a4:=isAgg4
 z4:=sizeOf4
 v4:=zeroValue4
 t5:=underlying5
 a5:=isAgg5
 z5:=sizeOf5
 v5:=zeroValue5
 t9:=underlying9
 a9:=isAgg9
 z9:=sizeOf9
 v9:=zeroValue9
 t22:=underlying32
 a22:=isAgg32
 z22:=sizeOf32
 v22:=zeroValue32
 t25:=underlying91
 a25:=isAgg91
 z25:=sizeOf91
 v25:=zeroValue91
 t39:=underlying78
 a39:=isAgg78
 z39:=sizeOf78
 v39:=zeroValue78
 t45:=underlying179
 a45:=isAgg179
 z45:=sizeOf179
 v45:=zeroValue179
 t46:=underlying180
 a46:=isAgg180
 z46:=sizeOf180
 v46:=zeroValue180
 t50:=underlying184
 a50:=isAgg184
 z50:=sizeOf184
 v50:=zeroValue184
 t53:=underlying104
 a53:=isAgg104
 z53:=sizeOf104
 v53:=zeroValue104
 t55:=underlying106
 a55:=isAgg106
 z55:=sizeOf106
 v55:=zeroValue106
 t66:=underlying194
 a66:=isAgg194
 z66:=sizeOf194
 v66:=zeroValue194
 t70:=underlying198
 a70:=isAgg198
 z70:=sizeOf198
 v70:=zeroValue198
 t76:=underlying200
 a76:=isAgg200
 z76:=sizeOf200
 v76:=zeroValue200
 t77:=underlying201
 a77:=isAgg201
 z77:=sizeOf201
 v77:=zeroValue201 }
end Go.Proofs
