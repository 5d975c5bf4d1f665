/- -/
import Derived.Test.YtcodjgfoodacaaaGreatDoorPartB
import Derived.Test.YtcodjgfoodacaaaGreatDoorProg
import Derived.Test.YtcodjgfoodacaaaGreatDoorPartD
import Derived.Test.YtcodjgfoodacaaaGreatDoorChecked
import Derived.Lib.AppendZerosOnto
import Derived.Lib.SliceRun
import Derived.WalkKit
import Derived.Lib.Walk
import Derived.Test.YtcodjgfoodacaaaGreatDoorPartC
import Derived.Shelf.SlSortCmp.NoneTotal
import Derived.Ground.SlsfProg
set_option linter.unusedVariables false
set_option linter.unusedSimpArgs false
namespace Go.Ex
open Go.Proofs
theorem q5:EqP Tryz.prog 5 [.int .u8 0] false 1:=zaN (k:=.int .u8) Tryz.underlying5 ⟨_,(by kernel_rfl:Tryz.prog.info? 5=some Tryz.t5),rfl⟩ rfl
theorem q49:EqP Tryz.prog 49 (zbu 3 [.int .u8 0]) true 2:=z1o Tryz.underlying49 q5 ⟨_,(by kernel_rfl:Tryz.prog.info? 49=some Tryz.t49),rfl⟩
def i49:EI:=⟨.array 3 5,3,3,some [.int .u8 0,.int .u8 0,.int .u8 0],true⟩
theorem zoP:zgt Tryz.prog 49 i49:=⟨⟨Tryz.t49,by kernel_rfl,rfl,rfl,fun z h=>by cases h;exact⟨_,rfl,rfl,z3g rfl,rfl,⟨_,rfl⟩⟩⟩,Tryz.underlying49,fun _=>JQ q49 rfl rfl (Nat.le_of_ble_eq_true (by kernel_rfl)) (by decide)⟩
def i64:EI:=⟨.func,1,8,some [.nilFunc],false⟩
theorem q3:EqP Tryz.prog 3 [.int .i64 0] false 1:=zaN (k:=.int .i64) Tryz.underlying3 ⟨_,(by kernel_rfl:Tryz.prog.info? 3=some Tryz.t3),rfl⟩ rfl
theorem q66:EqP Tryz.prog 66 (QV [([.int .i64 0],false),([.int .i64 0],false)]) true 2:=Kr Tryz.underlying66 (by kernel_rfl) ⟨_,(by kernel_rfl:Tryz.prog.info? 66=some Tryz.t66),rfl⟩ (by decide) (yU.cons (by decide) rfl (q3.mono (by decide)) (yU.cons (by decide) rfl (q3.mono (by decide)) (yU.nil)))
def i66:EI:=⟨.struct [(0,3),(1,3)],2,16,some [.int .i64 0,.int .i64 0],true⟩
theorem zoO:zgt Tryz.prog 66 i66:=⟨⟨Tryz.t66,by kernel_rfl,rfl,rfl,fun z h=>by cases h;exact⟨_,rfl,rfl,z3g rfl,rfl,⟨_,rfl⟩⟩⟩,⟨_,Tryz.underlying66,by kernel_rfl,by
  intro f hf;simp only [List.mem_cons,List.not_mem_nil,or_false]at hf;rcases hf with rfl|rfl
  ·exact⟨Tryz.t3,by kernel_rfl⟩
  ·exact⟨Tryz.t3,by kernel_rfl⟩⟩,fun _=>JQ q66 rfl rfl (Nat.le_of_ble_eq_true (by kernel_rfl)) (by decide)⟩
theorem q67:EqP Tryz.prog 67 (QV [([.int .i64 0],false),([.int .i64 0],false)]) true 2:=Kr Tryz.underlying67 (by kernel_rfl) ⟨_,(by kernel_rfl:Tryz.prog.info? 67=some Tryz.t67),rfl⟩ (by decide) (yU.cons (by decide) rfl (q3.mono (by decide)) (yU.cons (by decide) rfl (q3.mono (by decide)) (yU.nil)))
def i67:EI:=⟨.struct [(0,3),(1,3)],2,16,some [.int .i64 0,.int .i64 0],true⟩
theorem zk5:zgt Tryz.prog 67 i67:=⟨⟨Tryz.t67,by kernel_rfl,rfl,rfl,fun z h=>by cases h;exact⟨_,rfl,rfl,z3g rfl,rfl,⟨_,rfl⟩⟩⟩,⟨_,Tryz.underlying67,by kernel_rfl,by
  intro f hf;simp only [List.mem_cons,List.not_mem_nil,or_false]at hf;rcases hf with rfl|rfl
  ·exact⟨Tryz.t3,by kernel_rfl⟩
  ·exact⟨Tryz.t3,by kernel_rfl⟩⟩,fun _=>JQ q67 rfl rfl (Nat.le_of_ble_eq_true (by kernel_rfl)) (by decide)⟩
theorem zmW:EqP Tryz.prog 171 (zbu 2 [.int .i64 0]) true 2:=z1o Tryz.underlying171 q3 ⟨_,(by kernel_rfl:Tryz.prog.info? 171=some Tryz.t171),rfl⟩
def zpR:EI:=⟨.array 2 3,2,16,some [.int .i64 0,.int .i64 0],true⟩
theorem zhR:zgt Tryz.prog 171 zpR:=⟨⟨Tryz.t171,by kernel_rfl,rfl,rfl,fun z h=>by cases h;exact⟨_,rfl,rfl,z3g rfl,rfl,⟨_,rfl⟩⟩⟩,Tryz.underlying171,fun _=>JQ zmW rfl rfl (Nat.le_of_ble_eq_true (by kernel_rfl)) (by decide)⟩
theorem zpJ:EqP Tryz.prog 189 (zbu 16 [.int .i64 0,.int .i64 0]) true 3:=z1o Tryz.underlying189 zmW ⟨_,(by kernel_rfl:Tryz.prog.info? 189=some Tryz.t189),rfl⟩
def zpQ:EI:=⟨.array 16 171,32,256,some [.int .i64 0,.int .i64 0,.int .i64 0,.int .i64 0,.int .i64 0,.int .i64 0,.int .i64 0,.int .i64 0,.int .i64 0,.int .i64 0,.int .i64 0,.int .i64 0,.int .i64 0,.int .i64 0,.int .i64 0,.int .i64 0,.int .i64 0,.int .i64 0,.int .i64 0,.int .i64 0,.int .i64 0,.int .i64 0,.int .i64 0,.int .i64 0,.int .i64 0,.int .i64 0,.int .i64 0,.int .i64 0,.int .i64 0,.int .i64 0,.int .i64 0,.int .i64 0],true⟩
theorem znb:zgt Tryz.prog 189 zpQ:=⟨⟨Tryz.t189,by kernel_rfl,rfl,rfl,fun z h=>by cases h;exact⟨_,rfl,rfl,z3g rfl,rfl,⟨_,rfl⟩⟩⟩,Tryz.underlying189,fun _=>JQ zpJ rfl rfl (Nat.le_of_ble_eq_true (by kernel_rfl)) (by decide)⟩
theorem zmV:EqP Tryz.prog 190 (zbu 16 [.int .i64 0,.int .i64 0]) true 3:=z1o Tryz.underlying190 zmW ⟨_,(by kernel_rfl:Tryz.prog.info? 190=some Tryz.t190),rfl⟩
def zpP:EI:=⟨.array 16 171,32,256,some [.int .i64 0,.int .i64 0,.int .i64 0,.int .i64 0,.int .i64 0,.int .i64 0,.int .i64 0,.int .i64 0,.int .i64 0,.int .i64 0,.int .i64 0,.int .i64 0,.int .i64 0,.int .i64 0,.int .i64 0,.int .i64 0,.int .i64 0,.int .i64 0,.int .i64 0,.int .i64 0,.int .i64 0,.int .i64 0,.int .i64 0,.int .i64 0,.int .i64 0,.int .i64 0,.int .i64 0,.int .i64 0,.int .i64 0,.int .i64 0,.int .i64 0,.int .i64 0],true⟩
theorem zhQ:zgt Tryz.prog 190 zpP:=⟨⟨Tryz.t190,by kernel_rfl,rfl,rfl,fun z h=>by cases h;exact⟨_,rfl,rfl,z3g rfl,rfl,⟨_,rfl⟩⟩⟩,Tryz.underlying190,fun _=>JQ zmV rfl rfl (Nat.le_of_ble_eq_true (by kernel_rfl)) (by decide)⟩
theorem zpI:EqP Tryz.prog 192 (QV [([.int .i64 0],false),([.int .i64 0,.int .i64 0,.int .i64 0,.int .i64 0,.int .i64 0,.int .i64 0,.int .i64 0,.int .i64 0,.int .i64 0,.int .i64 0,.int .i64 0,.int .i64 0,.int .i64 0,.int .i64 0,.int .i64 0,.int .i64 0,.int .i64 0,.int .i64 0,.int .i64 0,.int .i64 0,.int .i64 0,.int .i64 0,.int .i64 0,.int .i64 0,.int .i64 0,.int .i64 0,.int .i64 0,.int .i64 0,.int .i64 0,.int .i64 0,.int .i64 0,.int .i64 0],true)]) true 4:=Kr Tryz.underlying192 (by kernel_rfl) ⟨_,(by kernel_rfl:Tryz.prog.info? 192=some Tryz.t192),rfl⟩ (by decide) (yU.cons (by decide) rfl (q3.mono (by decide)) (yU.cons (by decide) rfl (zmV.mono (by decide)) (yU.nil)))
def zpO:EI:=⟨.struct [(0,3),(1,190)],33,264,some [.int .i64 0,.int .i64 0,.int .i64 0,.int .i64 0,.int .i64 0,.int .i64 0,.int .i64 0,.int .i64 0,.int .i64 0,.int .i64 0,.int .i64 0,.int .i64 0,.int .i64 0,.int .i64 0,.int .i64 0,.int .i64 0,.int .i64 0,.int .i64 0,.int .i64 0,.int .i64 0,.int .i64 0,.int .i64 0,.int .i64 0,.int .i64 0,.int .i64 0,.int .i64 0,.int .i64 0,.int .i64 0,.int .i64 0,.int .i64 0,.int .i64 0,.int .i64 0,.int .i64 0],true⟩
theorem zna:zgt Tryz.prog 192 zpO:=⟨⟨Tryz.t192,by kernel_rfl,rfl,rfl,fun z h=>by cases h;exact⟨_,rfl,rfl,z3g rfl,rfl,⟨_,rfl⟩⟩⟩,⟨_,Tryz.underlying192,by kernel_rfl,by
  intro f hf;simp only [List.mem_cons,List.not_mem_nil,or_false]at hf;rcases hf with rfl|rfl
  ·exact⟨Tryz.t3,by kernel_rfl⟩
  ·exact⟨Tryz.t190,by kernel_rfl⟩⟩,fun _=>JQ zpI rfl rfl (Nat.le_of_ble_eq_true (by kernel_rfl)) (by decide)⟩
theorem zpH:EqP Tryz.prog 193 (QV [([.int .i64 0],false),([.int .i64 0,.int .i64 0,.int .i64 0,.int .i64 0,.int .i64 0,.int .i64 0,.int .i64 0,.int .i64 0,.int .i64 0,.int .i64 0,.int .i64 0,.int .i64 0,.int .i64 0,.int .i64 0,.int .i64 0,.int .i64 0,.int .i64 0,.int .i64 0,.int .i64 0,.int .i64 0,.int .i64 0,.int .i64 0,.int .i64 0,.int .i64 0,.int .i64 0,.int .i64 0,.int .i64 0,.int .i64 0,.int .i64 0,.int .i64 0,.int .i64 0,.int .i64 0],true)]) true 4:=Kr Tryz.underlying193 (by kernel_rfl) ⟨_,(by kernel_rfl:Tryz.prog.info? 193=some Tryz.t193),rfl⟩ (by decide) (yU.cons (by decide) rfl (q3.mono (by decide)) (yU.cons (by decide) rfl (zmV.mono (by decide)) (yU.nil)))
def zpN:EI:=⟨.struct [(0,3),(1,190)],33,264,some [.int .i64 0,.int .i64 0,.int .i64 0,.int .i64 0,.int .i64 0,.int .i64 0,.int .i64 0,.int .i64 0,.int .i64 0,.int .i64 0,.int .i64 0,.int .i64 0,.int .i64 0,.int .i64 0,.int .i64 0,.int .i64 0,.int .i64 0,.int .i64 0,.int .i64 0,.int .i64 0,.int .i64 0,.int .i64 0,.int .i64 0,.int .i64 0,.int .i64 0,.int .i64 0,.int .i64 0,.int .i64 0,.int .i64 0,.int .i64 0,.int .i64 0,.int .i64 0,.int .i64 0],true⟩
theorem zcV:zgt Tryz.prog 193 zpN:=⟨⟨Tryz.t193,by kernel_rfl,rfl,rfl,fun z h=>by cases h;exact⟨_,rfl,rfl,z3g rfl,rfl,⟨_,rfl⟩⟩⟩,⟨_,Tryz.underlying193,by kernel_rfl,by
  intro f hf;simp only [List.mem_cons,List.not_mem_nil,or_false]at hf;rcases hf with rfl|rfl
  ·exact⟨Tryz.t3,by kernel_rfl⟩
  ·exact⟨Tryz.t190,by kernel_rfl⟩⟩,fun _=>JQ zpH rfl rfl (Nat.le_of_ble_eq_true (by kernel_rfl)) (by decide)⟩
end Go.Ex

namespace Go.Own
open Go.Proofs
def zn9:Value->Bool
 | .int _ _=>true
 | _=>false
theorem z90:∀{z vs us:List Value}{r:Bool},z.all zn9=true->z.length=vs.length->xp vs us=some r->Go.Ex.z7M z vs=true/\Go.Ex.xp vs us=some r
 | [],[],us,r,_,_,h=>by
  cases us with
  | nil=>simp only [xp,Option.some.injEq]at h;subst h;exact⟨rfl,rfl⟩
  | cons u us=>simp [xp]at h
 | a::z,v::vs,us,r,hz,hl,h=>by
  have q:∃k x u' k' y,v=.int k x/\us=.int k' y::u'/\k=k':=by
   cases us with
   | nil=>cases v <;> simp [xp]at h
   | cons u us=>
    cases v <;> cases u <;> simp [xp]at h
    exact⟨_,_,_,_,_,rfl,rfl,h.1⟩
  obtain⟨k,x,u',k',y,rfl,rfl,hk⟩:=q;simp only [xp,hk,if_true,Option.map_eq_some_iff]at h;obtain⟨r',e1,rfl⟩:=h;simp only [List.all_cons,Bool.and_eq_true]at hz;obtain⟨q1,q2⟩:=z90 hz.2 (by simpa using hl) e1
  refine⟨?_,by simp [Go.Ex.xp,hk,q2]⟩
  cases a <;> first|(simp [zn9]at hz;done)|simpa [Go.Ex.z7M] using q1
 | [],_::_,_,_,_,hl,_=>by simp at hl
 | _::_,[],_,_,_,hl,_=>by simp at hl
theorem z7t {P:Program}{t n:Nat}{i:Go.Ex.EI}(h:Go.Ex.zgs P t i){z:List Value}(hz:i.zero=some z)(hi:z.all zn9=true)(hs:i.size=n)(hn:z.length=n):zgs P t n:={
 guard:=h.guard
 run:=fun vs us r w hv hu he=>by
  obtain⟨q1,q2⟩:=z90 hi (by rw [hn,hv]) he
  exact h.run vs us r w (by rw [hs];exact hv) (by rw [hs];exact hu) (by simpa only [Go.Ex.znd,hz] using q1) q2 }
theorem zg {S:zj}{h:Array Obj}{v:Value}(hv:v.oneCell'=true):zK S h (.atom v) [v] []:=by simp only [zK,Rep];exact⟨⟨trivial,hv⟩,trivial⟩
theorem vo {S:zj}{h:Array Obj}(sz:Nat):zK S h (.osl sz true []) [.slice none 0 0] []:=by
 simp only [zK];exact⟨none,0,rfl,(fun _=>rfl),Nat.le_refl _,Nat.zero_le _,by simp,.inl ⟨trivial,rfl,rfl,trivial⟩⟩
theorem zaP {S:zj}{h:Array Obj}{sz:Nat}:zK S h (.dop (nlQ sz [])) [.slice none 0 0] []:=by
 simp only [zK,Rep];exact⟨⟨_,rfl,zcC.2 ⟨by simp [Rep],fun _=>rfl⟩⟩,trivial⟩
theorem JR {S:zj}{h:Array Obj}{a:A}{c:List Value}(q:zK S h a c []):∀n,zO S h (List.replicate n a) (List.replicate n c).flatten []
 | 0=>by simp [zO]
 | n+1=>by
  rw [List.replicate_succ,List.replicate_succ,List.flatten_cons];simp only [zO];exact⟨c,_,[],[],rfl,rfl,q,JR q n⟩
theorem zi1 {S:zj}{h:Array Obj}{a:A}{c c':List Value}(q:zK S h a c [])(e:c'=c):zK S h a c' []:=e ▸ q
theorem zI {S:zj}{h:Array Obj}{fs:List A}{cs:List Value}(q:zO S h fs cs []):zK S h (.agg fs) cs []:=by simpa only [zK] using q
theorem zC {S:zj}{h:Array Obj}:zO S h [] [] []:=by simp [zO]
theorem zf {S:zj}{h:Array Obj}{a:A}{fs:List A}{c1 c2:List Value}(q1:zK S h a c1 [])(q2:zO S h fs c2 []):zO S h (a::fs) (c1++c2) []:=by simp only [zO];exact⟨c1,c2,[],[],rfl,rfl,q1,q2⟩
def ti1:TI:=⟨.other,1,8,some (.atom .nilFunc),false⟩
theorem ziV:Zf Tryz.prog 1 ti1:=⟨⟨Tryz.t1,by kernel_rfl,rfl,rfl,fun z h=>by cases h;exact⟨_,rfl,rfl,fun S h=>zg rfl⟩⟩,⟨_,Tryz.underlying1,rfl⟩,by intro h;cases h⟩
def ti2:TI:=⟨.int .i64,1,8,some (.atom (.int .i64 0)),false⟩
theorem ziU:Zf Tryz.prog 2 ti2:=⟨⟨Tryz.t2,by kernel_rfl,rfl,rfl,fun z h=>by cases h;exact⟨_,rfl,rfl,fun S h=>zg rfl⟩⟩,Tryz.underlying2,by intro h;cases h⟩
def ti3:TI:=⟨.int .i64,1,8,some (.atom (.int .i64 0)),false⟩
theorem ziT:Zf Tryz.prog 3 ti3:=⟨⟨Tryz.t3,by kernel_rfl,rfl,rfl,fun z h=>by cases h;exact⟨_,rfl,rfl,fun S h=>zg rfl⟩⟩,Tryz.underlying3,by intro h;cases h⟩
def ti4:TI:=⟨.bool,1,1,some (.atom (.bool false)),false⟩
theorem ziS:Zf Tryz.prog 4 ti4:=⟨⟨Tryz.t4,by kernel_rfl,rfl,rfl,fun z h=>by cases h;exact⟨_,rfl,rfl,fun S h=>zg rfl⟩⟩,Tryz.underlying4,by intro h;cases h⟩
def ti5:TI:=⟨.int .u8,1,1,some (.atom (.int .u8 0)),false⟩
theorem ziR:Zf Tryz.prog 5 ti5:=⟨⟨Tryz.t5,by kernel_rfl,rfl,rfl,fun z h=>by cases h;exact⟨_,rfl,rfl,fun S h=>zg rfl⟩⟩,Tryz.underlying5,by intro h;cases h⟩
def ti9:TI:=⟨.str,1,16,none,false⟩
theorem ziQ:Zf Tryz.prog 9 ti9:=⟨⟨Tryz.t9,by kernel_rfl,rfl,rfl,fun z h=>by cases h⟩,Tryz.underlying9,by intro h;cases h⟩
def zos:TI:=⟨.other,1,16,some (.atom .nilIface),false⟩
theorem zh1:Zf Tryz.prog 20 zos:=⟨⟨Tryz.t20,by kernel_rfl,rfl,rfl,fun z h=>by cases h;exact⟨_,rfl,rfl,fun S h=>zg rfl⟩⟩,⟨_,Tryz.underlying20,rfl⟩,by intro h;cases h⟩
def zor:TI:=⟨.slice 5,1,24,some (.osl 1 true []),false⟩
theorem zh0:Zf Tryz.prog 22 zor:=⟨⟨Tryz.t22,by kernel_rfl,rfl,rfl,fun z h=>by cases h;exact⟨_,rfl,rfl,fun S h=>vo _⟩⟩,Tryz.underlying22,by intro h;cases h⟩
def zoq:TI:=⟨.slice 117,1,24,some (.osl 1 true []),false⟩
theorem zgZ:Zf Tryz.prog 23 zoq:=⟨⟨Tryz.t23,by kernel_rfl,rfl,rfl,fun z h=>by cases h;exact⟨_,rfl,rfl,fun S h=>vo _⟩⟩,Tryz.underlying23,by intro h;cases h⟩
def zop:TI:=⟨.struct [(0,1),(1,1),(2,1),(3,1),(4,1)],5,56,some (.agg [.atom (.int .u8 0),.atom (.int .u8 0),.atom (.int .u8 0),.osl 1 true [],.osl 1 true []]),false⟩
theorem zgY:Zf Tryz.prog 25 zop:=⟨⟨Tryz.t25,by kernel_rfl,rfl,rfl,fun z h=>by cases h;exact⟨_,rfl,rfl,fun S h=>zI (zf (zg rfl) (zf (zg rfl) (zf (zg rfl) (zf (vo _) (zf (vo _) (zC))))))⟩⟩,⟨_,Tryz.underlying25,by kernel_rfl,by
  intro f hf;simp only [List.mem_cons,List.not_mem_nil,or_false]at hf;rcases hf with rfl|rfl|rfl|rfl|rfl
  ·exact⟨Tryz.t5,by kernel_rfl⟩
  ·exact⟨Tryz.t5,by kernel_rfl⟩
  ·exact⟨Tryz.t5,by kernel_rfl⟩
  ·exact⟨Tryz.t22,by kernel_rfl⟩
  ·exact⟨Tryz.t23,by kernel_rfl⟩⟩,by intro h;cases h⟩
def zoo:TI:=⟨.struct [(0,5)],5,56,some (.agg [.agg [.atom (.int .u8 0),.atom (.int .u8 0),.atom (.int .u8 0),.osl 1 true [],.osl 1 true []]]),false⟩
theorem zgX:Zf Tryz.prog 27 zoo:=⟨⟨Tryz.t27,by kernel_rfl,rfl,rfl,fun z h=>by cases h;exact⟨_,rfl,rfl,fun S h=>zI (zf (zI (zf (zg rfl) (zf (zg rfl) (zf (zg rfl) (zf (vo _) (zf (vo _) (zC))))))) (zC))⟩⟩,⟨_,Tryz.underlying27,by kernel_rfl,by
  intro f hf;simp only [List.mem_cons,List.not_mem_nil,or_false]at hf;rcases hf with rfl
  ·exact⟨Tryz.t25,by kernel_rfl⟩⟩,by intro h;cases h⟩
def zon:TI:=⟨.slice 68,1,24,some (.osl 1 true []),false⟩
theorem zgW:Zf Tryz.prog 28 zon:=⟨⟨Tryz.t28,by kernel_rfl,rfl,rfl,fun z h=>by cases h;exact⟨_,rfl,rfl,fun S h=>vo _⟩⟩,Tryz.underlying28,by intro h;cases h⟩
def zom:TI:=⟨.struct [(0,1),(1,1),(2,1)],3,40,some (.agg [.atom (.int .i64 0),.atom (.int .i64 0),.osl 1 true []]),false⟩
theorem zgV:Zf Tryz.prog 30 zom:=⟨⟨Tryz.t30,by kernel_rfl,rfl,rfl,fun z h=>by cases h;exact⟨_,rfl,rfl,fun S h=>zI (zf (zg rfl) (zf (zg rfl) (zf (vo _) (zC))))⟩⟩,⟨_,Tryz.underlying30,by kernel_rfl,by
  intro f hf;simp only [List.mem_cons,List.not_mem_nil,or_false]at hf;rcases hf with rfl|rfl|rfl
  ·exact⟨Tryz.t3,by kernel_rfl⟩
  ·exact⟨Tryz.t3,by kernel_rfl⟩
  ·exact⟨Tryz.t28,by kernel_rfl⟩⟩,by intro h;cases h⟩
def zol:TI:=⟨.slice 40,1,24,some (.osl 1 true []),false⟩
theorem zgU:Zf Tryz.prog 32 zol:=⟨⟨Tryz.t32,by kernel_rfl,rfl,rfl,fun z h=>by cases h;exact⟨_,rfl,rfl,fun S h=>vo _⟩⟩,Tryz.underlying32,by intro h;cases h⟩
def zok:TI:=⟨.int .i64,1,8,some (.atom (.int .i64 0)),false⟩
theorem zgT:Zf Tryz.prog 33 zok:=⟨⟨Tryz.t33,by kernel_rfl,rfl,rfl,fun z h=>by cases h;exact⟨_,rfl,rfl,fun S h=>zg rfl⟩⟩,Tryz.underlying33,by intro h;cases h⟩
def zoj:TI:=⟨.slice 3,1,24,some (.osl 1 true []),false⟩
theorem zgS:Zf Tryz.prog 40 zoj:=⟨⟨Tryz.t40,by kernel_rfl,rfl,rfl,fun z h=>by cases h;exact⟨_,rfl,rfl,fun S h=>vo _⟩⟩,Tryz.underlying40,by intro h;cases h⟩
def zoi:TI:=⟨.other,1,8,some (.atom .nilFunc),false⟩
theorem zgR:Zf Tryz.prog 41 zoi:=⟨⟨Tryz.t41,by kernel_rfl,rfl,rfl,fun z h=>by cases h;exact⟨_,rfl,rfl,fun S h=>zg rfl⟩⟩,⟨_,Tryz.underlying41,rfl⟩,by intro h;cases h⟩
def zoh:TI:=⟨.other,1,8,some (.atom .nilFunc),false⟩
theorem zgQ:Zf Tryz.prog 42 zoh:=⟨⟨Tryz.t42,by kernel_rfl,rfl,rfl,fun z h=>by cases h;exact⟨_,rfl,rfl,fun S h=>zg rfl⟩⟩,⟨_,Tryz.underlying42,rfl⟩,by intro h;cases h⟩
def zog:TI:=⟨.other,1,8,some (.atom .nilFunc),false⟩
theorem zgP:Zf Tryz.prog 57 zog:=⟨⟨Tryz.t57,by kernel_rfl,rfl,rfl,fun z h=>by cases h;exact⟨_,rfl,rfl,fun S h=>zg rfl⟩⟩,⟨_,Tryz.underlying57,rfl⟩,by intro h;cases h⟩
def zof:TI:=⟨.struct [(0,1),(1,1)],2,16,some (.agg [.atom (.int .i64 0),.atom (.int .i64 0)]),true⟩
theorem zgO:Zf Tryz.prog 67 zof:=⟨⟨Tryz.t67,by kernel_rfl,rfl,rfl,fun z h=>by cases h;exact⟨_,rfl,rfl,fun S h=>zI (zf (zg rfl) (zf (zg rfl) (zC)))⟩⟩,⟨_,Tryz.underlying67,by kernel_rfl,by
  intro f hf;simp only [List.mem_cons,List.not_mem_nil,or_false]at hf;rcases hf with rfl|rfl
  ·exact⟨Tryz.t3,by kernel_rfl⟩
  ·exact⟨Tryz.t3,by kernel_rfl⟩⟩,fun _=>z7t (Go.Ex.zk5.eqn rfl) rfl rfl rfl rfl⟩
def zoe:TI:=⟨.slice 67,1,24,some (.osl 2 true []),false⟩
theorem zgN:Zf Tryz.prog 68 zoe:=⟨⟨Tryz.t68,by kernel_rfl,rfl,rfl,fun z h=>by cases h;exact⟨_,rfl,rfl,fun S h=>vo _⟩⟩,Tryz.underlying68,by intro h;cases h⟩
def zod:TI:=⟨.other,1,8,some (.atom .nilFunc),false⟩
theorem zgM:Zf Tryz.prog 73 zod:=⟨⟨Tryz.t73,by kernel_rfl,rfl,rfl,fun z h=>by cases h;exact⟨_,rfl,rfl,fun S h=>zg rfl⟩⟩,⟨_,Tryz.underlying73,rfl⟩,by intro h;cases h⟩
def zoc:TI:=⟨.slice 78,1,24,some (.osl 1 true []),false⟩
theorem zgL:Zf Tryz.prog 76 zoc:=⟨⟨Tryz.t76,by kernel_rfl,rfl,rfl,fun z h=>by cases h;exact⟨_,rfl,rfl,fun S h=>vo _⟩⟩,Tryz.underlying76,by intro h;cases h⟩
def zob:TI:=⟨.int .u64,1,8,some (.atom (.int .u64 0)),false⟩
theorem zgK:Zf Tryz.prog 78 zob:=⟨⟨Tryz.t78,by kernel_rfl,rfl,rfl,fun z h=>by cases h;exact⟨_,rfl,rfl,fun S h=>zg rfl⟩⟩,Tryz.underlying78,by intro h;cases h⟩
def zoa:TI:=⟨.other,1,8,some (.atom .nilFunc),false⟩
theorem zgJ:Zf Tryz.prog 80 zoa:=⟨⟨Tryz.t80,by kernel_rfl,rfl,rfl,fun z h=>by cases h;exact⟨_,rfl,rfl,fun S h=>zg rfl⟩⟩,⟨_,Tryz.underlying80,rfl⟩,by intro h;cases h⟩
def zo9:TI:=⟨.slice 32,1,24,some (.osl 1 true []),false⟩
theorem zgI:Zf Tryz.prog 82 zo9:=⟨⟨Tryz.t82,by kernel_rfl,rfl,rfl,fun z h=>by cases h;exact⟨_,rfl,rfl,fun S h=>vo _⟩⟩,Tryz.underlying82,by intro h;cases h⟩
def zo8:TI:=⟨.other,1,8,some (.atom .nilFunc),false⟩
theorem zgH:Zf Tryz.prog 83 zo8:=⟨⟨Tryz.t83,by kernel_rfl,rfl,rfl,fun z h=>by cases h;exact⟨_,rfl,rfl,fun S h=>zg rfl⟩⟩,⟨_,Tryz.underlying83,rfl⟩,by intro h;cases h⟩
def zo7:TI:=⟨.other,1,8,some (.atom .nilFunc),false⟩
theorem zgG:Zf Tryz.prog 84 zo7:=⟨⟨Tryz.t84,by kernel_rfl,rfl,rfl,fun z h=>by cases h;exact⟨_,rfl,rfl,fun S h=>zg rfl⟩⟩,⟨_,Tryz.underlying84,rfl⟩,by intro h;cases h⟩
def zo6:TI:=⟨.other,1,8,some (.atom .nilFunc),false⟩
theorem zgF:Zf Tryz.prog 93 zo6:=⟨⟨Tryz.t93,by kernel_rfl,rfl,rfl,fun z h=>by cases h;exact⟨_,rfl,rfl,fun S h=>zg rfl⟩⟩,⟨_,Tryz.underlying93,rfl⟩,by intro h;cases h⟩
def zo5:TI:=⟨.struct [(0,1),(1,1)],2,16,some (.agg [.atom (.int .i64 0),.atom .nilFunc]),false⟩
theorem zgE:Zf Tryz.prog 95 zo5:=⟨⟨Tryz.t95,by kernel_rfl,rfl,rfl,fun z h=>by cases h;exact⟨_,rfl,rfl,fun S h=>zI (zf (zg rfl) (zf (zg rfl) (zC)))⟩⟩,⟨_,Tryz.underlying95,by kernel_rfl,by
  intro f hf;simp only [List.mem_cons,List.not_mem_nil,or_false]at hf;rcases hf with rfl|rfl
  ·exact⟨Tryz.t33,by kernel_rfl⟩
  ·exact⟨Tryz.t42,by kernel_rfl⟩⟩,by intro h;cases h⟩
def zo4:TI:=⟨.array 3 95,6,48,some (.agg [.agg [.atom (.int .i64 0),.atom .nilFunc],.agg [.atom (.int .i64 0),.atom .nilFunc],.agg [.atom (.int .i64 0),.atom .nilFunc]]),false⟩
theorem zgD:Zf Tryz.prog 96 zo4:=⟨⟨Tryz.t96,by kernel_rfl,rfl,rfl,fun z h=>by cases h;exact⟨_,rfl,rfl,fun S h=>zI (zf (zI (zf (zg rfl) (zf (zg rfl) (zC)))) (zf (zI (zf (zg rfl) (zf (zg rfl) (zC)))) (zf (zI (zf (zg rfl) (zf (zg rfl) (zC)))) (zC))))⟩⟩,Tryz.underlying96,by intro h;cases h⟩
def zo3:TI:=⟨.other,1,8,some (.atom .nilFunc),false⟩
theorem zgC:Zf Tryz.prog 97 zo3:=⟨⟨Tryz.t97,by kernel_rfl,rfl,rfl,fun z h=>by cases h;exact⟨_,rfl,rfl,fun S h=>zg rfl⟩⟩,⟨_,Tryz.underlying97,rfl⟩,by intro h;cases h⟩
def zo2:TI:=⟨.other,1,8,some (.atom .nilFunc),false⟩
theorem zgB:Zf Tryz.prog 99 zo2:=⟨⟨Tryz.t99,by kernel_rfl,rfl,rfl,fun z h=>by cases h;exact⟨_,rfl,rfl,fun S h=>zg rfl⟩⟩,⟨_,Tryz.underlying99,rfl⟩,by intro h;cases h⟩
def zjp:TI:=⟨.int .u32,1,4,some (.atom (.int .u32 0)),false⟩
theorem zeh:Zf Tryz.prog 104 zjp:=⟨⟨Tryz.t104,by kernel_rfl,rfl,rfl,fun z h=>by cases h;exact⟨_,rfl,rfl,fun S h=>zg rfl⟩⟩,Tryz.underlying104,by intro h;cases h⟩
def zjo:TI:=⟨.int .u64,1,8,some (.atom (.int .u64 0)),false⟩
theorem zeg:Zf Tryz.prog 106 zjo:=⟨⟨Tryz.t106,by kernel_rfl,rfl,rfl,fun z h=>by cases h;exact⟨_,rfl,rfl,fun S h=>zg rfl⟩⟩,Tryz.underlying106,by intro h;cases h⟩
def zjn:TI:=⟨.slice 4,1,24,some (.osl 1 true []),false⟩
theorem zef:Zf Tryz.prog 111 zjn:=⟨⟨Tryz.t111,by kernel_rfl,rfl,rfl,fun z h=>by cases h;exact⟨_,rfl,rfl,fun S h=>vo _⟩⟩,Tryz.underlying111,by intro h;cases h⟩
def zjm:TI:=⟨.int .u16,1,2,some (.atom (.int .u16 0)),false⟩
theorem zee:Zf Tryz.prog 117 zjm:=⟨⟨Tryz.t117,by kernel_rfl,rfl,rfl,fun z h=>by cases h;exact⟨_,rfl,rfl,fun S h=>zg rfl⟩⟩,Tryz.underlying117,by intro h;cases h⟩
def zjl:TI:=⟨.other,1,8,some (.atom .nilFunc),false⟩
theorem zed:Zf Tryz.prog 120 zjl:=⟨⟨Tryz.t120,by kernel_rfl,rfl,rfl,fun z h=>by cases h;exact⟨_,rfl,rfl,fun S h=>zg rfl⟩⟩,⟨_,Tryz.underlying120,rfl⟩,by intro h;cases h⟩
def zjk:TI:=⟨.array 64 40,64,1536,some (.agg (List.replicate 64 (.dop (nlQ 1 [])))),false⟩
theorem zec:Zf Tryz.prog 125 zjk:=⟨⟨Tryz.t125,by kernel_rfl,rfl,rfl,fun z h=>by cases h;exact⟨_,rfl,by kernel_rfl,fun S h=>zi1 (zI (JR (zaP) 64)) (by kernel_rfl)⟩⟩,Tryz.underlying125,by intro h;cases h⟩
def zjj:TI:=⟨.ptr 154,1,8,some (.atom (.pointer none)),false⟩
theorem zeb:Zf Tryz.prog 126 zjj:=⟨⟨Tryz.t126,by kernel_rfl,rfl,rfl,fun z h=>by cases h;exact⟨_,rfl,rfl,fun S h=>zg rfl⟩⟩,Tryz.underlying126,by intro h;cases h⟩
def zji:TI:=⟨.other,1,8,some (.atom .nilFunc),false⟩
theorem zea:Zf Tryz.prog 127 zji:=⟨⟨Tryz.t127,by kernel_rfl,rfl,rfl,fun z h=>by cases h;exact⟨_,rfl,rfl,fun S h=>zg rfl⟩⟩,⟨_,Tryz.underlying127,rfl⟩,by intro h;cases h⟩
def zjh:TI:=⟨.other,1,8,some (.atom .nilFunc),false⟩
theorem ze9:Zf Tryz.prog 131 zjh:=⟨⟨Tryz.t131,by kernel_rfl,rfl,rfl,fun z h=>by cases h;exact⟨_,rfl,rfl,fun S h=>zg rfl⟩⟩,⟨_,Tryz.underlying131,rfl⟩,by intro h;cases h⟩
def zjg:TI:=⟨.slice 111,1,24,some (.osl 1 true []),false⟩
theorem ze8:Zf Tryz.prog 136 zjg:=⟨⟨Tryz.t136,by kernel_rfl,rfl,rfl,fun z h=>by cases h;exact⟨_,rfl,rfl,fun S h=>vo _⟩⟩,Tryz.underlying136,by intro h;cases h⟩
def zjf:TI:=⟨.slice 171,1,24,some (.osl 2 true []),false⟩
theorem ze7:Zf Tryz.prog 144 zjf:=⟨⟨Tryz.t144,by kernel_rfl,rfl,rfl,fun z h=>by cases h;exact⟨_,rfl,rfl,fun S h=>vo _⟩⟩,Tryz.underlying144,by intro h;cases h⟩
def zje:TI:=⟨.other,1,8,some (.atom .nilFunc),false⟩
theorem ze6:Zf Tryz.prog 146 zje:=⟨⟨Tryz.t146,by kernel_rfl,rfl,rfl,fun z h=>by cases h;exact⟨_,rfl,rfl,fun S h=>zg rfl⟩⟩,⟨_,Tryz.underlying146,rfl⟩,by intro h;cases h⟩
def zjd:TI:=⟨.other,1,8,some (.atom .nilFunc),false⟩
theorem ze5:Zf Tryz.prog 147 zjd:=⟨⟨Tryz.t147,by kernel_rfl,rfl,rfl,fun z h=>by cases h;exact⟨_,rfl,rfl,fun S h=>zg rfl⟩⟩,⟨_,Tryz.underlying147,rfl⟩,by intro h;cases h⟩
def zjc:TI:=⟨.other,1,8,some (.atom .nilFunc),false⟩
theorem ze4:Zf Tryz.prog 148 zjc:=⟨⟨Tryz.t148,by kernel_rfl,rfl,rfl,fun z h=>by cases h;exact⟨_,rfl,rfl,fun S h=>zg rfl⟩⟩,⟨_,Tryz.underlying148,rfl⟩,by intro h;cases h⟩
def zjb:TI:=⟨.other,1,8,some (.atom .nilFunc),false⟩
theorem ze3:Zf Tryz.prog 149 zjb:=⟨⟨Tryz.t149,by kernel_rfl,rfl,rfl,fun z h=>by cases h;exact⟨_,rfl,rfl,fun S h=>zg rfl⟩⟩,⟨_,Tryz.underlying149,rfl⟩,by intro h;cases h⟩
def zja:TI:=⟨.other,1,8,some (.atom .nilFunc),false⟩
theorem ze2:Zf Tryz.prog 150 zja:=⟨⟨Tryz.t150,by kernel_rfl,rfl,rfl,fun z h=>by cases h;exact⟨_,rfl,rfl,fun S h=>zg rfl⟩⟩,⟨_,Tryz.underlying150,rfl⟩,by intro h;cases h⟩
def zj9:TI:=⟨.other,1,8,some (.atom .nilFunc),false⟩
theorem ze1:Zf Tryz.prog 152 zj9:=⟨⟨Tryz.t152,by kernel_rfl,rfl,rfl,fun z h=>by cases h;exact⟨_,rfl,rfl,fun S h=>zg rfl⟩⟩,⟨_,Tryz.underlying152,rfl⟩,by intro h;cases h⟩
def zj8:TI:=⟨.array 64 125,4096,98304,some (.agg (List.replicate 64 (.agg (List.replicate 64 (.dop (nlQ 1 [])))))),false⟩
theorem ze0:Zf Tryz.prog 154 zj8:=⟨⟨Tryz.t154,by kernel_rfl,rfl,rfl,fun z h=>by cases h;exact⟨_,rfl,by kernel_rfl,fun S h=>zi1 (zI (JR (zI (JR (zaP) 64)) 64)) (by kernel_rfl)⟩⟩,Tryz.underlying154,by intro h;cases h⟩
def zj7:TI:=⟨.slice 159,1,24,some (.osl 4 true []),false⟩
theorem zdZ:Zf Tryz.prog 155 zj7:=⟨⟨Tryz.t155,by kernel_rfl,rfl,rfl,fun z h=>by cases h;exact⟨_,rfl,rfl,fun S h=>vo _⟩⟩,Tryz.underlying155,by intro h;cases h⟩
def zj6:TI:=⟨.struct [(0,1),(1,1),(2,1),(3,1)],4,48,some (.agg [.atom (.int .i64 0),.atom (.int .i64 0),.osl 1 true [],.atom (.bool false)]),false⟩
theorem zdY:Zf Tryz.prog 159 zj6:=⟨⟨Tryz.t159,by kernel_rfl,rfl,rfl,fun z h=>by cases h;exact⟨_,rfl,rfl,fun S h=>zI (zf (zg rfl) (zf (zg rfl) (zf (vo _) (zf (zg rfl) (zC)))))⟩⟩,⟨_,Tryz.underlying159,by kernel_rfl,by
  intro f hf;simp only [List.mem_cons,List.not_mem_nil,or_false]at hf;rcases hf with rfl|rfl|rfl|rfl
  ·exact⟨Tryz.t3,by kernel_rfl⟩
  ·exact⟨Tryz.t3,by kernel_rfl⟩
  ·exact⟨Tryz.t40,by kernel_rfl⟩
  ·exact⟨Tryz.t4,by kernel_rfl⟩⟩,by intro h;cases h⟩
def zj5:TI:=⟨.array 64 5,64,64,some (.agg (List.replicate 64 (.atom (.int .u8 0)))),false⟩
theorem zdX:Zf Tryz.prog 162 zj5:=⟨⟨Tryz.t162,by kernel_rfl,rfl,rfl,fun z h=>by cases h;exact⟨_,rfl,by kernel_rfl,fun S h=>zi1 (zI (JR (zg rfl) 64)) (by kernel_rfl)⟩⟩,Tryz.underlying162,by intro h;cases h⟩
def zj4:TI:=⟨.other,1,8,some (.atom .nilFunc),false⟩
theorem zdW:Zf Tryz.prog 166 zj4:=⟨⟨Tryz.t166,by kernel_rfl,rfl,rfl,fun z h=>by cases h;exact⟨_,rfl,rfl,fun S h=>zg rfl⟩⟩,⟨_,Tryz.underlying166,rfl⟩,by intro h;cases h⟩
def zj3:TI:=⟨.other,1,8,some (.atom .nilFunc),false⟩
theorem zdV:Zf Tryz.prog 168 zj3:=⟨⟨Tryz.t168,by kernel_rfl,rfl,rfl,fun z h=>by cases h;exact⟨_,rfl,rfl,fun S h=>zg rfl⟩⟩,⟨_,Tryz.underlying168,rfl⟩,by intro h;cases h⟩
def zj2:TI:=⟨.other,1,8,some (.atom .nilFunc),false⟩
theorem zdU:Zf Tryz.prog 169 zj2:=⟨⟨Tryz.t169,by kernel_rfl,rfl,rfl,fun z h=>by cases h;exact⟨_,rfl,rfl,fun S h=>zg rfl⟩⟩,⟨_,Tryz.underlying169,rfl⟩,by intro h;cases h⟩
def zj1:TI:=⟨.array 2 3,2,16,some (.agg [.atom (.int .i64 0),.atom (.int .i64 0)]),true⟩
theorem zdT:Zf Tryz.prog 171 zj1:=⟨⟨Tryz.t171,by kernel_rfl,rfl,rfl,fun z h=>by cases h;exact⟨_,rfl,rfl,fun S h=>zI (zf (zg rfl) (zf (zg rfl) (zC)))⟩⟩,Tryz.underlying171,fun _=>z7t (Go.Ex.zhR.eqn rfl) rfl rfl rfl rfl⟩
def zj0:TI:=⟨.other,1,8,some (.atom .nilFunc),false⟩
theorem zdS:Zf Tryz.prog 174 zj0:=⟨⟨Tryz.t174,by kernel_rfl,rfl,rfl,fun z h=>by cases h;exact⟨_,rfl,rfl,fun S h=>zg rfl⟩⟩,⟨_,Tryz.underlying174,rfl⟩,by intro h;cases h⟩
def ziZ:TI:=⟨.other,1,8,some (.atom .nilFunc),false⟩
theorem zdR:Zf Tryz.prog 187 ziZ:=⟨⟨Tryz.t187,by kernel_rfl,rfl,rfl,fun z h=>by cases h;exact⟨_,rfl,rfl,fun S h=>zg rfl⟩⟩,⟨_,Tryz.underlying187,rfl⟩,by intro h;cases h⟩
def ziY:TI:=⟨.other,1,8,some (.atom (.map none)),false⟩
theorem zdQ:Zf Tryz.prog 188 ziY:=⟨⟨Tryz.t188,by kernel_rfl,rfl,rfl,fun z h=>by cases h;exact⟨_,rfl,rfl,fun S h=>zg rfl⟩⟩,⟨_,Tryz.underlying188,rfl⟩,by intro h;cases h⟩
def ziX:TI:=⟨.array 16 171,32,256,some (.agg [.agg [.atom (.int .i64 0),.atom (.int .i64 0)],.agg [.atom (.int .i64 0),.atom (.int .i64 0)],.agg [.atom (.int .i64 0),.atom (.int .i64 0)],.agg [.atom (.int .i64 0),.atom (.int .i64 0)],.agg [.atom (.int .i64 0),.atom (.int .i64 0)],.agg [.atom (.int .i64 0),.atom (.int .i64 0)],.agg [.atom (.int .i64 0),.atom (.int .i64 0)],.agg [.atom (.int .i64 0),.atom (.int .i64 0)],.agg [.atom (.int .i64 0),.atom (.int .i64 0)],.agg [.atom (.int .i64 0),.atom (.int .i64 0)],.agg [.atom (.int .i64 0),.atom (.int .i64 0)],.agg [.atom (.int .i64 0),.atom (.int .i64 0)],.agg [.atom (.int .i64 0),.atom (.int .i64 0)],.agg [.atom (.int .i64 0),.atom (.int .i64 0)],.agg [.atom (.int .i64 0),.atom (.int .i64 0)],.agg [.atom (.int .i64 0),.atom (.int .i64 0)]]),true⟩
theorem zdP:Zf Tryz.prog 190 ziX:=⟨⟨Tryz.t190,by kernel_rfl,rfl,rfl,fun z h=>by cases h;exact⟨_,rfl,rfl,fun S h=>zI (zf (zI (zf (zg rfl) (zf (zg rfl) (zC)))) (zf (zI (zf (zg rfl) (zf (zg rfl) (zC)))) (zf (zI (zf (zg rfl) (zf (zg rfl) (zC)))) (zf (zI (zf (zg rfl) (zf (zg rfl) (zC)))) (zf (zI (zf (zg rfl) (zf (zg rfl) (zC)))) (zf (zI (zf (zg rfl) (zf (zg rfl) (zC)))) (zf (zI (zf (zg rfl) (zf (zg rfl) (zC)))) (zf (zI (zf (zg rfl) (zf (zg rfl) (zC)))) (zf (zI (zf (zg rfl) (zf (zg rfl) (zC)))) (zf (zI (zf (zg rfl) (zf (zg rfl) (zC)))) (zf (zI (zf (zg rfl) (zf (zg rfl) (zC)))) (zf (zI (zf (zg rfl) (zf (zg rfl) (zC)))) (zf (zI (zf (zg rfl) (zf (zg rfl) (zC)))) (zf (zI (zf (zg rfl) (zf (zg rfl) (zC)))) (zf (zI (zf (zg rfl) (zf (zg rfl) (zC)))) (zf (zI (zf (zg rfl) (zf (zg rfl) (zC)))) (zC)))))))))))))))))⟩⟩,Tryz.underlying190,fun _=>z7t (Go.Ex.zhQ.eqn rfl) rfl rfl rfl rfl⟩
def ziW:TI:=⟨.struct [(0,1),(1,32)],33,264,some (.agg [.atom (.int .i64 0),.agg [.agg [.atom (.int .i64 0),.atom (.int .i64 0)],.agg [.atom (.int .i64 0),.atom (.int .i64 0)],.agg [.atom (.int .i64 0),.atom (.int .i64 0)],.agg [.atom (.int .i64 0),.atom (.int .i64 0)],.agg [.atom (.int .i64 0),.atom (.int .i64 0)],.agg [.atom (.int .i64 0),.atom (.int .i64 0)],.agg [.atom (.int .i64 0),.atom (.int .i64 0)],.agg [.atom (.int .i64 0),.atom (.int .i64 0)],.agg [.atom (.int .i64 0),.atom (.int .i64 0)],.agg [.atom (.int .i64 0),.atom (.int .i64 0)],.agg [.atom (.int .i64 0),.atom (.int .i64 0)],.agg [.atom (.int .i64 0),.atom (.int .i64 0)],.agg [.atom (.int .i64 0),.atom (.int .i64 0)],.agg [.atom (.int .i64 0),.atom (.int .i64 0)],.agg [.atom (.int .i64 0),.atom (.int .i64 0)],.agg [.atom (.int .i64 0),.atom (.int .i64 0)]]]),true⟩
theorem za4:Zf Tryz.prog 193 ziW:=⟨⟨Tryz.t193,by kernel_rfl,rfl,rfl,fun z h=>by cases h;exact⟨_,rfl,rfl,fun S h=>zI (zf (zg rfl) (zf (zI (zf (zI (zf (zg rfl) (zf (zg rfl) (zC)))) (zf (zI (zf (zg rfl) (zf (zg rfl) (zC)))) (zf (zI (zf (zg rfl) (zf (zg rfl) (zC)))) (zf (zI (zf (zg rfl) (zf (zg rfl) (zC)))) (zf (zI (zf (zg rfl) (zf (zg rfl) (zC)))) (zf (zI (zf (zg rfl) (zf (zg rfl) (zC)))) (zf (zI (zf (zg rfl) (zf (zg rfl) (zC)))) (zf (zI (zf (zg rfl) (zf (zg rfl) (zC)))) (zf (zI (zf (zg rfl) (zf (zg rfl) (zC)))) (zf (zI (zf (zg rfl) (zf (zg rfl) (zC)))) (zf (zI (zf (zg rfl) (zf (zg rfl) (zC)))) (zf (zI (zf (zg rfl) (zf (zg rfl) (zC)))) (zf (zI (zf (zg rfl) (zf (zg rfl) (zC)))) (zf (zI (zf (zg rfl) (zf (zg rfl) (zC)))) (zf (zI (zf (zg rfl) (zf (zg rfl) (zC)))) (zf (zI (zf (zg rfl) (zf (zg rfl) (zC)))) (zC)))))))))))))))))) (zC)))⟩⟩,⟨_,Tryz.underlying193,by kernel_rfl,by
  intro f hf;simp only [List.mem_cons,List.not_mem_nil,or_false]at hf;rcases hf with rfl|rfl
  ·exact⟨Tryz.t3,by kernel_rfl⟩
  ·exact⟨Tryz.t190,by kernel_rfl⟩⟩,fun _=>z7t (Go.Ex.zcV.eqn rfl) rfl rfl rfl rfl⟩
def tiL:List (Nat×TI):=[(1,ti1),(2,ti2),(3,ti3),(4,ti4),(5,ti5),(9,ti9),(20,zos),(22,zor),(23,zoq),(25,zop),(27,zoo),(28,zon),(30,zom),(32,zol),(33,zok),(40,zoj),(41,zoi),(42,zoh),(57,zog),(67,zof),(68,zoe),(73,zod),(76,zoc),(78,zob),(80,zoa),(82,zo9),(83,zo8),(84,zo7),(93,zo6),(95,zo5),(96,zo4),(97,zo3),(99,zo2),(104,zjp),(106,zjo),(111,zjn),(117,zjm),(120,zjl),(125,zjk),(126,zjj),(127,zji),(131,zjh),(136,zjg),(144,zjf),(146,zje),(147,zjd),(148,zjc),(149,zjb),(150,zja),(152,zj9),(154,zj8),(155,zj7),(159,zj6),(162,zj5),(166,zj4),(168,zj3),(169,zj2),(171,zj1),(174,zj0),(187,ziZ),(188,ziY),(190,ziX),(193,ziW)]
def yo:TT:=fun t=>(tiL.find? fun p=>p.1==t).map (·.2)
def zdE (P:Program):List (Nat×TI)->Prop
 | []=>True
 | p::l=>Zf P p.1 p.2/\zdE P l
theorem zdE.mem {P:Program}:∀{l:List (Nat×TI)},zdE P l->∀p∈l,Zf P p.1 p.2
 | p::_,h,q,hq=>by
  rcases List.mem_cons.1 hq with rfl|hq
  ·exact h.1
  ·exact zdE.mem h.2 q hq
 | [],_,_,hq=>by cases hq
theorem ziP:zdE Tryz.prog tiL:=⟨ziV,ziU,ziT,ziS,ziR,ziQ,zh1,zh0,zgZ,zgY,zgX,zgW,zgV,zgU,zgT,zgS,zgR,zgQ,zgP,zgO,zgN,zgM,zgL,zgK,zgJ,zgI,zgH,zgG,zgF,zgE,zgD,zgC,zgB,zeh,zeg,zef,zee,zed,zec,zeb,zea,ze9,ze8,ze7,ze6,ze5,ze4,ze3,ze2,ze1,ze0,zdZ,zdY,zdX,zdW,zdV,zdU,zdT,zdS,zdR,zdQ,zdP,za4,trivial⟩
theorem zy:wG Tryz.prog yo:=by
 intro t i h;unfold yo at h;rw [Option.map_eq_some_iff]at h;obtain⟨p,h1,rfl⟩:=h;have h2:=List.find?_some h1;have h3:=ziP.mem p (List.mem_of_find?_eq_some h1);rw [beq_iff_eq.1 h2]at h3;exact h3
theorem zq0:yo 1=some ⟨.other,1,8,some (.atom .nilFunc),false⟩:=rfl
theorem zpZ:yo 2=some ⟨.int .i64,1,8,some (.atom (.int .i64 0)),false⟩:=rfl
theorem zpY:yo 3=some ⟨.int .i64,1,8,some (.atom (.int .i64 0)),false⟩:=rfl
theorem zpX:yo 4=some ⟨.bool,1,1,some (.atom (.bool false)),false⟩:=rfl
theorem zpW:yo 5=some ⟨.int .u8,1,1,some (.atom (.int .u8 0)),false⟩:=rfl
theorem zpV:yo 9=some ⟨.str,1,16,none,false⟩:=rfl
theorem znL:yo 20=some ⟨.other,1,16,some (.atom .nilIface),false⟩:=rfl
theorem znK:yo 22=some ⟨.slice 5,1,24,some (.osl 1 true []),false⟩:=rfl
theorem znJ:yo 23=some ⟨.slice 117,1,24,some (.osl 1 true []),false⟩:=rfl
theorem znI:yo 25=some ⟨.struct [(0,1),(1,1),(2,1),(3,1),(4,1)],5,56,some (.agg [.atom (.int .u8 0),.atom (.int .u8 0),.atom (.int .u8 0),.osl 1 true [],.osl 1 true []]),false⟩:=rfl
theorem znH:yo 27=some ⟨.struct [(0,5)],5,56,some (.agg [.agg [.atom (.int .u8 0),.atom (.int .u8 0),.atom (.int .u8 0),.osl 1 true [],.osl 1 true []]]),false⟩:=rfl
theorem znG:yo 28=some ⟨.slice 68,1,24,some (.osl 1 true []),false⟩:=rfl
theorem znF:yo 30=some ⟨.struct [(0,1),(1,1),(2,1)],3,40,some (.agg [.atom (.int .i64 0),.atom (.int .i64 0),.osl 1 true []]),false⟩:=rfl
theorem znE:yo 32=some ⟨.slice 40,1,24,some (.osl 1 true []),false⟩:=rfl
theorem znD:yo 33=some ⟨.int .i64,1,8,some (.atom (.int .i64 0)),false⟩:=rfl
theorem znC:yo 40=some ⟨.slice 3,1,24,some (.osl 1 true []),false⟩:=rfl
theorem znB:yo 41=some ⟨.other,1,8,some (.atom .nilFunc),false⟩:=rfl
theorem znA:yo 42=some ⟨.other,1,8,some (.atom .nilFunc),false⟩:=rfl
theorem znz:yo 57=some ⟨.other,1,8,some (.atom .nilFunc),false⟩:=rfl
theorem zny:yo 67=some ⟨.struct [(0,1),(1,1)],2,16,some (.agg [.atom (.int .i64 0),.atom (.int .i64 0)]),true⟩:=rfl
theorem znx:yo 68=some ⟨.slice 67,1,24,some (.osl 2 true []),false⟩:=rfl
theorem znw:yo 73=some ⟨.other,1,8,some (.atom .nilFunc),false⟩:=rfl
theorem znv:yo 76=some ⟨.slice 78,1,24,some (.osl 1 true []),false⟩:=rfl
theorem znu:yo 78=some ⟨.int .u64,1,8,some (.atom (.int .u64 0)),false⟩:=rfl
theorem znt:yo 80=some ⟨.other,1,8,some (.atom .nilFunc),false⟩:=rfl
theorem zns:yo 82=some ⟨.slice 32,1,24,some (.osl 1 true []),false⟩:=rfl
theorem znr:yo 83=some ⟨.other,1,8,some (.atom .nilFunc),false⟩:=rfl
theorem znq:yo 84=some ⟨.other,1,8,some (.atom .nilFunc),false⟩:=rfl
theorem znp:yo 93=some ⟨.other,1,8,some (.atom .nilFunc),false⟩:=rfl
theorem zno:yo 95=some ⟨.struct [(0,1),(1,1)],2,16,some (.agg [.atom (.int .i64 0),.atom .nilFunc]),false⟩:=rfl
theorem znn:yo 96=some ⟨.array 3 95,6,48,some (.agg [.agg [.atom (.int .i64 0),.atom .nilFunc],.agg [.atom (.int .i64 0),.atom .nilFunc],.agg [.atom (.int .i64 0),.atom .nilFunc]]),false⟩:=rfl
theorem znm:yo 97=some ⟨.other,1,8,some (.atom .nilFunc),false⟩:=rfl
theorem znl:yo 99=some ⟨.other,1,8,some (.atom .nilFunc),false⟩:=rfl
theorem zkQ:yo 104=some ⟨.int .u32,1,4,some (.atom (.int .u32 0)),false⟩:=rfl
theorem zkP:yo 106=some ⟨.int .u64,1,8,some (.atom (.int .u64 0)),false⟩:=rfl
theorem zkO:yo 111=some ⟨.slice 4,1,24,some (.osl 1 true []),false⟩:=rfl
theorem zkN:yo 117=some ⟨.int .u16,1,2,some (.atom (.int .u16 0)),false⟩:=rfl
theorem zkM:yo 120=some ⟨.other,1,8,some (.atom .nilFunc),false⟩:=rfl
theorem zkL:yo 125=some ⟨.array 64 40,64,1536,some (.agg (List.replicate 64 (.dop (nlQ 1 [])))),false⟩:=rfl
theorem zkK:yo 126=some ⟨.ptr 154,1,8,some (.atom (.pointer none)),false⟩:=rfl
theorem zkJ:yo 127=some ⟨.other,1,8,some (.atom .nilFunc),false⟩:=rfl
theorem zkI:yo 131=some ⟨.other,1,8,some (.atom .nilFunc),false⟩:=rfl
theorem zkH:yo 136=some ⟨.slice 111,1,24,some (.osl 1 true []),false⟩:=rfl
theorem zkG:yo 144=some ⟨.slice 171,1,24,some (.osl 2 true []),false⟩:=rfl
theorem zkF:yo 146=some ⟨.other,1,8,some (.atom .nilFunc),false⟩:=rfl
theorem zkE:yo 147=some ⟨.other,1,8,some (.atom .nilFunc),false⟩:=rfl
theorem zkD:yo 148=some ⟨.other,1,8,some (.atom .nilFunc),false⟩:=rfl
theorem zkC:yo 149=some ⟨.other,1,8,some (.atom .nilFunc),false⟩:=rfl
theorem zkB:yo 150=some ⟨.other,1,8,some (.atom .nilFunc),false⟩:=rfl
theorem zkA:yo 152=some ⟨.other,1,8,some (.atom .nilFunc),false⟩:=rfl
theorem zkz:yo 154=some ⟨.array 64 125,4096,98304,some (.agg (List.replicate 64 (.agg (List.replicate 64 (.dop (nlQ 1 [])))))),false⟩:=rfl
theorem zky:yo 155=some ⟨.slice 159,1,24,some (.osl 4 true []),false⟩:=rfl
theorem zkx:yo 159=some ⟨.struct [(0,1),(1,1),(2,1),(3,1)],4,48,some (.agg [.atom (.int .i64 0),.atom (.int .i64 0),.osl 1 true [],.atom (.bool false)]),false⟩:=rfl
theorem zkw:yo 162=some ⟨.array 64 5,64,64,some (.agg (List.replicate 64 (.atom (.int .u8 0)))),false⟩:=rfl
theorem zkv:yo 166=some ⟨.other,1,8,some (.atom .nilFunc),false⟩:=rfl
theorem zku:yo 168=some ⟨.other,1,8,some (.atom .nilFunc),false⟩:=rfl
theorem zkt:yo 169=some ⟨.other,1,8,some (.atom .nilFunc),false⟩:=rfl
theorem zks:yo 171=some ⟨.array 2 3,2,16,some (.agg [.atom (.int .i64 0),.atom (.int .i64 0)]),true⟩:=rfl
theorem zkr:yo 174=some ⟨.other,1,8,some (.atom .nilFunc),false⟩:=rfl
theorem zkq:yo 187=some ⟨.other,1,8,some (.atom .nilFunc),false⟩:=rfl
theorem zkp:yo 188=some ⟨.other,1,8,some (.atom (.map none)),false⟩:=rfl
theorem zko:yo 190=some ⟨.array 16 171,32,256,some (.agg [.agg [.atom (.int .i64 0),.atom (.int .i64 0)],.agg [.atom (.int .i64 0),.atom (.int .i64 0)],.agg [.atom (.int .i64 0),.atom (.int .i64 0)],.agg [.atom (.int .i64 0),.atom (.int .i64 0)],.agg [.atom (.int .i64 0),.atom (.int .i64 0)],.agg [.atom (.int .i64 0),.atom (.int .i64 0)],.agg [.atom (.int .i64 0),.atom (.int .i64 0)],.agg [.atom (.int .i64 0),.atom (.int .i64 0)],.agg [.atom (.int .i64 0),.atom (.int .i64 0)],.agg [.atom (.int .i64 0),.atom (.int .i64 0)],.agg [.atom (.int .i64 0),.atom (.int .i64 0)],.agg [.atom (.int .i64 0),.atom (.int .i64 0)],.agg [.atom (.int .i64 0),.atom (.int .i64 0)],.agg [.atom (.int .i64 0),.atom (.int .i64 0)],.agg [.atom (.int .i64 0),.atom (.int .i64 0)],.agg [.atom (.int .i64 0),.atom (.int .i64 0)]]),true⟩:=rfl
theorem zkn:yo 193=some ⟨.struct [(0,1),(1,32)],33,264,some (.agg [.atom (.int .i64 0),.agg [.agg [.atom (.int .i64 0),.atom (.int .i64 0)],.agg [.atom (.int .i64 0),.atom (.int .i64 0)],.agg [.atom (.int .i64 0),.atom (.int .i64 0)],.agg [.atom (.int .i64 0),.atom (.int .i64 0)],.agg [.atom (.int .i64 0),.atom (.int .i64 0)],.agg [.atom (.int .i64 0),.atom (.int .i64 0)],.agg [.atom (.int .i64 0),.atom (.int .i64 0)],.agg [.atom (.int .i64 0),.atom (.int .i64 0)],.agg [.atom (.int .i64 0),.atom (.int .i64 0)],.agg [.atom (.int .i64 0),.atom (.int .i64 0)],.agg [.atom (.int .i64 0),.atom (.int .i64 0)],.agg [.atom (.int .i64 0),.atom (.int .i64 0)],.agg [.atom (.int .i64 0),.atom (.int .i64 0)],.agg [.atom (.int .i64 0),.atom (.int .i64 0)],.agg [.atom (.int .i64 0),.atom (.int .i64 0)],.agg [.atom (.int .i64 0),.atom (.int .i64 0)]]]),true⟩:=rfl
attribute [go_sem] zq0 zpZ zpY zpX zpW zpV znL znK znJ znI znH znG znF znE znD znC znB znA znz zny znx znw znv znu znt zns znr znq znp zno znn znm znl zkQ zkP zkO zkN zkM zkL zkK zkJ zkI zkH zkG zkF zkE zkD zkC zkB zkA zkz zky zkx zkw zkv zku zkt zks zkr zkq zkp zko zkn
end Go.Own

namespace Go.Proofs
open Go.RowKit Go.Lib
theorem Tryz.groI:(Tryz.prog.info? 3).map (fun i=>(i.size,i.bytes,i.zero))=some (1,8,some (.int .i64 0)):=by kernel_rfl
set_option maxHeartbeats 4000000 in
set_option maxRecDepth 100000 in
theorem Tryz.gro_run (p:Option Addr)(n:Nat)(w:World)(h0:0<n)(h1:n<=1000000) :
  Calls Tryz.prog 168 #[.slice p 0 0,.int .i64 n] w fun e w'=>
   e=.returned (.slice (some ⟨w.heap.size,0,none⟩) 0 (grownCap w n 0 3)) /\
   w'=w.drew.alloc (.cells (#[]++Builtin.zeroCells (Value.int .i64 0).cells n++Builtin.zeroCells (Value.int .i64 0).cells (grownCap w n 0 3 - n)) 3):=by
 obtain⟨i0,hi0,hi⟩:=Option.map_eq_some_iff.1 Tryz.groI;obtain⟨hs0,hi⟩:=Prod.mk.inj hi;obtain⟨hb0,hz0⟩:=Prod.mk.inj hi;have mixed:Tryz.prog.follows .mixedOrders=true:=by kernel_rfl
 have h1':¬((n:Int)<0):=by omega
 have h3:wrap64 ((n:Int))=(n:Int):=by unfold wrap64;omega
 have h4:(n:Int) > 0:=by omega
 have hold:(Builtin.firstCells i0.size 0 (.slice p 0 0)).run Tryz.prog w.drew=.ok ([]:List Value).toArray w.drew:=by
  cases p with
  | none=>exact run_firstCells_none w.drew i0.size 0 0 0
  | some a=>exact run_firstCells_some w.drew i0.size 0 a 0 0 [] (by simp) (fun j v hj=>by simp at hj)
 have hrz:∀ty,(Builtin.append_ #[40,3] ty #[.slice p 0 0,.int .i64 (n:Int)]).run Tryz.prog w =
   .ok (.slice (some ⟨w.heap.size,0,none⟩) n (grownCap w n 0 3)) (w.drew.alloc (.cells (#[]++Builtin.zeroCells (Value.int .i64 0).cells n++Builtin.zeroCells (Value.int .i64 0).cells (grownCap w n 0 3 - n)) 3)):=fun ty=>by
  have h:=Lib.run_append_grow_zeros w 40 3 ty 3 i0 (.int .i64 0) .i64 .i64 Tryz.underlying40 Tryz.underlying3 hi0 hz0 p 0 0 [] hold n h0 (by omega) (by omega) (by omega)
   (by rw [hb0];omega)
   (by rw [Nat.zero_add];exact growslice_fits h0 (by rw [hb0];omega))
  rw [Nat.zero_add]at h;exact h
 have hGn:n<=grownCap w n 0 3:=grownCap_ge w _ _ _;obtain⟨G,hG⟩:∃G,G=grownCap w n 0 3:=⟨_,rfl⟩;rw [<-hG]at hrz hGn ⊢;have hG63:G<=9223372036854775807:=by
  have:=grownCap_le_maxLen w n 0 3 (by unfold maxLen;omega)
  rw [<-hG]at this;unfold maxLen at this;omega
 clear hold hG
 go_enter Tryz.func168,Tryz.ntmps168
 cases p with
 | none=>
  go_wp2_with (at_builtin;refine Lib.wpList_append_run _ rfl _ _ _ _ rfl _ _ rfl rfl _ _ (hrz _) ?_)
  all_goals (go_ret;exact⟨rfl,rfl⟩)
 | some a=>
  obtain⟨ab,ao,asp⟩:=a
  go_wp2_with (at_builtin;refine Lib.wpList_append_run _ rfl _ _ _ _ rfl _ _ rfl rfl _ _ (hrz _) ?_)
  all_goals (go_ret;exact⟨rfl,rfl⟩)
end Go.Proofs
namespace Go.Own
open Go.Proofs
theorem zcY (n:Int)(h0:0<n)(h1:n<=1000000):Ur Tryz.prog 168 [.sl 1 true [],eI .i64 n] (.osl 1 false []):=by
 refine⟨⟨_,Tryz.func168,by kernel_rfl,by kernel_rfl⟩,?_⟩
 intro S w vs F hS hq hF;obtain⟨m,rfl⟩:∃m:Nat,n=(m:Int):=⟨n.toNat,by omega⟩
 match vs,hq with
 | [u,v],q=>
  obtain⟨F1,F2,rfl,q1,F3,F4,rfl,q2,q3⟩:=q;have e3:F4=[]:=q3;subst e3;have d:∀{x:A}{u:Value}{F:List Nat},x.isD=true->Has S w.heap x u F->uH S x u/\F=[]:=by
   intro x u F hx q;rcases q with⟨q,rfl⟩|⟨cs,q1,q2,q3⟩
   ·exact⟨q.rep1 hx,rfl⟩
   ·obtain ⟨r, rfl⟩ := q1.isD hx
    exact⟨⟨cs,r,q3⟩,rfl⟩
  obtain⟨⟨cs,r1,e1⟩,rfl⟩:=d rfl q1;obtain⟨⟨ds,r2,e2⟩,rfl⟩:=d rfl q2;simp only [Rep]at r1;obtain⟨p,c,rfl,hc,_⟩:=r1;obtain rfl:c=0:=by simpa using hc
  have hv:v=.int .i64 (m:Int):=by
   rw [e2];obtain⟨rfl,_⟩:ds=[.int .i64 (m:Int)]/\_:=by simpa only [eI,Rep] using r2
   rfl
  have hu:u=.slice p 0 0:=by rw [e1];rfl
  subst hv hu;refine(Tryz.gro_run p m w (by omega) (by omega)).mono ?_
  rintro e' w' ⟨rfl,rfl⟩;have hsz:∀k,(Builtin.zeroCells (Value.int .i64 0).cells k).size=k:=fun k=>by simp [Builtin.zeroCells,Value.cells]
  have hGn:m<=grownCap w m 0 3:=grownCap_ge w _ _ _;have hGm:=grownCap_le_maxLen w m 0 3 (by unfold maxLen;omega)
  have hfr:∀o,S w.heap.size o=none:=fun o=>by
   cases hh:S w.heap.size o with
   | none=>rfl
   | some x=>have:=hS _ _ _ hh;simp [ya]at this
  generalize grownCap w m 0 3=G at hGn hGm ⊢;refine⟨_,S,[w.heap.size],rfl,((Up.refl _ _).drew).alloc (.inl (Nat.le_refl _)) _,fun _ _ _ h=>h,fun _ _ _ _=>rfl,⟨fun b o v h=>?_,hS.gok⟩,.inr ⟨[.slice (some ⟨w.heap.size,0,none⟩) 0 G],?_,by simp,rfl⟩,by simp,by simp⟩
  ·have h' := hS _ _ _ h
   have hne:b≠w.heap.size:=by rintro rfl;rw [hfr]at h;cases h
   show ya (w.heap.push _) b o=some v
   unfold ya at h' ⊢;rw [Array.getElem?_push,if_neg hne];exact h'
  ·simp only [zK]
   refine⟨_,G,rfl,by simp,by simp,hGm,by simp,.inr ⟨w.heap.size,_,3,[],[],rfl,by show(w.heap.push _)[w.heap.size]?=_;rw [Array.getElem?_push,if_pos rfl],?_,by simp,⟨rfl,rfl⟩,rfl,hfr⟩⟩
   simp only [Array.size_append,hsz,Array.size_empty];omega
structure wp (α:Type) where
 e0:α
 e1:α
 deriving DecidableEq
instance {α:Type}[BEq α]:BEq (wp α):=⟨fun x y=>(x.e0==y.e0)&&(x.e1==y.e1)⟩
section
variable {α:Type}
def z1p (f:α->A)(x:wp α):A:=.agg [f x.e0,f x.e1]
instance (f:α->A)[h:z9c f]:z9c (z1p f):=⟨fun x=>by simp [z1p,A.isD,A.areD,h.isD]⟩
instance (f g:α->A)[h:z1X f g]:z1X (z1p f) (z1p g):=⟨fun x=>by simp [z1p,A.loose,A.looses,h.lo]⟩
instance (f g:α->A)[h:z7Q f g]:z7Q (z1p f) (z1p g):=⟨fun x=>by simp [z1p,A.live,A.lives,h.live],fun x=>by simp [z1p,A.shut,A.shuts,h.sh]⟩
instance (f:α->A)[h:ZZ f]:ZZ (z1p f):=⟨fun x y q=>by
 simp only [z1p,A.agg.injEq,List.cons.injEq,and_true]at q;cases x;cases y;simp only [wp.mk.injEq];exact⟨h.inj _ _ q.1,h.inj _ _ q.2⟩⟩
end
structure yV (α:Type) where
 e0:α
 e1:α
 e2:α
 e3:α
 e4:α
 e5:α
 e6:α
 e7:α
 e8:α
 e9:α
 e10:α
 e11:α
 e12:α
 e13:α
 e14:α
 e15:α
 deriving DecidableEq
instance {α:Type}[BEq α]:BEq (yV α):=⟨fun x y=>(x.e0==y.e0)&&(x.e1==y.e1)&&(x.e2==y.e2)&&(x.e3==y.e3)&&(x.e4==y.e4)&&(x.e5==y.e5)&&(x.e6==y.e6)&&(x.e7==y.e7)&&(x.e8==y.e8)&&(x.e9==y.e9)&&(x.e10==y.e10)&&(x.e11==y.e11)&&(x.e12==y.e12)&&(x.e13==y.e13)&&(x.e14==y.e14)&&(x.e15==y.e15)⟩
section
variable {α:Type}
def zdd (f:α->A)(x:yV α):A:=.agg [f x.e0,f x.e1,f x.e2,f x.e3,f x.e4,f x.e5,f x.e6,f x.e7,f x.e8,f x.e9,f x.e10,f x.e11,f x.e12,f x.e13,f x.e14,f x.e15]
end
section
variable {α:Type}
def yV.toL (x:yV α):List α:=[x.e0,x.e1,x.e2,x.e3,x.e4,x.e5,x.e6,x.e7,x.e8,x.e9,x.e10,x.e11,x.e12,x.e13,x.e14,x.e15]
def yV.ofL:List α->yV α->yV α
 | [x0,x1,x2,x3,x4,x5,x6,x7,x8,x9,ck,d9,x12,cq,ce,x15],_=>⟨x0,x1,x2,x3,x4,x5,x6,x7,x8,x9,ck,d9,x12,cq,ce,x15⟩
 | _,d=>d
theorem yV.toL_ofL (l:List α)(d:yV α)(h:l.length=16):(yV.ofL l d).toL=l:=by
 match l,h with
 | [x0,x1,x2,x3,x4,x5,x6,x7,x8,x9,ck,d9,x12,cq,ce,x15],_=>rfl
def yV.setI (x:yV α)(i:Int)(v:α):yV α:=yV.ofL (x.toL.set i.toNat v) x
theorem yV.setL (f:α->A)(x:yV α)(i:Int)(v:α):(x.toL.map f).set i.toNat (f v)=((yV.setI x i v).toL).map f:=by
 unfold yV.setI;rw [yV.toL_ofL _ _ (by simp [yV.toL]),List.map_set]
end
structure zD where
 States:Int
 Inputs:Int
 Outputs:Int
 Tree:List Int
 Edges:List Int
def Zo (f0:Int->A)(f1:Int->A)(f2:Int->A)(f3:List Int->A)(f4:List Int->A)(x:zD):A:=.agg [f0 x.States,f1 x.Inputs,f2 x.Outputs,f3 x.Tree,f4 x.Edges]
instance (f0:Int->A)(f1:Int->A)(f2:Int->A)(f3:List Int->A)(f4:List Int->A)(g0:Int->A)(g1:Int->A)(g2:Int->A)(g3:List Int->A)(g4:List Int->A)[h0:z1X f0 g0][h1:z1X f1 g1][h2:z1X f2 g2][h3:z1X f3 g3][h4:z1X f4 g4]:z1X (Zo f0 f1 f2 f3 f4) (Zo g0 g1 g2 g3 g4):=⟨fun x=>by simp [Zo,A.loose,A.looses,h0.lo,h1.lo,h2.lo,h3.lo,h4.lo]⟩
instance (f0:Int->A)(f1:Int->A)(f2:Int->A)(f3:List Int->A)(f4:List Int->A)[h0:ZZ f0][h1:ZZ f1][h2:ZZ f2][h3:ZZ f3][h4:ZZ f4]:ZZ (Zo f0 f1 f2 f3 f4):=⟨fun x y h=>by
 simp only [Zo,A.agg.injEq,List.cons.injEq,and_true]at h;cases x;cases y;simp only [zD.mk.injEq];exact⟨h0.inj _ _ h.1,h1.inj _ _ h.2.1,h2.inj _ _ h.2.2.1,h3.inj _ _ h.2.2.2.1,h4.inj _ _ h.2.2.2.2⟩⟩
structure uE where
 C:zD
def Zn (f0:zD->A)(x:uE):A:=.agg [f0 x.C]
instance (f0:zD->A)(g0:zD->A)[h0:z1X f0 g0]:z1X (Zn f0) (Zn g0):=⟨fun x=>by simp [Zn,A.loose,A.looses,h0.lo]⟩
instance (f0:zD->A)[h0:ZZ f0]:ZZ (Zn f0):=⟨fun x y h=>by
 simp only [Zn,A.agg.injEq,List.cons.injEq,and_true]at h;cases x;cases y;simp only [uE.mk.injEq];exact h0.inj _ _ h⟩
structure z8 where
 To:Int
 Out:Int
def vB (f0:Int->A)(f1:Int->A)(x:z8):A:=.agg [f0 x.To,f1 x.Out]
instance (f0:Int->A)(f1:Int->A)[h0:z9c f0][h1:z9c f1]:z9c (vB f0 f1):=⟨fun x=>by simp [vB,A.isD,A.areD,h0.isD,h1.isD]⟩
instance (f0:Int->A)(f1:Int->A)(g0:Int->A)(g1:Int->A)[h0:z1X f0 g0][h1:z1X f1 g1]:z1X (vB f0 f1) (vB g0 g1):=⟨fun x=>by simp [vB,A.loose,A.looses,h0.lo,h1.lo]⟩
instance (f0:Int->A)(f1:Int->A)(g0:Int->A)(g1:Int->A)[h0:z7Q f0 g0][h1:z7Q f1 g1]:z7Q (vB f0 f1) (vB g0 g1):=⟨fun x=>by simp [vB,A.live,A.lives,h0.live,h1.live],fun x=>by simp [vB,A.shut,A.shuts,h0.sh,h1.sh]⟩
instance (f0:Int->A)(f1:Int->A)[h0:ZZ f0][h1:ZZ f1]:ZZ (vB f0 f1):=⟨fun x y h=>by
 simp only [vB,A.agg.injEq,List.cons.injEq,and_true]at h;cases x;cases y;simp only [z8.mk.injEq];exact⟨h0.inj _ _ h.1,h1.inj _ _ h.2⟩⟩
structure z6 where
 Inputs:Int
 Outputs:Int
 Rows:List (List z8)
def uZ (f0:Int->A)(f1:Int->A)(f2:List (List z8)->A)(x:z6):A:=.agg [f0 x.Inputs,f1 x.Outputs,f2 x.Rows]
instance (f0:Int->A)(f1:Int->A)(f2:List (List z8)->A)(g0:Int->A)(g1:Int->A)(g2:List (List z8)->A)[h0:z1X f0 g0][h1:z1X f1 g1][h2:z1X f2 g2]:z1X (uZ f0 f1 f2) (uZ g0 g1 g2):=⟨fun x=>by simp [uZ,A.loose,A.looses,h0.lo,h1.lo,h2.lo]⟩
instance (f0:Int->A)(f1:Int->A)(f2:List (List z8)->A)[h0:ZZ f0][h1:ZZ f1][h2:ZZ f2]:ZZ (uZ f0 f1 f2):=⟨fun x y h=>by
 simp only [uZ,A.agg.injEq,List.cons.injEq,and_true]at h;cases x;cases y;simp only [z6.mk.injEq];exact⟨h0.inj _ _ h.1,h1.inj _ _ h.2.1,h2.inj _ _ h.2.2⟩⟩
structure zA where
 block_:Int
 signature_:yV (wp Int)
instance:BEq zA:=⟨fun x y=>(x.block_==y.block_)&&(x.signature_==y.signature_)⟩
def QC (f0:Int->A)(f1:yV (wp Int)->A)(x:zA):A:=.agg [f0 x.block_,f1 x.signature_]
structure zG where
 S:Int
 T:Int
 Word:List Int
 Apart:Bool
def zT (f0:Int->A)(f1:Int->A)(f2:List Int->A)(f3:Bool->A)(x:zG):A:=.agg [f0 x.S,f1 x.T,f2 x.Word,f3 x.Apart]
instance (f0:Int->A)(f1:Int->A)(f2:List Int->A)(f3:Bool->A)[h0:z9c f0][h1:z9c f1][h2:z9c f2][h3:z9c f3]:z9c (zT f0 f1 f2 f3):=⟨fun x=>by simp [zT,A.isD,A.areD,h0.isD,h1.isD,h2.isD,h3.isD]⟩
instance (f0:Int->A)(f1:Int->A)(f2:List Int->A)(f3:Bool->A)(g0:Int->A)(g1:Int->A)(g2:List Int->A)(g3:Bool->A)[h0:z7Q f0 g0][h1:z7Q f1 g1][h2:z7Q f2 g2][h3:z7Q f3 g3]:z7Q (zT f0 f1 f2 f3) (zT g0 g1 g2 g3):=⟨fun x=>by simp [zT,A.live,A.lives,h0.live,h1.live,h2.live,h3.live],fun x=>by simp [zT,A.shut,A.shuts,h0.sh,h1.sh,h2.sh,h3.sh]⟩
instance:zpc (K:=zA) (QC (eI .i64) (zdd (z1p (eI .i64)))):=⟨fun x y=>by
 obtain⟨_,⟨⟨_,_⟩,⟨_,_⟩,⟨_,_⟩,⟨_,_⟩,⟨_,_⟩,⟨_,_⟩,⟨_,_⟩,⟨_,_⟩,⟨_,_⟩,⟨_,_⟩,⟨_,_⟩,⟨_,_⟩,⟨_,_⟩,⟨_,_⟩,⟨_,_⟩,⟨_,_⟩⟩⟩:=x;obtain⟨_,⟨⟨_,_⟩,⟨_,_⟩,⟨_,_⟩,⟨_,_⟩,⟨_,_⟩,⟨_,_⟩,⟨_,_⟩,⟨_,_⟩,⟨_,_⟩,⟨_,_⟩,⟨_,_⟩,⟨_,_⟩,⟨_,_⟩,⟨_,_⟩,⟨_,_⟩,⟨_,_⟩⟩⟩:=y;simp only [zdd,z1p,QC,eI,z40,z7m,z7m.keyLs,zX,BEq.beq,Option.map_some,Option.some.injEq,Value.agg.injEq,List.cons_append,List.nil_append,List.append_nil,Array.mk.injEq,List.cons.injEq,Value.int.injEq,true_and,and_true,Bool.and_eq_true,decide_eq_true_eq,and_assoc]⟩
def zhY:ArN 64 Int:=⟨zng,rfl⟩
def ZW (l_:List Int)(k_:Int):Option Int :=
 bif decide (k_<((l_.length:Nat):Int)) then(
  (idx l_ k_).bind fun bq=>
  some (w64 (bq)))
 else(
  some 0)
def Wz (x_:zD)(gq:List (List z8)):Option z6 :=
 some (z6.mk (w64 (1+(w64 (Int.tmod x_.Inputs 3)))) (w64 (1+(w64 (Int.tmod x_.Outputs 3)))) gq)
def Wy (s_:Int)(gr:List (List z8)):Option (LR (List (List z8)×Int) (List (List z8))) :=
 some (.next (gr,w64 (s_+1)))
def YB (i_:Int)(gt:List (List z8)):Option (LR (List (List z8)×Int) (List (List z8))) :=
 some (.next (gt,w64 (i_+1)))
def kP (x_:zD)(s_:Int)(cj:List (List z8))(i_:Int):Option (LR (List (List z8)×Int) (List (List z8))) :=
 bif decide (i_<(w64 (1+(w64 (Int.tmod x_.Inputs 3))))) then(
  (idx cj s_).bind fun j6=>
  (idx j6 i_).bind fun ja=>
  bif decide (ja.To<0) then(
   (idx cj s_).bind fun ez=>
   (ZW x_.Edges (w64 ((w64 (s_*(w64 (1+(w64 (Int.tmod x_.Inputs 3))))))+i_))).bind fun r_=>
   gd (((w64 (1+(w64 (Int.tmod x_.States 6)))):Int)≠0) <|
   (idx ez i_).bind fun eg=>
   YB i_ (cj.set s_.toNat (ez.set i_.toNat (z8.mk (Int.tmod r_ (w64 (1+(w64 (Int.tmod x_.States 6))))) eg.Out))))
  else(
   YB i_ cj))
 else(
  some (.done cj))
def kQ (x_:zD)(eb:List (List z8))(s_:Int):Option (LR (List (List z8)×Int) (List (List z8))) :=
 bif decide (s_<(w64 (1+(w64 (Int.tmod x_.States 6))))) then(
  (loop (fun s=>kP x_ s_ s.1 s.2) (eb,0)).bind fun t6=>
  Wy s_ t6)
 else(
  some (.done eb))
def WA (x_:zD)(gb:List (List z8)):Option z6 :=
 (loop (fun s=>kQ x_ s.1 s.2) (gb,0)).bind fun t4=>
 Wz x_ t4
def Ww (az:Int)(gu:List (List z8)):Option (LR (List (List z8)×Int) (List (List z8))) :=
 some (.next (gu,w64 (az+1)))
def vZ (x_:zD)(ax:List (List z8))(az:Int)(k_:Int):Option (LR (List (List z8)×Int) (List (List z8))) :=
 gd (((w64 (1+(w64 (Int.tmod x_.Inputs 3)))):Int)≠0) <|
 (idx ax (w64 (Int.tdiv k_ (w64 (1+(w64 (Int.tmod x_.Inputs 3))))))).bind fun fc=>
 gd (((w64 (1+(w64 (Int.tmod x_.Inputs 3)))):Int)≠0) <|
 (idx fc (Int.tmod k_ (w64 (1+(w64 (Int.tmod x_.Inputs 3)))))).bind fun eh=>
 Ww az (ax.set (w64 (Int.tdiv k_ (w64 (1+(w64 (Int.tmod x_.Inputs 3)))))).toNat (fc.set (Int.tmod k_ (w64 (1+(w64 (Int.tmod x_.Inputs 3))))).toNat (z8.mk az eh.Out)))
def Xy (x_:zD)(ax:List (List z8))(az:Int)(free:List Int):Option (LR (List (List z8)×Int) (List (List z8))) :=
 (idx free 0).bind fun ip=>
 bif decide ((w64 (az - 1))<((x_.Tree.length:Nat):Int)) then(
  (idx x_.Tree (w64 (az - 1))).bind fun ki=>
  gd ((((free.length:Nat):Int):Int)≠0) <|
  (idx free (Int.tmod (w64 (ki)) ((free.length:Nat):Int))).bind fun i8=>
  vZ x_ ax az i8)
 else(
  vZ x_ ax az ip)
def Zm (a8:Int)(iq:List Int):Option (LR (List Int×Int) (List Int)) :=
 some (.next (iq,w64 (a8+1)))
def qJ (x_:zD)(ax:List (List z8))(az:Int)(dz:List Int)(a8:Int):Option (LR (List Int×Int) (List Int)) :=
 bif decide (a8<(w64 (az*(w64 (1+(w64 (Int.tmod x_.Inputs 3))))))) then(
  gd (((w64 (1+(w64 (Int.tmod x_.Inputs 3)))):Int)≠0) <|
  (idx ax (w64 (Int.tdiv a8 (w64 (1+(w64 (Int.tmod x_.Inputs 3))))))).bind fun jq=>
  gd (((w64 (1+(w64 (Int.tmod x_.Inputs 3)))):Int)≠0) <|
  (idx jq (Int.tmod a8 (w64 (1+(w64 (Int.tmod x_.Inputs 3)))))).bind fun ir=>
  bif decide (ir.To<0) then(
   gd (dz.length+([a8]:List Int).length<=4294967296) <|
   Zm a8 (dz++([a8]:List Int)))
  else(
   Zm a8 dz))
 else(
  some (.done dz))
def kO (x_:zD)(ax:List (List z8))(az:Int):Option (LR (List (List z8)×Int) (List (List z8))) :=
 bif decide (az<(w64 (1+(w64 (Int.tmod x_.States 6))))) then(
  (loop (fun s=>qJ x_ ax az s.1 s.2) (([]:List Int),0)).bind fun t12=>
  Xy x_ ax az t12)
 else(
  some (.done ax))
def WB (x_:zD)(gv:List (List z8)):Option z6 :=
 (loop (fun s=>kO x_ s.1 s.2) (gv,1)).bind fun t8=>
 WA x_ t8
def Xx (bg:Int)(ge:List (List z8)):Option (LR (List (List z8)×Int) (List (List z8))) :=
 some (.next (ge,w64 (bg+1)))
def Xw (bm:List (List z8))(bg:Int)(row:List z8):Option (LR (List (List z8)×Int) (List (List z8))) :=
 gd (bm.length+([row]:List (List z8)).length<=4294967296) <|
 Xx bg (bm++([row]:List (List z8)))
def qH (x_:zD)(bg:Int)(bz:List z8)(iu:Int):Option (LR (List z8×Int) (List z8)) :=
 bif decide (iu<(w64 (1+(w64 (Int.tmod x_.Inputs 3))))) then(
  (ZW x_.Edges (w64 ((w64 (bg*(w64 (1+(w64 (Int.tmod x_.Inputs 3))))))+iu))).bind fun ah=>
  gd (((w64 (1+(w64 (Int.tmod x_.States 6)))):Int)≠0) <|
  gd (((w64 (1+(w64 (Int.tmod x_.Outputs 3)))):Int)≠0) <|
  gd (bz.length+([(z8.mk (-1) (Int.tmod (w64 (Int.tdiv ah (w64 (1+(w64 (Int.tmod x_.States 6)))))) (w64 (1+(w64 (Int.tmod x_.Outputs 3))))))]:List z8).length<=4294967296) <|
  some (.next ((bz++([(z8.mk (-1) (Int.tmod (w64 (Int.tdiv ah (w64 (1+(w64 (Int.tmod x_.States 6)))))) (w64 (1+(w64 (Int.tmod x_.Outputs 3))))))]:List z8)),w64 (iu+1))))
 else(
  some (.done bz))
def qI (x_:zD)(bm:List (List z8))(bg:Int):Option (LR (List (List z8)×Int) (List (List z8))) :=
 bif decide (bg<(w64 (1+(w64 (Int.tmod x_.States 6))))) then(
  (loop (fun s=>qH x_ bg s.1 s.2) (([]:List z8),0)).bind fun t17=>
  Xw bm bg t17)
 else(
  some (.done bm))
def UZ (x_:zD):Option z6 :=
 gd ((6:Int)≠0) <|
 gd ((3:Int)≠0) <|
 gd ((3:Int)≠0) <|
 (loop (fun s=>qI x_ s.1 s.2) (([]:List (List z8)),0)).bind fun l9=>
 WB x_ l9
def UG:Option Int :=
 some 0
def qE (i_:Int)(lp:Int)(lq:Bool)(lu:Bool)(lv:Bool)(lw:Bool)(ly:Bool):Option (LR Int (Unit⊕Int)) :=
 some (.next (w64 (i_+1)))
def qD (m_:z6)(ar:List (List Bool))(s_:Int)(t_:Int)(i_:Int):Option (LR Int (Unit⊕Int)) :=
 bif decide (i_<m_.Inputs) then(
  (idx m_.Rows s_).bind fun am=>
  (idx am i_).bind fun ak=>
  (idx m_.Rows t_).bind fun ig=>
  (idx ig i_).bind fun bj=>
  bif ak.Out != bj.Out then(
   some (.done (.inr 1)))
  else(
   bif decide (ak.To>=0) then(
    bif decide (bj.To>=0) then(
     (idx ar ak.To).bind fun dj=>
     (idx dj bj.To).bind fun ca=>
     bif ca then(
      some (.done (.inr 1)))
     else(
      qE i_ ak.To (decide (ak.To>=0)) (decide (ak.To>=0)) (decide (bj.To>=0)) (decide (bj.To>=0)) ca))
    else(
     qE i_ ak.To (decide (ak.To>=0)) (decide (ak.To>=0)) (decide (bj.To>=0)) (decide (bj.To>=0)) false))
   else(
    qE i_ ak.To (decide (ak.To>=0)) (decide (ak.To>=0)) false false false)))
 else(
  some (.done (.inl ())))
def Ve (m_:z6)(ar:List (List Bool))(s_:Int)(t_:Int):Option Int :=
 (loop (fun s=>qD m_ ar s_ t_ s) 0).bind fun t2=>
 match t2 with
 | .inl p=>UG
 | .inr p=>some p
def Yp (ij:List (List Bool)):Option (List (List Bool)) :=
 some ij
def Yo (round:Int)(gw:List (List Bool)):Option (LR (List (List Bool)×Int) (List (List Bool))) :=
 some (.next (gw,w64 (round+1)))
def Yn (round:Int)(next:List (List Bool)):Option (LR (List (List Bool)×Int) (List (List Bool))) :=
 Yo round next
def Ym (s_:Int)(iv:List (List Bool)):Option (LR (List (List Bool)×Int) (List (List Bool))) :=
 some (.next (iv,w64 (s_+1)))
def va (m_:z6)(a9:List (List Bool))(s_:Int)(d0:List (List Bool))(t_:Int):Option (LR (List (List Bool)×Int) (List (List Bool))) :=
 bif decide (t_<((m_.Rows.length:Nat):Int)) then(
  (idx d0 s_).bind fun dl=>
  (idx a9 s_).bind fun dj=>
  (idx dj t_).bind fun ca=>
  bif ca then(
   (idx dl t_).bind fun kz=>
   some (.next ((d0.set s_.toNat (dl.set t_.toNat true)),w64 (t_+1))))
  else(
   (Ve m_ a9 s_ t_).bind fun r_=>
   (idx dl t_).bind fun kj=>
   some (.next ((d0.set s_.toNat (dl.set t_.toNat (r_==1))),w64 (t_+1)))))
 else(
  some (.done d0))
def vb (m_:z6)(a9:List (List Bool))(fl:List (List Bool))(s_:Int):Option (LR (List (List Bool)×Int) (List (List Bool))) :=
 bif decide (s_<((m_.Rows.length:Nat):Int)) then(
  gd ((0:Int)<=((m_.Rows.length:Nat):Int)/\(((m_.Rows.length:Nat):Int):Int)<=4294967296) <|
  gd (fl.length+([(List.replicate ((m_.Rows.length:Nat):Int).toNat false)]:List (List Bool)).length<=4294967296) <|
  (loop (fun s=>va m_ a9 s_ s.1 s.2) ((fl++([(List.replicate ((m_.Rows.length:Nat):Int).toNat false)]:List (List Bool))),0)).bind fun t8=>
  Ym s_ t8)
 else(
  some (.done fl))
def vd (m_:z6)(k_:Int)(a9:List (List Bool))(round:Int):Option (LR (List (List Bool)×Int) (List (List Bool))) :=
 bif decide (round<k_) then(
  (loop (fun s=>vb m_ a9 s.1 s.2) (([]:List (List Bool)),0)).bind fun t6=>
  Yn round t6)
 else(
  some (.done a9))
def Yq (m_:z6)(k_:Int)(ar:List (List Bool)):Option (List (List Bool)) :=
 (loop (fun s=>vd m_ k_ s.1 s.2) (ar,0)).bind fun t3=>
 Yp t3
def v8 (m_:z6)(dr:List (List Bool))(az:Int):Option (LR (List (List Bool)×Int) (List (List Bool))) :=
 bif decide (az<((m_.Rows.length:Nat):Int)) then(
  gd ((0:Int)<=((m_.Rows.length:Nat):Int)/\(((m_.Rows.length:Nat):Int):Int)<=4294967296) <|
  gd (dr.length+([(List.replicate ((m_.Rows.length:Nat):Int).toNat false)]:List (List Bool)).length<=4294967296) <|
  some (.next ((dr++([(List.replicate ((m_.Rows.length:Nat):Int).toNat false)]:List (List Bool))),w64 (az+1))))
 else(
  some (.done dr))
def XK (m_:z6)(k_:Int):Option (List (List Bool)) :=
 (loop (fun s=>v8 m_ s.1 s.2) (([]:List (List Bool)),0)).bind fun t9=>
 Yq m_ k_ t9
def Yl (out:List Int):Option (List Int) :=
 some out
def qV (s_:Int)(ay:List Int)(cw:Int):Option (LR (List Int×Int×Int) (List Int)) :=
 some (.next (ay,cw,w64 (s_+1)))
def wx (ai:List Int)(s_:Int)(kl:Int)(iw:Int):Option (LR (List Int×Int×Int) (List Int)) :=
 gd (ai.length+([iw]:List Int).length<=4294967296) <|
 qV s_ (ai++([iw]:List Int)) kl
def qU (ai:List Int)(n_:Int)(s_:Int)(b_:Int):Option (LR (List Int×Int×Int) (List Int)) :=
 bif decide (b_<0) then(
  wx ai s_ (w64 (n_+1)) n_)
 else(
  wx ai s_ n_ b_)
def vL (t_:Int)(km:Int):Option (LR (Int×Int) Int) :=
 some (.next (km,w64 (t_+1)))
def vK (ar:List (List Bool))(ai:List Int)(s_:Int)(jb:Int)(t_:Int):Option (LR (Int×Int) Int) :=
 bif decide (t_<s_) then(
  (idx ar s_).bind fun dj=>
  (idx dj t_).bind fun ca=>
  bif !ca then(
   (idx ai t_).bind fun bp=>
   vL t_ bp)
  else(
   vL t_ jb))
 else(
  some (.done jb))
def qS (ar:List (List Bool))(ai:List Int)(n_:Int)(s_:Int):Option (LR (List Int×Int×Int) (List Int)) :=
 bif decide (s_<((ar.length:Nat):Int)) then(
  (loop (fun s=>vK ar ai s_ s.1 s.2) ((-1),0)).bind fun t6=>
  qU ai n_ s_ t6)
 else(
  some (.done ai))
def jW (ar:List (List Bool)):Option (List Int) :=
 (loop (fun s=>qS ar s.1 s.2.1 s.2.2) (([]:List Int),0,0)).bind fun t2=>
 Yl t2
def Ui (m_:z6)(k_:Int):Option (List Int) :=
 (XK m_ k_).bind fun r_=>
 (jW r_).bind fun ah=>
 some ah
def kJ (m_:z6):Option (List Int) :=
 (Ui m_ ((m_.Rows.length:Nat):Int)).bind fun r_=>
 some r_
def WP (m_:z6)(s_:Int)(i_:Int):Option z8 :=
 bif decide (s_<0) then(
  some (z8.mk (-1) (-1)))
 else(
  (idx m_.Rows s_).bind fun am=>
  (idx am i_).bind fun ak=>
  some ak)
def kK (ib:z6->Int->(List Int)->Option Int)(m_:z6)(s_:Int)(w_:List Int):Option Int :=
 bif ((w_.length:Nat):Int)==0 then(
  some s_)
 else(
  (idx w_ 0).bind fun fe=>
  (WP m_ s_ fe).bind fun r_=>
  gd ((0:Int)<=1/\(1:Int)<=((w_.length:Nat):Int)/\(((w_.length:Nat):Int):Int)<=((w_.length:Nat):Int)) <|
  (ib m_ r_.To (w_.drop (1:Int).toNat)).bind fun ah=>
  some ah)
def Yv (fu:Nat):z6->Int->(List Int)->Option Int:=Nat.rec (motive:=fun _=>z6->Int->(List Int)->Option Int) (fun _ _ _=>none) (fun _ ih=>kK ih) fu
def Qt (m_:z6)(s_:Int)(w_:List Int):Option Int:=Yv (w_.length+1) m_ s_ w_
def Ys (out:List Int):Option (List Int) :=
 gd (out.length+([0]:List Int).length<=4294967296) <|
 some (out++([0]:List Int))
def Yr (inputs:Int)(ai:List Int)(k_:Int):Option (LR (List Int×Int) (List Int⊕List Int)) :=
 bif decide (k_>=0) then(
  (idx ai k_).bind fun bp=>
  bif decide ((w64 (bp+1))<inputs) then(
   (idx ai k_).bind fun dm=>
   (idx ai k_).bind fun jr=>
   some (.done (.inr (ai.set k_.toNat (w64 (dm+1))))))
  else(
   (idx ai k_).bind fun js=>
   some (.next ((ai.set k_.toNat 0),w64 (k_ - 1)))))
 else(
  some (.done (.inl ai)))
def X9 (w_:List Int)(inputs:Int):Option (List Int) :=
 gd (([]:List Int).length+w_.length<=4294967296) <|
 (loop (fun s=>Yr inputs s.1 s.2) (w_,w64 (((w_.length:Nat):Int) - 1))).bind fun t2=>
 match t2 with
 | .inl p=>Ys p
 | .inr p=>some p
def Xt (l_:List (List Int))(is:List Bool):Option (List (List Int)×List Bool) :=
 some (l_,is)
def vX (m_:z6)(w_:List Int)(fy:List (List Int))(kn:List Bool):Option (LR (List (List Int)×List Bool×List Int) ((List (List Int)×List Bool))) :=
 (X9 w_ m_.Inputs).bind fun r_=>
 some (.next (fy,kn,r_))
def Xs (m_:z6)(bu:Int)(dw:List (List Int))(gf:List Bool)(w_:List Int):Option (LR (List (List Int)×List Bool×List Int) ((List (List Int)×List Bool))) :=
 bif decide (((w_.length:Nat):Int)<((m_.Rows.length:Nat):Int)) then(
  (Qt m_ bu w_).bind fun ah=>
  bif decide (ah>=0) then(
   (idx gf ah).bind fun lz=>
   bif !lz then(
    (idx gf ah).bind fun l6=>
    (idx dw ah).bind fun bq=>
    vX m_ w_ (dw.set ah.toNat w_) (gf.set ah.toNat true))
   else(
    vX m_ w_ dw gf))
  else(
   vX m_ w_ dw gf))
 else(
  some (.done (dw,gf)))
def Vf (m_:z6)(bu:Int):Option (List (List Int)×List Bool) :=
 gd ((0:Int)<=((m_.Rows.length:Nat):Int)/\(((m_.Rows.length:Nat):Int):Int)<=4294967296) <|
 gd ((0:Int)<=((m_.Rows.length:Nat):Int)/\(((m_.Rows.length:Nat):Int):Int)<=4294967296) <|
 (loop (fun s=>Xs m_ bu s.1 s.2.1 s.2.2) ((List.replicate ((m_.Rows.length:Nat):Int).toNat ([]:List Int)),(List.replicate ((m_.Rows.length:Nat):Int).toNat false),([]:List Int))).bind fun t2=>
 Xt t2.1 t2.2
def XL (m_:z6):Option (List (List Int)×List Bool) :=
 (Vf m_ 0).bind fun r_=>
 some (r_.1,r_.2)
def Qs:Option Int :=
 some 0
def Yt (a_:List Int)(b_:List Int)(i_:Int):Option (LR Int (Unit⊕Int)) :=
 bif decide (i_<((a_.length:Nat):Int)) then(
  (idx a_ i_).bind fun ff=>
  (idx b_ i_).bind fun fg=>
  bif ff != fg then(
   (idx a_ i_).bind fun gk=>
   (idx b_ i_).bind fun gl=>
   bif decide (gk<gl) then(
    some (.done (.inr 1)))
   else(
    some (.done (.inr 0))))
  else(
   some (.next (w64 (i_+1)))))
 else(
  some (.done (.inl ())))
def US (a_:List Int)(b_:List Int):Option Int :=
 bif ((a_.length:Nat):Int) !=((b_.length:Nat):Int) then(
  bif decide (((a_.length:Nat):Int)<((b_.length:Nat):Int)) then(
   some 1)
  else(
   some 0))
 else(
  (loop (fun s=>Yt a_ b_ s) 0).bind fun t2=>
  match t2 with
  | .inl p=>Qs
  | .inr p=>some p)
def UH (out:List Int):Option (List Int) :=
 some out
def qG (s_:Int)(ay:List Int):Option (LR (List Int×Int) (List Int)) :=
 some (.next (ay,w64 (s_+1)))
def Xu (ai:List Int)(s_:Int)(k_:Int):Option (LR (List Int×Int) (List Int)) :=
 gd ((0:Int)<=0/\(0:Int)<=k_/\(k_:Int)<=((ai.length:Nat):Int)) <|
 gd (([]:List Int).length+((ai.drop 0).take (k_.toNat - 0)).length<=4294967296) <|
 gd (((ai.drop 0).take (k_.toNat - 0)).length+([s_]:List Int).length<=4294967296) <|
 gd ((0:Int)<=k_/\(k_:Int)<=((ai.length:Nat):Int)/\(((ai.length:Nat):Int):Int)<=((ai.length:Nat):Int)) <|
 gd ((((ai.drop 0).take (k_.toNat - 0))++([s_]:List Int)).length+(ai.drop k_.toNat).length<=4294967296) <|
 qG s_ ((((ai.drop 0).take (k_.toNat - 0))++([s_]:List Int))++(ai.drop k_.toNat))
def Zj (r_:List (List Int)×List Bool)(ai:List Int)(s_:Int)(a8:Int):Option (LR Int Int) :=
 bif decide (a8<((ai.length:Nat):Int)) then(
  (idx ai a8).bind fun bp=>
  (idx r_.1 bp).bind fun lf=>
  (idx r_.1 s_).bind fun lh=>
  (US lf lh).bind fun ah=>
  bif ah==1 then(
   some (.next (w64 (a8+1))))
  else(
   some (.done a8)))
 else(
  some (.done a8))
def Zk (r_:List (List Int)×List Bool)(ai:List Int)(s_:Int):Option (LR (List Int×Int) (List Int)) :=
 bif decide (s_<((r_.1.length:Nat):Int)) then(
  (idx r_.2 s_).bind fun u_=>
  bif !u_ then(
   qG s_ ai)
  else(
   (loop (fun s=>Zj r_ ai s_ s) 0).bind fun t5=>
   Xu ai s_ t5))
 else(
  some (.done ai))
def Vg (m_:z6):Option (List Int) :=
 (XL m_).bind fun r_=>
 (loop (fun s=>Zk r_ s.1 s.2) (([]:List Int),0)).bind fun t2=>
 UH t2
def Yk (out:List Int):Option (List Int) :=
 some out
def ul (k_:Int)(ay:List Int):Option (LR (List Int×Int) (List Int)) :=
 some (.next (ay,w64 (k_+1)))
def Yj (ah:List Int)(ai:List Int)(k_:Int)(there:Int):Option (LR (List Int×Int) (List Int)) :=
 bif there==0 then(
  (idx ah k_).bind fun du=>
  gd (ai.length+([du]:List Int).length<=4294967296) <|
  ul k_ (ai++([du]:List Int)))
 else(
  ul k_ ai)
def jU (n_:Int)(ii:Int):Option (LR (Int×Int) Int) :=
 some (.next (ii,w64 (n_+1)))
def jT (r_:List Int)(ah:List Int)(k_:Int)(fo:Int)(n_:Int):Option (LR (Int×Int) Int) :=
 bif decide (n_<k_) then(
  (idx ah n_).bind fun fz=>
  (idx r_ fz).bind fun ix=>
  (idx ah k_).bind fun iy=>
  (idx r_ iy).bind fun lk=>
  bif ix==lk then(
   jU n_ 1)
  else(
   jU n_ fo))
 else(
  some (.done fo))
def Yi (r_:List Int)(ah:List Int)(ai:List Int)(k_:Int):Option (LR (List Int×Int) (List Int)) :=
 bif decide (k_<((ah.length:Nat):Int)) then(
  (loop (fun s=>jT r_ ah k_ s.1 s.2) (0,0)).bind fun t5=>
  Yj ah ai k_ t5)
 else(
  some (.done ai))
def jV (m_:z6):Option (List Int) :=
 (kJ m_).bind fun r_=>
 (Vg m_).bind fun ah=>
 (loop (fun s=>Yi r_ ah s.1 s.2) (([]:List Int),0)).bind fun t2=>
 Yk t2
def ZA (out:List Bool):Option (List Bool) :=
 some out
def Zz (round:Int)(ay:List Bool):Option (LR (List Bool×Int) (List Bool)) :=
 some (.next (ay,w64 (round+1)))
def Zy (s_:Int)(gg:List Bool):Option (LR (List Bool×Int) (List Bool)) :=
 some (.next (gg,w64 (s_+1)))
def vz (i_:Int)(jt:List Bool):Option (LR (List Bool×Int) (List Bool)) :=
 some (.next (jt,w64 (i_+1)))
def qr (m_:z6)(s_:Int)(d7:List Bool)(i_:Int):Option (LR (List Bool×Int) (List Bool)) :=
 bif decide (i_<m_.Inputs) then(
  (idx m_.Rows s_).bind fun am=>
  (idx am i_).bind fun ak=>
  (idx d7 s_).bind fun bp=>
  bif bp then(
   bif decide (ak.To>=0) then(
    (idx d7 ak.To).bind fun dm=>
    vz i_ (d7.set ak.To.toNat true))
   else(
    vz i_ d7))
  else(
   vz i_ d7))
 else(
  some (.done d7))
def qt (m_:z6)(bv:List Bool)(s_:Int):Option (LR (List Bool×Int) (List Bool)) :=
 bif decide (s_<((m_.Rows.length:Nat):Int)) then(
  (loop (fun s=>qr m_ s_ s.1 s.2) (bv,0)).bind fun t6=>
  Zy s_ t6)
 else(
  some (.done bv))
def Zx (m_:z6)(ai:List Bool)(round:Int):Option (LR (List Bool×Int) (List Bool)) :=
 bif decide (round<((m_.Rows.length:Nat):Int)) then(
  (loop (fun s=>qt m_ s.1 s.2) (ai,0)).bind fun t4=>
  Zz round t4)
 else(
  some (.done ai))
def Yu (m_:z6)(bu:Int):Option (List Bool) :=
 gd ((0:Int)<=((m_.Rows.length:Nat):Int)/\(((m_.Rows.length:Nat):Int):Int)<=4294967296) <|
 (idx (List.replicate ((m_.Rows.length:Nat):Int).toNat false) bu).bind fun mg=>
 (loop (fun s=>Zx m_ s.1 s.2) (((List.replicate ((m_.Rows.length:Nat):Int).toNat false).set bu.toNat true),0)).bind fun t2=>
 ZA t2
def Uh (out:List Int):Option (List Int) :=
 some out
def Ug (s_:Int)(ay:List Int):Option (LR (List Int×Int) (List Int)) :=
 some (.next (ay,w64 (s_+1)))
def Uf (ai:List Int)(s_:Int)(k_:Int):Option (LR (List Int×Int) (List Int)) :=
 gd (ai.length+([k_]:List Int).length<=4294967296) <|
 Ug s_ (ai++([k_]:List Int))
def ZV (n_:Int)(ee:Int):Option (LR (Int×Int) Int) :=
 some (.next (ee,w64 (n_+1)))
def XI (r_:List Int)(ah:List Int)(al:List Bool)(s_:Int)(a8:Int)(n_:Int):Option (LR (Int×Int) Int) :=
 bif decide (n_<((ah.length:Nat):Int)) then(
  (idx al s_).bind fun du=>
  bif du then(
   (idx ah n_).bind fun fz=>
   (idx r_ fz).bind fun ix=>
   (idx r_ s_).bind fun iy=>
   bif ix==iy then(
    ZV n_ n_)
   else(
    ZV n_ a8))
  else(
   ZV n_ a8))
 else(
  some (.done a8))
def Ue (r_:List Int)(ah:List Int)(al:List Bool)(ai:List Int)(s_:Int):Option (LR (List Int×Int) (List Int)) :=
 bif decide (s_<((r_.length:Nat):Int)) then(
  (loop (fun s=>XI r_ ah al s_ s.1 s.2) ((-1),0)).bind fun t5=>
  Uf ai s_ t5)
 else(
  some (.done ai))
def JD (m_:z6):Option (List Int) :=
 (kJ m_).bind fun r_=>
 (jV m_).bind fun ah=>
 (Yu m_ 0).bind fun al=>
 (loop (fun s=>Ue r_ ah al s.1 s.2) (([]:List Int),0)).bind fun t2=>
 Uh t2
def Zw (m_:z6)(gh:List (List z8)):Option z6 :=
 some (z6.mk m_.Inputs m_.Outputs gh)
def Zv (k_:Int)(fp:List (List z8)):Option (LR (List (List z8)×Int) (List (List z8))) :=
 some (.next (fp,w64 (k_+1)))
def Zu (a7:List (List z8))(k_:Int)(row:List z8):Option (LR (List (List z8)×Int) (List (List z8))) :=
 gd (a7.length+([row]:List (List z8)).length<=4294967296) <|
 Zv k_ (a7++([row]:List (List z8)))
def vw (bz:List z8)(i_:Int)(ak:z8)(d8:Int):Option (LR (List z8×Int) (List z8)) :=
 gd (bz.length+([(z8.mk d8 ak.Out)]:List z8).length<=4294967296) <|
 some (.next ((bz++([(z8.mk d8 ak.Out)]:List z8)),w64 (i_+1)))
def qp (m_:z6)(r_:List Int)(ah:List Int)(k_:Int)(bz:List z8)(i_:Int):Option (LR (List z8×Int) (List z8)) :=
 bif decide (i_<m_.Inputs) then(
  (idx r_ k_).bind fun du=>
  (idx m_.Rows du).bind fun am=>
  (idx am i_).bind fun ak=>
  bif decide (ak.To>=0) then(
   (idx ah ak.To).bind fun fz=>
   vw bz i_ ak fz)
  else(
   vw bz i_ ak ak.To))
 else(
  some (.done bz))
def qq (m_:z6)(r_:List Int)(ah:List Int)(a7:List (List z8))(k_:Int):Option (LR (List (List z8)×Int) (List (List z8))) :=
 bif decide (k_<((r_.length:Nat):Int)) then(
  (loop (fun s=>qp m_ r_ ah k_ s.1 s.2) (([]:List z8),0)).bind fun t5=>
  Zu a7 k_ t5)
 else(
  some (.done a7))
def Yh (m_:z6):Option z6 :=
 (jV m_).bind fun r_=>
 (JD m_).bind fun ah=>
 (loop (fun s=>qq m_ r_ ah s.1 s.2) (([]:List (List z8)),0)).bind fun t2=>
 Zw m_ t2
def UY (x_:uE):Option z6 :=
 gd ((5:Int)≠0) <|
 (UZ (zD.mk (Int.tmod x_.C.States 5) x_.C.Inputs x_.C.Outputs x_.C.Tree x_.C.Edges)).bind fun r_=>
 (Yh r_).bind fun ah=>
 some ah
def uT:Option z8 :=
 some (z8.mk (-1) (-1))
def Yz (m_:z6)(x_:z8):Option Bool :=
 (uT).bind fun r_=>
 bif (x_.To==r_.To)&&((x_.Out==r_.Out)&&true) then(
  some true)
 else(
  bif decide (x_.To>=0) then(
   bif decide (x_.To<((m_.Rows.length:Nat):Int)) then(
    bif decide (x_.Out>=0) then(
     some (decide (x_.Out<m_.Outputs)))
    else(
     some false))
   else(
    some false))
  else(
   some false))
def ZD (x_:z8)(x1:z6):Option Bool :=
 (Yz x1 x_).bind fun r_=>
 some (!r_)
def yZ:Option Int :=
 some (-1)
def zP (s_:List z8)(f_:z6)(x8:Int):Option (LR Int (Unit⊕Int)) :=
 bif decide (x8<((s_.length:Nat):Int)) then(
  (idx s_ x8).bind fun cp=>
  (ZD cp f_).bind fun r_=>
  bif r_ then(
   some (.done (.inr x8)))
  else(
   some (.next (w64 (x8+1)))))
 else(
  some (.done (.inl ())))
def yn (s_:List z8)(f_:z6):Option Int :=
 (loop (fun s=>zP s_ f_ s) 0).bind fun t2=>
 match t2 with
 | .inl p=>yZ
 | .inr p=>some p
def zY (s_:List z8)(f_:z6):Option Bool :=
 (yn s_ f_).bind fun r_=>
 some (decide (r_>=0))
def Xa:Option Int :=
 some 0
def wT (m_:z6)(ic:Int):Option (LR Int (Unit⊕Int)) :=
 bif decide (ic<((m_.Rows.length:Nat):Int)) then(
  (idx m_.Rows ic).bind fun am=>
  bif ((am.length:Nat):Int) != m_.Inputs then(
   some (.done (.inr 1)))
  else(
   (zY am m_).bind fun r_=>
   bif r_ then(
    some (.done (.inr 1)))
   else(
    some (.next (w64 (ic+1))))))
 else(
  some (.done (.inl ())))
def xF (m_:z6):Option Int :=
 bif decide (m_.Inputs > 16) then(
  some 3)
 else(
  bif decide (m_.Outputs > 16) then(
   some 3)
  else(
   bif decide (((m_.Rows.length:Nat):Int) > 64) then(
    some 3)
   else(
    bif decide (m_.Inputs<1) then(
     some 1)
    else(
     bif decide (m_.Outputs<1) then(
      some 1)
     else(
      bif decide (((m_.Rows.length:Nat):Int)<1) then(
       some 1)
      else(
       (loop (fun s=>wT m_ s) 0).bind fun t2=>
       match t2 with
       | .inl p=>Xa
       | .inr p=>some p))))))
def Yw (m_:z6):Option ((Int×z6)×(Int×z6)×(Int×z6)) :=
 some ((9,m_),(11,m_),(12,m_))
def Xv (m_:z6):Option z6 :=
 some m_
def uU {σ:Type}(ck:Int)(fq:σ):Option (LR (σ×Int) σ) :=
 some (.next (fq,w64 (ck+1)))
def xZ {σ:Type}(yy:σ->(wp Int×z8)->Option (σ×Bool))(ck:Int)(am:List z8)(cr:σ)(ap:Int):Option (LR (σ×Int) (σ⊕σ)) :=
 bif decide (ap<((am.length:Nat):Int)) then(
  (idx am ap).bind fun ak=>
  (yy cr ((wp.mk ck ap),ak)).bind fun yr=>
  bif !yr.2 then(
   some (.done (.inr yr.1)))
  else(
   some (.next (yr.1,w64 (ap+1)))))
 else(
  some (.done (.inl cr)))
def ve {σ:Type}(x0:z6)(yy:σ->(wp Int×z8)->Option (σ×Bool))(cb:σ)(ck:Int):Option (LR (σ×Int) σ) :=
 bif decide (ck<((x0.Rows.length:Nat):Int)) then(
  (idx x0.Rows ck).bind fun am=>
  (loop (fun s=>xZ yy ck am s.1 s.2) (cb,0)).bind fun t3=>
  match t3 with
  | .inl p=>uU ck p
  | .inr p=>some (.done p))
 else(
  some (.done cb))
def qu (x0:z6){σ:Type}(yy:σ->(wp Int×z8)->Option (σ×Bool))(sg:σ):Option σ :=
 (loop (fun s=>ve x0 yy s.1 s.2) (sg,0)).bind fun t1=>
 some t1
def wO (s_:List (wp Int)):Option (List (wp Int)) :=
 gd ((0:Int)<=0/\(0:Int)<=((s_.length:Nat):Int)/\(((s_.length:Nat):Int):Int)<=((s_.length:Nat):Int)/\(((s_.length:Nat):Int):Int)<=((s_.length:Nat):Int)) <|
 some ((s_.drop 0).take (((s_.length:Nat):Int).toNat - 0))
def vM (out:List (wp Int)):Option (List (wp Int)) :=
 (wO out).bind fun r_=>
 some r_
def yj (ai:List (wp Int))(x8:wp Int)(x9:z8):Option (LR (List (wp Int)) Empty) :=
 (uT).bind fun al=>
 bif (x9.To==al.To)&&((x9.Out==al.Out)&&true) then(
  gd (ai.length+([x8]:List (wp Int)).length<=4294967296) <|
  some (.next (ai++([x8]:List (wp Int)))))
 else(
  some (.next ai))
def qW (m_:z6):Option (List (wp Int)) :=
 (Xv m_).bind fun ah=>
 (qu ah (yOf (fun s x=>yj s x.1 x.2)) (.next ([]:List (wp Int)))).bind fun t2=>
 match t2 with
 | .next ai=>(
  vM ai)
 | .done z=>nomatch z
def uv (m_:z6):Option (Bool×Int) :=
 (xF m_).bind fun r_=>
 bif r_ != 0 then(
  some (false,r_))
 else(
  (qW m_).bind fun ah=>
  some (((ah.length:Nat):Int)==0,0))
def kN (x0:z6):Option Bool :=
 (uv x0).bind fun r_=>
 some r_.1
def yS (ib:Int->(List Bool)->z6->Option (List Bool×z6))(am:List z8)(x1:List Bool)(dn:Int)(da:Int)(fh:List (List z8))(bc:Int):Option (LR (List Bool×Int×Int×List (List z8)×Int) ((List Bool×z6))) :=
 bif decide (bc<((am.length:Nat):Int)) then(
  (idx am bc).bind fun ak=>
  (ib ak.To x1 (z6.mk dn da fh)).bind fun r_=>
  some (.next (r_.1,r_.2.Inputs,r_.2.Outputs,r_.2.Rows,w64 (bc+1))))
 else(
  some (.done (x1,(z6.mk dn da fh))))
def xU (ib:Int->(List Bool)->z6->Option (List Bool×z6))(s_:Int)(y0:List Bool)(y1:z6):Option (List Bool×z6) :=
 bif s_==(-1) then(
  some (y0,y1))
 else(
  (idx y0 s_).bind fun ma=>
  bif ma then(
   some (y0,y1))
  else(
   (idx y0 s_).bind fun mc=>
   (idx y1.Rows s_).bind fun am=>
   (loop (fun s=>yS ib am s.1 s.2.1 s.2.2.1 s.2.2.2.1 s.2.2.2.2) ((y0.set s_.toNat true),y1.Inputs,y1.Outputs,y1.Rows,0)).bind fun t1=>
   some t1))
def ye (fu:Nat):Int->(List Bool)->z6->Option (List Bool×z6):=Nat.rec (motive:=fun _=>Int->(List Bool)->z6->Option (List Bool×z6)) (fun _ _ _=>none) (fun _ ih=>xU ih) fu
def vW:Option Int :=
 some (-1)
def yp (s_:List Bool)(v_:Bool)(x8:Int):Option (LR Int (Unit⊕Int)) :=
 bif decide (x8<((s_.length:Nat):Int)) then(
  (idx s_ x8).bind fun cp=>
  bif v_==cp then(
   some (.done (.inr x8)))
  else(
   some (.next (w64 (x8+1)))))
 else(
  some (.done (.inl ())))
def vn (s_:List Bool)(v_:Bool):Option Int :=
 (loop (fun s=>yp s_ v_ s) 0).bind fun t2=>
 match t2 with
 | .inl p=>vW
 | .inr p=>some p
def xo (s_:List Bool)(v_:Bool):Option Bool :=
 (vn s_ v_).bind fun r_=>
 some (decide (r_>=0))
def vN (m_:z6):Option (Bool×Int) :=
 (xF m_).bind fun r_=>
 bif r_ != 0 then(
  some (false,r_))
 else(
  gd ((0:Int)<=((m_.Rows.length:Nat):Int)/\(((m_.Rows.length:Nat):Int):Int)<=4294967296) <|
  (ye fuel 0 (List.replicate ((m_.Rows.length:Nat):Int).toNat false) m_).bind fun ah=>
  (xo ah.1 false).bind fun al=>
  some (!al,0))
def kM (x0:z6):Option Bool :=
 (vN x0).bind fun r_=>
 some r_.1
def Xo (m_:z6):Option z6 :=
 some m_
def Yg (out:yV (wp Int)):Option (yV (wp Int)) :=
 some out
def jP (bo:Int)(ay:yV (wp Int)):Option (LR (yV (wp Int)×Int) (yV (wp Int))) :=
 some (.next (ay,w64 (bo+1)))
def jO (p_:List Int)(am:List z8)(ai:yV (wp Int))(bo:Int):Option (LR (yV (wp Int)×Int) (yV (wp Int))) :=
 bif decide (bo<((am.length:Nat):Int)) then(
  (idx am bo).bind fun ak=>
  (idx (yV.toL ai) bo).bind fun cell=>
  (some (yV.setI ai bo (wp.mk ak.Out (-1)))).bind fun arr=>
  bif ak.To !=(-1) then(
   (idx p_ ak.To).bind fun bt=>
   (idx (yV.toL arr) bo).bind fun a6=>
   (some (yV.setI arr bo (wp.mk a6.e0 bt))).bind fun arr1=>
   jP bo arr1)
  else(
   jP bo arr))
 else(
  some (.done ai))
def jQ (m_:z6)(p_:List Int)(s_:Int):Option (yV (wp Int)) :=
 (idx m_.Rows s_).bind fun am=>
 (loop (fun s=>jO p_ am s.1 s.2) ((yV.mk (wp.mk 0 0) (wp.mk 0 0) (wp.mk 0 0) (wp.mk 0 0) (wp.mk 0 0) (wp.mk 0 0) (wp.mk 0 0) (wp.mk 0 0) (wp.mk 0 0) (wp.mk 0 0) (wp.mk 0 0) (wp.mk 0 0) (wp.mk 0 0) (wp.mk 0 0) (wp.mk 0 0) (wp.mk 0 0)),0)).bind fun t2=>
 Yg t2
def qQ (out:List Int):Option (List Int) :=
 some out
def wv (ai:List Int)(de:Int)(bt:Int)(r_:yV (wp Int))(db:List (zA×Int)):Option (LR ((List (zA×Int))×List Int×Int) (List Int)) :=
 (some ((z37 db (zA.mk bt r_)).getD 0)).bind fun val=>
 (idx ai de).bind fun bp=>
 some (.next (db,(ai.set de.toNat val),w64 (de+1)))
def vI (m_:z6)(p_:List Int)(names:List (zA×Int))(ai:List Int)(de:Int):Option (LR ((List (zA×Int))×List Int×Int) (List Int)) :=
 bif decide (de<((p_.length:Nat):Int)) then(
  (idx p_ de).bind fun bt=>
  (jQ m_ p_ de).bind fun r_=>
  (some ((z37 names (zA.mk bt r_)).getD 0)).bind fun l4=>
  bif !((z37 names (zA.mk bt r_)).isSome) then(
   wv ai de bt r_ (zbd names (zA.mk bt r_) ((names.length:Nat):Int)))
  else(
   wv ai de bt r_ names))
 else(
  some (.done ai))
def jR (m_:z6)(p_:List Int):Option (List Int) :=
 gd ((0:Int)<=((p_.length:Nat):Int)/\(((p_.length:Nat):Int):Int)<=4294967296) <|
 (loop (fun s=>vI m_ p_ s.1 s.2.1 s.2.2) (([]:List (zA×Int)),(List.replicate ((p_.length:Nat):Int).toNat (0:Int)),0)).bind fun t2=>
 qQ t2
def wN:Option Bool :=
 some true
def yQ (s1:List Int)(s2:List Int)(cq:Int):Option (LR Int (Unit⊕Bool)) :=
 bif decide (cq<((s1.length:Nat):Int)) then(
  (idx s1 cq).bind fun ft=>
  (idx s2 cq).bind fun dp=>
  bif ft != dp then(
   some (.done (.inr false)))
  else(
   some (.next (w64 (cq+1)))))
 else(
  some (.done (.inl ())))
def xP (s1:List Int)(s2:List Int):Option Bool :=
 bif ((s1.length:Nat):Int) !=((s2.length:Nat):Int) then(
  some false)
 else(
  (loop (fun s=>yQ s1 s2 s) 0).bind fun t2=>
  match t2 with
  | .inl p=>wN
  | .inr p=>some p)
def v7 {σ:Type}(x0:z6)(yy:σ->(List Int)->Option (σ×Bool))(cb:σ)(p_:List Int):Option (LR (σ×List Int) σ) :=
 (yy cb p_).bind fun yr=>
 bif yr.2 then(
  (jR x0 p_).bind fun r_=>
  (xP p_ r_).bind fun ah=>
  bif ah then(
   some (.done yr.1))
  else(
   some (.next (yr.1,r_))))
 else(
  some (.done yr.1))
def qn (x0:z6){σ:Type}(yy:σ->(List Int)->Option (σ×Bool))(sg:σ):Option σ :=
 gd ((0:Int)<=((x0.Rows.length:Nat):Int)/\(((x0.Rows.length:Nat):Int):Int)<=4294967296) <|
 (loop (fun s=>v7 x0 yy s.1 s.2) (sg,(List.replicate ((x0.Rows.length:Nat):Int).toNat (0:Int)))).bind fun t1=>
 some t1
def qR (p_:List Int)(n_:Int):Option (List Int×Int×Int) :=
 some (p_,n_,0)
def ww (il:List Int)(cw:Int)(ce:List Int):Option (LR (List Int×Int) Empty) :=
 some (.next (ce,w64 (cw+1)))
def jS (m_:z6):Option (List Int×Int×Int) :=
 (xF m_).bind fun r_=>
 bif r_ != 0 then(
  some (([]:List Int),0,r_))
 else(
  (Xo m_).bind fun ah=>
  (qn ah (yOf (fun s x=>ww s.1 s.2 x)) (.next (([]:List Int),(-1)))).bind fun t2=>
  match t2 with
  | .next (il,cw)=>(
   qR il cw)
  | .done z=>nomatch z)
def vF (m_:Int):Option Int :=
 some m_
def wj (x_:List Int)(ju:Int)(i_:Int):Option (LR (Int×Int) Int) :=
 bif decide (i_<((x_.length:Nat):Int)) then(
  (idx x_ i_).bind fun j8=>
  some (.next ((mx ju j8),w64 (i_+1))))
 else(
  some (.done ju))
def vG (x_:List Int):Option Int :=
 bif decide (((x_.length:Nat):Int)<1) then(
  none)
 else(
  (idx x_ 0).bind fun j9=>
  (loop (fun s=>wj x_ s.1 s.2) (j9,1)).bind fun t2=>
  vF t2)
def kL (x0:z6):Option Bool :=
 (jS x0).bind fun r_=>
 (vG r_.1).bind fun ah=>
 some (ah==(w64 (((r_.1.length:Nat):Int) - 1)))
def uP:Option Int :=
 some 0
def xR (m_:z6):Option Int :=
 (xF m_).bind fun r_=>
 bif r_ != 0 then(
  some r_)
 else(
  (Yw m_).bind fun ah=>
  (kN ah.1.2).bind fun al=>
  bif !al then(
   some ah.1.1)
  else(
   (kM ah.2.1.2).bind fun aw=>
   bif !aw then(
    some ah.2.1.1)
   else(
    (kL ah.2.2.2).bind fun bk=>
    bif !bk then(
     some ah.2.2.1)
    else(
     uP))))
def uJ (n_:Int):Option Int :=
 some n_
def kT {σ:Type}(x6:Int)(fq:σ):Option (LR (σ×Int) σ) :=
 some (.next (fq,w64 (x6+1)))
def uz {σ:Type}(x0:Int)(yy:σ->(Int×Int)->Option (σ×Bool))(x6:Int)(cr:σ)(b_:Int):Option (LR (σ×Int) (σ⊕σ)) :=
 bif decide (b_<x0) then(
  (yy cr (x6,b_)).bind fun yr=>
  bif !yr.2 then(
   some (.done (.inr yr.1)))
  else(
   some (.next (yr.1,w64 (b_+1)))))
 else(
  some (.done (.inl cr)))
def kS {σ:Type}(x0:Int)(yy:σ->(Int×Int)->Option (σ×Bool))(cb:σ)(x6:Int):Option (LR (σ×Int) σ) :=
 bif decide (x6<x0) then(
  (loop (fun s=>uz x0 yy x6 s.1 s.2) (cb,w64 (x6+1))).bind fun t3=>
  match t3 with
  | .inl p=>kT x6 p
  | .inr p=>some (.done p))
 else(
  some (.done cb))
def yN (x0:Int){σ:Type}(yy:σ->(Int×Int)->Option (σ×Bool))(sg:σ):Option σ :=
 (loop (fun s=>kS x0 yy s.1 s.2) (sg,0)).bind fun t1=>
 some t1
def Un (a_:Int)(b_:Int):Option Bool :=
 some true
def Zh (s_:Int)(x1:z6):Option Bool :=
 bif decide (s_<0) then(
  some true)
 else(
  some (decide (s_>=((x1.Rows.length:Nat):Int))))
def xY:Option Int :=
 some (-1)
def zZ (s_:List Int)(f_:z6)(x8:Int):Option (LR Int (Unit⊕Int)) :=
 bif decide (x8<((s_.length:Nat):Int)) then(
  (idx s_ x8).bind fun cp=>
  (Zh cp f_).bind fun r_=>
  bif r_ then(
   some (.done (.inr x8)))
  else(
   some (.next (w64 (x8+1)))))
 else(
  some (.done (.inl ())))
def yx (s_:List Int)(f_:z6):Option Int :=
 (loop (fun s=>zZ s_ f_ s) 0).bind fun t2=>
 match t2 with
 | .inl p=>xY
 | .inr p=>some p
def yR (s_:List Int)(f_:z6):Option Bool :=
 (yx s_ f_).bind fun r_=>
 some (decide (r_>=0))
def XD (m_:z6)(l_:List Int):Option Int :=
 (xF m_).bind fun r_=>
 bif r_ != 0 then(
  some r_)
 else(
  (yR l_ m_).bind fun ah=>
  bif ah then(
   some 1)
  else(
   some 0))
def U0 (m_:z6):Option z6 :=
 some m_
def kF {σ:Type}(x8:Int)(fq:σ):Option (LR (σ×Int) σ) :=
 some (.next (fq,w64 (x8+1)))
def ud {σ:Type}(x0:z6)(yy:σ->(Int×Int)->Option (σ×Bool))(x8:Int)(cr:σ)(t_:Int):Option (LR (σ×Int) (σ⊕σ)) :=
 bif decide (t_<((x0.Rows.length:Nat):Int)) then(
  (yy cr (x8,t_)).bind fun yr=>
  bif !yr.2 then(
   some (.done (.inr yr.1)))
  else(
   some (.next (yr.1,w64 (t_+1)))))
 else(
  some (.done (.inl cr)))
def kE {σ:Type}(x0:z6)(yy:σ->(Int×Int)->Option (σ×Bool))(cb:σ)(x8:Int):Option (LR (σ×Int) σ) :=
 bif decide (x8<((x0.Rows.length:Nat):Int)) then(
  (loop (fun s=>ud x0 yy x8 s.1 s.2) (cb,w64 (x8+1))).bind fun t3=>
  match t3 with
  | .inl p=>kF x8 p
  | .inr p=>some (.done p))
 else(
  some (.done cb))
def vT (x0:z6){σ:Type}(yy:σ->(Int×Int)->Option (σ×Bool))(sg:σ):Option σ :=
 (loop (fun s=>kE x0 yy s.1 s.2) (sg,0)).bind fun t1=>
 some t1
def xI (l:List Int)(n:Int):Option (List Int):=bif l.isEmpty&&(decide (0<n)&&decide (n<=1000000)) then some [] else none
def ws (gy:List Int):Option (List Int) :=
 some gy
def zM (slices:List (List Int))(ct:List Int)(jv:Int):Option (LR (List Int×Int) (List Int)) :=
 bif decide (jv<((slices.length:Nat):Int)) then(
  (idx slices jv).bind fun gc=>
  gd (ct.length+gc.length<=4294967296) <|
  some (.next ((ct++gc),w64 (jv+1))))
 else(
  some (.done ct))
def wt (slices:List (List Int))(size:Int):Option (List Int) :=
 (xI [] size).bind fun r_=>
 (loop (fun s=>zM slices s.1 s.2) (r_,0)).bind fun t3=>
 ws t3
def zL (slices:List (List Int))(gm:Int)(d9:Int):Option (LR (Int×Int) Int) :=
 bif decide (d9<((slices.length:Nat):Int)) then(
  (idx slices d9).bind fun gi=>
  bif decide ((w64 (gm+((gi.length:Nat):Int)))<0) then(
   none)
  else(
   some (.next (w64 (gm+((gi.length:Nat):Int)),w64 (d9+1)))))
 else(
  some (.done gm))
def wk (slices:List (List Int)):Option (List Int) :=
 (loop (fun s=>zL slices s.1 s.2) (0,0)).bind fun t4=>
 wt slices t4
def yb (s_:List Int):Option (List Int) :=
 gd ((0:Int)<=0/\(0:Int)<=((s_.length:Nat):Int)/\(((s_.length:Nat):Int):Int)<=((s_.length:Nat):Int)/\(((s_.length:Nat):Int):Int)<=((s_.length:Nat):Int)) <|
 some ((s_.drop 0).take (((s_.length:Nat):Int).toNat - 0))
def ua (n_:Int)(f_:ArN 64 (ArN 64 (List Int)))(out:List Int):Option (List Int×ArN 64 (ArN 64 (List Int))) :=
 bif ((out.length:Nat):Int) != n_ then(
  some ([],f_))
 else(
  (yb out).bind fun r_=>
  gd (r_≠[]) <|
  some (r_,f_))
def xO (cx:Int):Option (LR Int (List Int)) :=
 some (.next (w64 (cx+1)))
def wH (m_:z6)(t_:Int)(n_:Int)(f_:ArN 64 (ArN 64 (List Int)))(am:List z8)(cx:Int):Option (LR Int (List Int)) :=
 bif decide (cx<((am.length:Nat):Int)) then(
  (idx am cx).bind fun ak=>
  (idx m_.Rows t_).bind fun ig=>
  (idx ig cx).bind fun bj=>
  bif ak.Out != bj.Out then(
   some (.done ([cx]:List Int)))
  else(
   bif decide (n_ > 1) then(
    bif ak.To !=(-1) then(
     (idx (f_.l) ak.To).bind fun cell=>
     (idx (cell.l) bj.To).bind fun a6=>
     bif ((a6.length:Nat):Int)==(w64 (n_ - 1)) then(
      (idx (f_.l) ak.To).bind fun dt=>
      (idx (dt.l) bj.To).bind fun d6=>
      (wk ([[cx],d6])).bind fun ah=>
      some (.done ah))
     else(
      xO cx))
    else(
     xO cx))
   else(
    xO cx)))
 else(
  some (.done ([]:List Int)))
def ue (m_:z6)(s_:Int)(t_:Int)(n_:Int)(f_:ArN 64 (ArN 64 (List Int))):Option (List Int×ArN 64 (ArN 64 (List Int))) :=
 (idx m_.Rows s_).bind fun am=>
 (loop (fun s=>wH m_ t_ n_ f_ am s) 0).bind fun t2=>
 ua n_ f_ t2
def qh (s_:Int)(t_:Int)(w_:List Int)(f_:ArN 64 (ArN 64 (List Int))):Option (ArN 64 (ArN 64 (List Int))) :=
 (idx (f_.l) s_).bind fun cell=>
 (idx (cell.l) t_).bind fun a6=>
 (some (ArN.setI cell t_ w_)).bind fun arr=>
 (some (ArN.setI f_ s_ arr)).bind fun arr1=>
 (idx (arr1.l) t_).bind fun dt=>
 (idx (dt.l) s_).bind fun d6=>
 (some (ArN.setI dt s_ w_)).bind fun arr2=>
 (some (ArN.setI arr1 t_ arr2)).bind fun ka=>
 some ka
def uN (f_:ArN 64 (ArN 64 (List Int))):Option (ArN 64 (ArN 64 (List Int))) :=
 some f_
def uM (n_:Int)(ko:ArN 64 (ArN 64 (List Int))):Option (LR (ArN 64 (ArN 64 (List Int))×Int) (ArN 64 (ArN 64 (List Int)))) :=
 some (.next (ko,w64 (n_+1)))
def wV (now:List zG)(iz:ArN 64 (ArN 64 (List Int)))(jw:Int):Option (LR (ArN 64 (ArN 64 (List Int))×Int) (ArN 64 (ArN 64 (List Int)))) :=
 bif decide (jw<((now.length:Nat):Int)) then(
  (idx now jw).bind fun cg=>
  (qh cg.S cg.T cg.Word iz).bind fun r_=>
  some (.next (r_,w64 (jw+1))))
 else(
  some (.done iz))
def uL (n_:Int)(kp:ArN 64 (ArN 64 (List Int)))(now:List zG):Option (LR (ArN 64 (ArN 64 (List Int))×Int) (ArN 64 (ArN 64 (List Int)))) :=
 (loop (fun s=>wV now s.1 s.2) (kp,0)).bind fun t5=>
 uM n_ t5
def xw (m_:z6)(n_:Int)(dx:ArN 64 (ArN 64 (List Int)))(dc:List zG)(em:Int)(bc:Int):Option (LR (ArN 64 (ArN 64 (List Int))×List zG) Empty) :=
 (idx (dx.l) em).bind fun cell=>
 (idx (cell.l) bc).bind fun a6=>
 bif !a6.isEmpty then(
  some (.next (dx,dc)))
 else(
  (ue m_ em bc n_ dx).bind fun al=>
  bif !al.1.isEmpty then(
   gd (dc.length+([(zG.mk em bc al.1 false)]:List zG).length<=4294967296) <|
   some (.next (al.2,(dc++([(zG.mk em bc al.1 false)]:List zG)))))
  else(
   some (.next (al.2,dc))))
def uK (m_:z6)(im:ArN 64 (ArN 64 (List Int)))(n_:Int):Option (LR (ArN 64 (ArN 64 (List Int))×Int) (ArN 64 (ArN 64 (List Int)))) :=
 bif decide (n_<(mx ((m_.Rows.length:Nat):Int) 2)) then(
  (U0 m_).bind fun ah=>
  (vT ah (yOf (fun s x=>xw m_ n_ s.1 s.2 x.1 x.2)) (.next (im,([]:List zG)))).bind fun t6=>
  match t6 with
  | .next (dx,dc)=>(
   uL n_ dx dc)
  | .done z=>nomatch z)
 else(
  some (.done im))
def qg (m_:z6):Option (ArN 64 (ArN 64 (List Int))) :=
 (loop (fun s=>uK m_ s.1 s.2) ((ArN.rep 64 (ArN.rep 64 ([]:List Int))),1)).bind fun t2=>
 uN t2
def yu (s_:List Int):Option (List Int) :=
 gd (([]:List Int).length+s_.length<=4294967296) <|
 some s_
def uf (m_:z6)(s_:Int)(t_:Int):Option (List Int×Bool×Int) :=
 (XD m_ ([s_,t_])).bind fun r_=>
 bif r_ != 0 then(
  some (([]:List Int),false,r_))
 else(
  (qg m_).bind fun ah=>
  (idx (ah.l) s_).bind fun cell=>
  (idx (cell.l) t_).bind fun a6=>
  (yu a6).bind fun al=>
  (yb al).bind fun aw=>
  some (aw,decide (((aw.length:Nat):Int) > 0),0))
def Wp (c_:Int)(x1:Int):Option Bool :=
 bif decide (c_<0) then(
  some true)
 else(
  some (decide (c_>=x1)))
def v6:Option Int :=
 some (-1)
def yg (s_:List Int)(f_:Int)(x8:Int):Option (LR Int (Unit⊕Int)) :=
 bif decide (x8<((s_.length:Nat):Int)) then(
  (idx s_ x8).bind fun cp=>
  (Wp cp f_).bind fun r_=>
  bif r_ then(
   some (.done (.inr x8)))
  else(
   some (.next (w64 (x8+1)))))
 else(
  some (.done (.inl ())))
def wr (s_:List Int)(f_:Int):Option Int :=
 (loop (fun s=>yg s_ f_ s) 0).bind fun t2=>
 match t2 with
 | .inl p=>v6
 | .inr p=>some p
def xK (s_:List Int)(f_:Int):Option Bool :=
 (wr s_ f_).bind fun r_=>
 some (decide (r_>=0))
def ZH (w_:List Int)(inputs:Int):Option Int :=
 bif decide (inputs > 16) then(
  some 3)
 else(
  bif decide (((w_.length:Nat):Int) > 256) then(
   some 3)
  else(
   bif decide (inputs<1) then(
    some 1)
   else(
    (xK w_ inputs).bind fun r_=>
    bif r_ then(
     some 1)
    else(
     some 0))))
def Uw:Option Int :=
 some 0
def qC (l_:List (List Int))(inputs:Int)(jx:Int):Option (LR Int (Unit⊕Int)) :=
 bif decide (jx<((l_.length:Nat):Int)) then(
  (idx l_ jx).bind fun bq=>
  (ZH bq inputs).bind fun r_=>
  bif r_ != 0 then(
   some (.done (.inr r_)))
  else(
   some (.next (w64 (jx+1)))))
 else(
  some (.done (.inl ())))
def YX (l_:List (List Int))(inputs:Int):Option Int :=
 bif decide (inputs > 16) then(
  some 3)
 else(
  bif decide (((l_.length:Nat):Int) > 4096) then(
   some 3)
  else(
   bif decide (inputs<1) then(
    some 1)
   else(
    (loop (fun s=>qC l_ inputs s) 0).bind fun t2=>
    match t2 with
    | .inl p=>Uw
    | .inr p=>some p)))
def vH (s_:List (List Int)):Option (List (List Int)) :=
 gd (([]:List (List Int)).length+s_.length<=4294967296) <|
 some s_
def YI (x_:Int):Option Bool :=
 some (x_ != x_)
def uC (x_:Int)(y_:Int):Option Int :=
 (YI x_).bind fun r_=>
 (YI y_).bind fun ah=>
 bif r_ then(
  bif ah then(
   some 0)
  else(
   some (-1)))
 else(
  bif ah then(
   some 1)
  else(
   bif decide (x_<y_) then(
    some (-1))
   else(
    bif decide (x_ > y_) then(
     some 1)
    else(
     some 0))))
def w9 (s1:List Int)(s2:List Int):Option Int :=
 bif decide (((s1.length:Nat):Int)<((s2.length:Nat):Int)) then(
  some (-1))
 else(
  some 0)
def yq (s1:List Int)(s2:List Int)(d9:Int):Option (LR Int (Unit⊕Int)) :=
 bif decide (d9<((s1.length:Nat):Int)) then(
  (idx s1 d9).bind fun ft=>
  bif decide (d9>=((s2.length:Nat):Int)) then(
   some (.done (.inr 1)))
  else(
   (idx s2 d9).bind fun dp=>
   (uC ft dp).bind fun r_=>
   bif r_ != 0 then(
    some (.done (.inr r_)))
   else(
    some (.next (w64 (d9+1))))))
 else(
  some (.done (.inl ())))
def xT (s1:List Int)(s2:List Int):Option Int :=
 (loop (fun s=>yq s1 s2 s) 0).bind fun t2=>
 match t2 with
 | .inl p=>w9 s1 s2
 | .inr p=>some p
def WC:Option Int :=
 some 0
def kV (vals:List Int)(x8:Int):Option (LR Int (Unit⊕Int)) :=
 bif decide (x8<((vals.length:Nat):Int)) then(
  (idx vals x8).bind fun kb=>
  bif kb != 0 then(
   some (.done (.inr kb)))
  else(
   some (.next (w64 (x8+1)))))
 else(
  some (.done (.inl ())))
def Q2 (vals:List Int):Option Int :=
 (loop (fun s=>kV vals s) 0).bind fun t2=>
 match t2 with
 | .inl p=>WC
 | .inr p=>some p
def xv (a_:List Int)(b_:List Int):Option Int :=
 (uC ((a_.length:Nat):Int) ((b_.length:Nat):Int)).bind fun r_=>
 (xT a_ b_).bind fun ah=>
 (Q2 ([r_,ah])).bind fun al=>
 some al
def qB (a_:List Int)(b_:List Int):Option Bool :=
 (xv a_ b_).bind fun r_=>
 some (r_==0)
def wl (s_:List (List Int)):Option (List (List Int)) :=
 some s_
def xe (k_:Int):Option (LR Int (Unit⊕List (List Int))) :=
 some (.next (w64 (k_+1)))
def y7 (az:List (List Int))(a8:Int):Option (LR Int (Unit⊕List (List Int))) :=
 gd ((0:Int)<=a8/\(a8:Int)<=((az.length:Nat):Int)) <|
 gd ((0:Int)<=a8/\(a8:Int)<=((az.length:Nat):Int)) <|
 gd ((0:Int)<=a8/\(a8:Int)<=(((az.take a8.toNat++List.replicate (az.length - a8.toNat) []).length:Nat):Int)) <|
 some (.done (.inr ((az.take a8.toNat++List.replicate (az.length - a8.toNat) []).take a8.toNat)))
def y6 (k2:Int)(kq:List (List Int))(kr:Int):Option (LR (List (List Int)×Int×Int) ((List (List Int)×Int))) :=
 some (.next (kq,kr,w64 (k2+1)))
def y5 (k_:Int)(bg:List (List Int))(ee:Int)(k2:Int):Option (LR (List (List Int)×Int×Int) ((List (List Int)×Int))) :=
 bif decide (k2<((bg.length - k_.toNat:Nat):Int)) then(
  gd ((0:Int)<=k_/\(0:Int)<=k2) <|
  (idx bg (k_+k2)).bind fun ji=>
  gd ((0:Int)<=k_/\(0:Int)<=w64 (k2 - 1)) <|
  (idx bg (k_+(w64 (k2 - 1)))).bind fun jj=>
  (qB ji jj).bind fun ah=>
  bif !ah then(
   gd ((0:Int)<=k_/\(0:Int)<=k2) <|
   (idx bg (k_+k2)).bind fun jk=>
   (idx bg ee).bind fun l7=>
   y6 k2 (bg.set ee.toNat jk) (w64 (ee+1)))
  else(
   y6 k2 bg ee))
 else(
  some (.done (bg,ee)))
def yi (s_:List (List Int))(k_:Int):Option (LR Int (Unit⊕List (List Int))) :=
 bif decide (k_<((s_.length:Nat):Int)) then(
  (idx s_ k_).bind fun cp=>
  (idx s_ (w64 (k_ - 1))).bind fun jl=>
  (qB cp jl).bind fun r_=>
  bif r_ then(
   gd ((0:Int)<=k_/\(k_:Int)<=((s_.length:Nat):Int)) <|
   (loop (fun s=>y5 k_ s.1 s.2.1 s.2.2) (s_,k_,1)).bind fun t5=>
   y7 t5.1 t5.2)
  else(
   xe k_))
 else(
  some (.done (.inl ())))
def yI (s_:List (List Int))(eq:Unit):Option (List (List Int)) :=
 bif decide (((s_.length:Nat):Int)<2) then(
  some s_)
 else(
  (loop (fun s=>yi s_ s) 1).bind fun t2=>
  match t2 with
  | .inl p=>wl s_
  | .inr p=>some p)
def xL (s_:List (List Int)):Option (List (List Int)) :=
 some s_
def Uv (n_:Int):Option Int :=
 some n_
def qA (l_:List (List Int))(cw:Int)(x7:Int):Option (LR (Int×Int) Int) :=
 bif decide (x7<((l_.length:Nat):Int)) then(
  (idx l_ x7).bind fun bq=>
  some (.next (w64 (cw+((bq.length:Nat):Int)),w64 (x7+1))))
 else(
  some (.done cw))
def YW (l_:List (List Int)):Option Int :=
 (loop (fun s=>qA l_ s.1 s.2) (0,0)).bind fun t2=>
 Uv t2
def Y5 (out:List (List Int×Bool)):Option (List (List Int)×Int) :=
 gd (∀q∈out,q.2=true) <|
 some ((out.map (·.1)),0)
def we (al:List (List Int))(ay:List (List Int×Bool))(bc:Int):Option (LR ((List (List Int×Bool))×Int) ((List (List Int×Bool)))) :=
 bif decide (bc<((al.length - (0:Int).toNat:Nat):Int)) then(
  gd ((0:Int)<=0/\(0:Int)<=bc) <|
  (idx ay (0+bc)).bind fun bp=>
  (yu bp.1).bind fun bk=>
  (yb bk).bind fun dg=>
  (idx ay bc).bind fun dm=>
  some (.next ((ay.set bc.toNat (dg,true)),w64 (bc+1))))
 else(
  some (.done ay))
def XC (l_:List (List Int)):Option (List (List Int)×Int) :=
 (vH l_).bind fun r_=>
 (zbV (fun x y=>xv x y) r_).bind fun sorted=>
 (yI sorted ()).bind fun ah=>
 (xL ah).bind fun al=>
 bif decide (((al.length:Nat):Int) > 4096) then(
  some (([]:List (List Int)),3))
 else(
  (YW al).bind fun aw=>
  bif decide (aw > 65536) then(
   some (([]:List (List Int)),3))
  else(
   (loop (fun s=>we al s.1 s.2) ((al.map fun q=>(q,false)),0)).bind fun t2=>
   Y5 t2))
def WL (l_:List (List Int))(inputs:Int):Option (List (List Int)×Int) :=
 (YX l_ inputs).bind fun r_=>
 bif r_ != 0 then(
  some (([]:List (List Int)),r_))
 else(
  (XC l_).bind fun ah=>
  some (ah.1,ah.2))
def YC (m_:z6)(x5:Int)(out:List (List Int)):Option (List (List Int)×Int) :=
 (WL out m_.Inputs).bind fun r_=>
 some (r_.1,r_.2)
def uw (m_:z6)(br:Int)(ai:List (List Int))(bo:Int)(ap:Int):Option (LR (Int×List (List Int)) ((Int×List (List Int)))) :=
 (Un bo ap).bind fun al=>
 bif !al then(
  some (.next (br,ai)))
 else(
  (uf m_ bo ap).bind fun aw=>
  bif aw.2.2 != 0 then(
   some (.done (aw.2.2,ai)))
  else(
   gd (ai.length+([aw.1]:List (List Int)).length<=4294967296) <|
   some (.next (br,(ai++([aw.1]:List (List Int)))))))
def XN (m_:z6)(is:Unit):Option (List (List Int)×Int) :=
 (uJ ((m_.Rows.length:Nat):Int)).bind fun ah=>
 (yN ah (yOf (fun s x=>uw m_ s.1 s.2 x.1 x.2)) (.next (0,([]:List (List Int))))).bind fun t2=>
 match t2 with
 | .next (br,ai)=>(
  YC m_ br ai)
 | .done (br,ai)=>(
  some (([]:List (List Int)),br))
def Xe (m_:z6):Option (List (List Int)×Int) :=
 (xR m_).bind fun r_=>
 bif r_ != 0 then(
  some (([]:List (List Int)),r_))
 else(
  (XN m_ ()).bind fun ah=>
  some (ah.1,ah.2))
def Uj (out:List Int):Option (List Int) :=
 some out
def XM (m_:z6)(w_:List Int)(az:Int)(ai:List Int)(k_:Int):Option (LR (Int×List Int×Int) (List Int)) :=
 bif decide (k_<((w_.length:Nat):Int)) then(
  (idx w_ k_).bind fun fe=>
  (WP m_ az fe).bind fun r_=>
  gd (ai.length+([r_.Out]:List Int).length<=4294967296) <|
  some (.next (r_.To,(ai++([r_.Out]:List Int)),w64 (k_+1))))
 else(
  some (.done ai))
def UT (m_:z6)(s_:Int)(w_:List Int):Option (List Int) :=
 (loop (fun s=>XM m_ w_ s.1 s.2.1 s.2.2) (s_,([]:List Int),0)).bind fun t2=>
 Uj t2
def ZB:Option Int :=
 some 0
def vA (a_:List Int)(b_:List Int)(i_:Int):Option (LR Int (Unit⊕Int)) :=
 bif decide (i_<((a_.length:Nat):Int)) then(
  (idx a_ i_).bind fun ff=>
  (idx b_ i_).bind fun fg=>
  bif decide (ff<fg) then(
   some (.done (.inr (-1))))
  else(
   (idx a_ i_).bind fun gk=>
   (idx b_ i_).bind fun gl=>
   bif decide (gk > gl) then(
    some (.done (.inr 1)))
   else(
    some (.next (w64 (i_+1))))))
 else(
  some (.done (.inl ())))
def Wu (a_:List Int)(b_:List Int):Option Int :=
 bif decide (((a_.length:Nat):Int)<((b_.length:Nat):Int)) then(
  some (-1))
 else(
  bif decide (((a_.length:Nat):Int) > ((b_.length:Nat):Int)) then(
   some 1)
  else(
   (loop (fun s=>vA a_ b_ s) 0).bind fun t2=>
   match t2 with
   | .inl p=>ZB
   | .inr p=>some p))
def UU (a_:List Int)(b_:List Int):Option Bool :=
 (Wu a_ b_).bind fun r_=>
 some (r_==0)
def XJ (m_:z6)(w_:List Int)(s_:Int)(t_:Int):Option Int :=
 (UT m_ s_ w_).bind fun r_=>
 (UT m_ t_ w_).bind fun ah=>
 (UU r_ ah).bind fun al=>
 bif al then(
  some 0)
 else(
  some 1)
def Qr (out:List Int):Option (List Int) :=
 gd (out.length+([0]:List Int).length<=4294967296) <|
 some (out++([0]:List Int))
def Qq (inputs:Int)(ai:List Int)(k_:Int):Option (LR (List Int×Int) (List Int⊕List Int)) :=
 bif decide (k_>=0) then(
  (idx ai k_).bind fun bp=>
  bif decide ((w64 (bp+1))<inputs) then(
   (idx ai k_).bind fun dm=>
   (idx ai k_).bind fun jr=>
   some (.done (.inr (ai.set k_.toNat (w64 (dm+1))))))
  else(
   (idx ai k_).bind fun js=>
   some (.next ((ai.set k_.toNat 0),w64 (k_ - 1)))))
 else(
  some (.done (.inl ai)))
def Kj (w_:List Int)(inputs:Int):Option (List Int) :=
 gd (([]:List Int).length+w_.length<=4294967296) <|
 (loop (fun s=>Qq inputs s.1 s.2) (w_,w64 (((w_.length:Nat):Int) - 1))).bind fun t2=>
 match t2 with
 | .inl p=>Qr p
 | .inr p=>some p
def X8:Option (List Int×Bool) :=
 some (([]:List Int),false)
def kI (m_:z6)(s_:Int)(t_:Int)(w_:List Int):Option (LR (List Int) (Unit⊕(List Int×Bool))) :=
 bif decide (((w_.length:Nat):Int)<(mx ((m_.Rows.length:Nat):Int) 2)) then(
  (XJ m_ w_ s_ t_).bind fun r_=>
  bif r_==1 then(
   some (.done (.inr (w_,true))))
  else(
   (Kj w_ m_.Inputs).bind fun ah=>
   some (.next ah)))
 else(
  some (.done (.inl ())))
def wb (m_:z6)(s_:Int)(t_:Int):Option (List Int×Bool) :=
 (loop (fun s=>kI m_ s_ t_ s) ([]:List Int)).bind fun t2=>
 match t2 with
 | .inl p=>X8
 | .inr p=>some p
def W9:Option Int :=
 some 0
def qo (a_:List Int)(b_:List Int)(i_:Int):Option (LR Int (Unit⊕Int)) :=
 bif decide (i_<((a_.length:Nat):Int)) then(
  (idx a_ i_).bind fun ff=>
  (idx b_ i_).bind fun fg=>
  bif decide (ff<fg) then(
   some (.done (.inr (-1))))
  else(
   (idx a_ i_).bind fun gk=>
   (idx b_ i_).bind fun gl=>
   bif decide (gk > gl) then(
    some (.done (.inr 1)))
   else(
    some (.next (w64 (i_+1))))))
 else(
  some (.done (.inl ())))
def uO (a_:List Int)(b_:List Int):Option Int :=
 bif ((a_.length:Nat):Int) !=((b_.length:Nat):Int) then(
  bif decide (((a_.length:Nat):Int)<((b_.length:Nat):Int)) then(
   some (-1))
  else(
   some 1))
 else(
  (loop (fun s=>qo a_ b_ s) 0).bind fun t2=>
  match t2 with
  | .inl p=>W9
  | .inr p=>some p)
def Uc (w_:List Int)(cn:Int)(dw:List (List Int)):Option (List (List Int)) :=
 gd (([]:List Int).length+w_.length<=4294967296) <|
 (idx dw cn).bind fun bq=>
 some (dw.set cn.toNat w_)
def XG (cn:Int)(fy:List (List Int))(i_:Int):Option (LR (List (List Int)×Int) (List (List Int))) :=
 bif decide (i_ > cn) then(
  (idx fy (w64 (i_ - 1))).bind fun ga=>
  (idx fy i_).bind fun l8=>
  some (.next ((fy.set i_.toNat ga),w64 (i_ - 1))))
 else(
  some (.done fy))
def ZU (l_:List (List Int))(w_:List Int)(cn:Int):Option (List (List Int)) :=
 gd (l_.length+([[]]:List (List Int)).length<=4294967296) <|
 (loop (fun s=>XG cn s.1 s.2) ((l_++([[]]:List (List Int))),w64 ((((l_++([[]]:List (List Int))).length:Nat):Int) - 1))).bind fun t4=>
 Uc w_ cn t4
def Ud (l_:List (List Int))(w_:List Int)(cn:Int):Option (List (List Int)) :=
 bif decide (cn<((l_.length:Nat):Int)) then(
  (idx l_ cn).bind fun jn=>
  (uO jn w_).bind fun r_=>
  bif r_==0 then(
   some l_)
  else(
   ZU l_ w_ cn))
 else(
  ZU l_ w_ cn)
def XF (l_:List (List Int))(w_:List Int)(fj:Int)(gj:Int):Option (LR (Int×Int) Int) :=
 bif decide (fj<gj) then(
  gd ((2:Int)≠0) <|
  (idx l_ (w64 (Int.tdiv (w64 (fj+gj)) 2))).bind fun jo=>
  (uO jo w_).bind fun ah=>
  bif decide (ah<0) then(
   some (.next (w64 ((w64 (Int.tdiv (w64 (fj+gj)) 2))+1),gj)))
  else(
   some (.next (fj,w64 (Int.tdiv (w64 (fj+gj)) 2)))))
 else(
  some (.done fj))
def JC (l_:List (List Int))(w_:List Int):Option (List (List Int)) :=
 (loop (fun s=>XF l_ w_ s.1 s.2) (0,((l_.length:Nat):Int))).bind fun t5=>
 Ud l_ w_ t5
def Qp (out:List (List Int)):Option (List (List Int)) :=
 some out
def vJ (l_:List (List Int))(ai:List (List Int))(i_:Int):Option (LR (List (List Int)×Int) (List (List Int))) :=
 bif decide (i_<((l_.length:Nat):Int)) then(
  (idx l_ i_).bind fun bq=>
  (JC ai bq).bind fun r_=>
  some (.next (r_,w64 (i_+1))))
 else(
  some (.done ai))
def WN (l_:List (List Int)):Option (List (List Int)) :=
 (loop (fun s=>vJ l_ s.1 s.2) (([]:List (List Int)),0)).bind fun t2=>
 Qp t2
def Xr (out:List (List Int)):Option (List (List Int)) :=
 (WN out).bind fun r_=>
 some r_
def Xq (a_:Int)(ay:List (List Int)):Option (LR (List (List Int)×Int) (List (List Int))) :=
 some (.next (ay,w64 (a_+1)))
def wa (b_:Int)(gg:List (List Int)):Option (LR (List (List Int)×Int) (List (List Int))) :=
 some (.next (gg,w64 (b_+1)))
def Zi (m_:z6)(s_:Int)(a_:Int)(bv:List (List Int))(b_:Int):Option (LR (List (List Int)×Int) (List (List Int))) :=
 bif decide (b_<((m_.Rows.length:Nat):Int)) then(
  bif decide (s_<0) then(
   (wb m_ a_ b_).bind fun ah=>
   gd (bv.length+([ah.1]:List (List Int)).length<=4294967296) <|
   wa b_ (bv++([ah.1]:List (List Int))))
  else(
   bif a_==s_ then(
    (wb m_ a_ b_).bind fun al=>
    gd (bv.length+([al.1]:List (List Int)).length<=4294967296) <|
    wa b_ (bv++([al.1]:List (List Int))))
   else(
    bif b_==s_ then(
     (wb m_ a_ b_).bind fun aw=>
     gd (bv.length+([aw.1]:List (List Int)).length<=4294967296) <|
     wa b_ (bv++([aw.1]:List (List Int))))
    else(
     wa b_ bv))))
 else(
  some (.done bv))
def Xp (m_:z6)(s_:Int)(ai:List (List Int))(a_:Int):Option (LR (List (List Int)×Int) (List (List Int))) :=
 bif decide (a_<((m_.Rows.length:Nat):Int)) then(
  (loop (fun s=>Zi m_ s_ a_ s.1 s.2) (ai,w64 (a_+1))).bind fun t4=>
  Xq a_ t4)
 else(
  some (.done ai))
def X7 (m_:z6)(s_:Int):Option (List (List Int)) :=
 (loop (fun s=>Xp m_ s_ s.1 s.2) (([]:List (List Int)),0)).bind fun t2=>
 Xr t2
def z1h (m_:z6):Option (List (List Int)) :=
 (X7 m_ (-1)).bind fun r_=>
 some r_
def Wt:Option Bool :=
 some true
def kH (a_:List (List Int))(b_:List (List Int))(i_:Int):Option (LR Int (Unit⊕Bool)) :=
 bif decide (i_<((a_.length:Nat):Int)) then(
  (idx a_ i_).bind fun ff=>
  (idx b_ i_).bind fun fg=>
  (uO ff fg).bind fun r_=>
  bif r_ != 0 then(
   some (.done (.inr false)))
  else(
   some (.next (w64 (i_+1)))))
 else(
  some (.done (.inl ())))
def WO (a_:List (List Int))(b_:List (List Int)):Option Bool :=
 bif ((a_.length:Nat):Int) !=((b_.length:Nat):Int) then(
  some false)
 else(
  (loop (fun s=>kH a_ b_ s) 0).bind fun t2=>
  match t2 with
  | .inl p=>Wt
  | .inr p=>some p)
def wU (a_:List (List Int))(b_:List (List Int)):Option Bool :=
 (WO a_ b_).bind fun r_=>
 bif r_ then(
  some (((a_.length:Nat):Int)==((a_.length:Nat):Int)))
 else(
  some false)
def Vp (a_:Int)(b_:Int)(x2:Int):Option Bool :=
 bif a_==x2 then(
  some true)
 else(
  some (b_==x2))
def uV (m_:z6)(x5:Int)(out:List (List Int)):Option (List (List Int)×Int) :=
 (WL out m_.Inputs).bind fun r_=>
 some (r_.1,r_.2)
def yK (m_:z6)(is:Int)(br:Int)(ai:List (List Int))(bo:Int)(ap:Int):Option (LR (Int×List (List Int)) ((Int×List (List Int)))) :=
 (Vp bo ap is).bind fun al=>
 bif !al then(
  some (.next (br,ai)))
 else(
  (uf m_ bo ap).bind fun aw=>
  bif aw.2.2 != 0 then(
   some (.done (aw.2.2,ai)))
  else(
   gd (ai.length+([aw.1]:List (List Int)).length<=4294967296) <|
   some (.next (br,(ai++([aw.1]:List (List Int)))))))
def qw (m_:z6)(is:Int):Option (List (List Int)×Int) :=
 (uJ ((m_.Rows.length:Nat):Int)).bind fun ah=>
 (yN ah (yOf (fun s x=>yK m_ is s.1 s.2 x.1 x.2)) (.next (0,([]:List (List Int))))).bind fun t2=>
 match t2 with
 | .next (br,ai)=>(
  uV m_ br ai)
 | .done (br,ai)=>(
  some (([]:List (List Int)),br))
def XP (m_:z6)(s_:Int):Option (List (List Int)×Int) :=
 (xR m_).bind fun r_=>
 bif r_ != 0 then(
  some (([]:List (List Int)),r_))
 else(
  bif decide (s_<0) then(
   some (([]:List (List Int)),1))
  else(
   bif decide (s_>=((m_.Rows.length:Nat):Int)) then(
    some (([]:List (List Int)),1))
   else(
    (qw m_ s_).bind fun ah=>
    some (ah.1,ah.2))))
def z3W (m_:z6)(s_:Int):Option (List (List Int)) :=
 (X7 m_ s_).bind fun r_=>
 some r_
def Qw:Option z6 :=
 some (z6.mk 2 2 ([[(z8.mk 1 0),(z8.mk 0 0)],[(z8.mk 2 0),(z8.mk 1 1)],[(z8.mk 0 1),(z8.mk 2 0)]]))
def Xb (l_:List (List Int)):Option (List (List Int)) :=
 some l_
def UI (m_:z6)(s_:Int):Option Int :=
 (xF m_).bind fun r_=>
 bif r_ != 0 then(
  some r_)
 else(
  bif decide (s_<0) then(
   some 1)
  else(
   bif decide (s_>=((m_.Rows.length:Nat):Int)) then(
    some 1)
   else(
    some 0)))
def Vl (az:Int)(out:List Int):Option (List Int×Int) :=
 some (out,az)
def Yy (ai:List Int)(ap:Int)(d8:Int)(ik:Int):Option (LR (Int×List Int×Int) ((Int×List Int))) :=
 (idx ai ap).bind fun bp=>
 some (.next (d8,(ai.set ap.toNat ik),w64 (ap+1)))
def Vk (m_:z6)(w_:List Int)(bg:Int)(ai:List Int)(ap:Int):Option (LR (Int×List Int×Int) ((Int×List Int))) :=
 bif decide (ap<((w_.length:Nat):Int)) then(
  (idx w_ ap).bind fun fe=>
  (uT).bind fun r_=>
  bif bg !=(-1) then(
   (idx m_.Rows bg).bind fun am=>
   (idx am fe).bind fun ak=>
   Yy ai ap ak.To ak.Out)
  else(
   Yy ai ap r_.To r_.Out))
 else(
  some (.done (bg,ai)))
def JJ (m_:z6)(s_:Int)(w_:List Int):Option (List Int×Int) :=
 gd ((0:Int)<=((w_.length:Nat):Int)/\(((w_.length:Nat):Int):Int)<=4294967296) <|
 (loop (fun s=>Vk m_ w_ s.1 s.2.1 s.2.2) (s_,(List.replicate ((w_.length:Nat):Int).toNat (0:Int)),0)).bind fun t2=>
 Vl t2.1 t2.2
def JK (m_:z6)(s_:Int)(w_:List Int):Option (List Int×Int) :=
 (UI m_ s_).bind fun r_=>
 bif r_ != 0 then(
  some (([]:List Int),r_))
 else(
  (ZH w_ m_.Inputs).bind fun ah=>
  bif ah != 0 then(
   some (([]:List Int),ah))
  else(
   (JJ m_ s_ w_).bind fun al=>
   some (al.1,0)))
def xy (s_:List (List Int)):Option (List (List Int)) :=
 some s_
def ZO (out:List (List Int)):Option (List (List Int)) :=
 (xy out).bind fun r_=>
 some r_
def ZN (m_:z6)(l_:List (List Int))(s_:Int)(ai:List (List Int))(ce:Int):Option (LR (List (List Int)×Int) (List (List Int))) :=
 bif decide (ce<((l_.length:Nat):Int)) then(
  (idx l_ ce).bind fun bq=>
  (JK m_ s_ bq).bind fun ah=>
  gd (ai.length+([ah.1]:List (List Int)).length<=4294967296) <|
  some (.next ((ai++([ah.1]:List (List Int))),w64 (ce+1))))
 else(
  some (.done ai))
def wB (m_:z6)(l_:List (List Int))(s_:Int):Option (List (List Int)) :=
 (loop (fun s=>ZN m_ l_ s_ s.1 s.2) (([]:List (List Int)),0)).bind fun t2=>
 ZO t2
def YD (x_:List Int)(y_:List Int):Option Bool :=
 (xP x_ y_).bind fun r_=>
 some r_
def xm:Option Bool :=
 some true
def xk (s1:List (List Int))(s2:List (List Int))(ap:Int):Option (LR Int (Unit⊕Bool)) :=
 bif decide (ap<((s1.length:Nat):Int)) then(
  (idx s1 ap).bind fun ft=>
  (idx s2 ap).bind fun dp=>
  (YD ft dp).bind fun r_=>
  bif !r_ then(
   some (.done (.inr false)))
  else(
   some (.next (w64 (ap+1)))))
 else(
  some (.done (.inl ())))
def xJ (s1:List (List Int))(s2:List (List Int))(eq:Unit):Option Bool :=
 bif ((s1.length:Nat):Int) !=((s2.length:Nat):Int) then(
  some false)
 else(
  (loop (fun s=>xk s1 s2 s) 0).bind fun t2=>
  match t2 with
  | .inl p=>xm
  | .inr p=>some p)
def qz (a_:List (List Int))(b_:List (List Int)):Option Bool :=
 (xJ a_ b_ ()).bind fun r_=>
 some r_
def ZR (out:List Int):Option (List Int) :=
 some out
def ZQ (ai:List Int)(gz:Int):Option (LR (List Int) Empty) :=
 gd (ai.length+([gz]:List Int).length<=4294967296) <|
 some (.next (ai++([gz]:List Int)))
def uW (ap:Int)(i3:Int):Option (LR (Int×Int) Int) :=
 some (.next (i3,w64 (ap+1)))
def ZP (m_:z6)(w_:List (List Int))(cq:Int)(ce:Int)(fm:Int)(ap:Int):Option (LR (Int×Int) Int) :=
 bif decide (ap<((w_.length:Nat):Int)) then(
  gd ((0:Int)<=ap/\(ap:Int)<=w64 (ap+1)/\(w64 (ap+1):Int)<=((w_.length:Nat):Int)) <|
  (wB m_ ((w_.drop ap.toNat).take ((w64 (ap+1)).toNat - ap.toNat)) cq).bind fun ah=>
  gd ((0:Int)<=ap/\(ap:Int)<=w64 (ap+1)/\(w64 (ap+1):Int)<=((w_.length:Nat):Int)) <|
  (wB m_ ((w_.drop ap.toNat).take ((w64 (ap+1)).toNat - ap.toNat)) ce).bind fun al=>
  (qz ah al).bind fun aw=>
  bif !aw then(
   gd ((0:Int)<=ap) <|
   uW ap (orK .u64 fm (z78 .u64 1 ap)))
  else(
   uW ap fm))
 else(
  some (.done fm))
def uX (m_:z6)(w_:List (List Int))(ai:List Int)(cq:Int)(ce:Int):Option (LR (List Int) Empty) :=
 (loop (fun s=>ZP m_ w_ cq ce s.1 s.2) (0,0)).bind fun t4=>
 ZQ ai t4
def Wa (m_:z6)(w_:List (List Int)):Option (List Int) :=
 (uJ ((m_.Rows.length:Nat):Int)).bind fun r_=>
 (yN r_ (yOf (fun s x=>uX m_ w_ s x.1 x.2)) (.next ([]:List Int))).bind fun t2=>
 match t2 with
 | .next ai=>(
  ZR ai)
 | .done z=>nomatch z
def um (ll:Int):Option Int :=
 some (z7N .i64 (w64 (ll)) 127)
def uo (jd:Int):Option Int :=
 um (IntKind.u64.wrap (jd+(Int.fdiv jd (2 ^ 32))))
def uq (je:Int):Option Int :=
 uo (IntKind.u64.wrap (je+(Int.fdiv je (2 ^ 16))))
def ur (jf:Int):Option Int :=
 uq (IntKind.u64.wrap (jf+(Int.fdiv jf (2 ^ 8))))
def ut (jg:Int):Option Int :=
 ur (z7N .u64 (IntKind.u64.wrap ((Int.fdiv jg (2 ^ 4))+jg)) 1085102592571150095)
def uu (jh:Int):Option Int :=
 ut (IntKind.u64.wrap ((z7N .u64 (Int.fdiv jh (2 ^ 2)) 3689348814741910323)+(z7N .u64 jh 3689348814741910323)))
def jX (x_:Int):Option Int :=
 uu (IntKind.u64.wrap ((z7N .u64 (Int.fdiv x_ (2 ^ 1)) 6148914691236517205)+(z7N .u64 x_ 6148914691236517205)))
def uS (x_:Int):Option Int :=
 (jX x_).bind fun r_=>
 some r_
def vY (x_:Int):Option Int :=
 bif x_==0 then(
  some 64)
 else(
  (idx (zhY.l) (Int.fdiv (IntKind.u64.wrap ((z7N .u64 x_ (IntKind.u64.wrap (0 - x_)))*285870213051353865)) (2 ^ 58))).bind fun cell=>
  some (w64 (cell)))
def uR (x_:Int):Option Int :=
 (vY x_).bind fun r_=>
 some r_
def JN (a_:Int)(b_:Int):Option Bool :=
 (uR (ziL .u64 a_ b_)).bind fun r_=>
 gd ((0:Int)<=r_) <|
 some ((z7N .u64 (Int.fdiv a_ (2 ^ (min (r_).toNat 64))) 1)==1)
def Wh (out:List (List Int)):Option (List (List Int)×Int) :=
 (xy out).bind fun al=>
 some (al,0)
def ZG (fw:Int)(ay:List (List Int)):Option (LR (List (List Int)×Int) (List (List Int))) :=
 some (.next (ay,w64 (fw+1)))
def Wf (r_:List (List Int)×Int)(dv:Int)(ai:List (List Int))(fw:Int):Option (LR (List (List Int)×Int) (List (List Int))) :=
 bif decide (fw<((r_.1.length:Nat):Int)) then(
  (idx r_.1 fw).bind fun u_=>
  gd ((0:Int)<=fw) <|
  bif (z7N .u64 (Int.fdiv dv (2 ^ (min (fw).toNat 64))) 1)==1 then(
   gd (ai.length+([u_]:List (List Int)).length<=4294967296) <|
   ZG fw (ai++([u_]:List (List Int))))
  else(
   ZG fw ai))
 else(
  some (.done ai))
def Wi (r_:List (List Int)×Int)(dv:Int):Option (List (List Int)×Int) :=
 (loop (fun s=>Wf r_ dv s.1 s.2) (([]:List (List Int)),0)).bind fun t3=>
 Wh t3
def wC (bl:Int)(i4:Int):Option (LR (Int×Int) Int) :=
 some (.next (i4,IntKind.u64.wrap (bl+1)))
def Wg (bl:Int):Option (LR (Int×Int) Int) :=
 wC bl bl
def Wc (ah:List Int)(bh:Int)(bl:Int)(jy:Int):Option (LR Int (Unit⊕Int)) :=
 bif decide (jy<((ah.length:Nat):Int)) then(
  (idx ah jy).bind fun du=>
  bif (z7N .u64 du bl)==0 then(
   some (.done (.inr bh)))
  else(
   some (.next (w64 (jy+1)))))
 else(
  some (.done (.inl ())))
def ZF (ah:List Int)(bh:Int)(bl:Int)(io:Bool):Option (LR (Int×Int) Int) :=
 (loop (fun s=>Wc ah bh bl s) 0).bind fun t9=>
 match t9 with
 | .inl p=>Wg bl
 | .inr p=>wC bl p
def We (r_:List (List Int)×Int)(ah:List Int)(bh:Int)(bl:Int):Option (LR (Int×Int) Int) :=
 bif decide (bl<(z78 .u64 1 ((r_.1.length:Nat):Int))) then(
  (uS bl).bind fun aw=>
  (uS bh).bind fun bk=>
  bif decide (aw > bk) then(
   wC bl bh)
  else(
   bif aw==bk then(
    bif bl==bh then(
     wC bl bh)
    else(
     (JN bl bh).bind fun dg=>
     bif !dg then(
      wC bl bh)
     else(
      ZF ah bh bl (!dg))))
   else(
    ZF ah bh bl false)))
 else(
  some (.done bh))
def Qx (m_:z6):Option (List (List Int)×Int) :=
 (Xe m_).bind fun r_=>
 bif r_.2 != 0 then(
  some (([]:List (List Int)),r_.2))
 else(
  bif decide (((r_.1.length:Nat):Int) > 12) then(
   some (([]:List (List Int)),3))
  else(
   (Wa m_ r_.1).bind fun ah=>
   gd ((0:Int)<=((r_.1.length:Nat):Int)) <|
   gd ((0:Int)<=((r_.1.length:Nat):Int)) <|
   (loop (fun s=>We r_ ah s.1 s.2) (IntKind.u64.wrap ((z78 .u64 1 ((r_.1.length:Nat):Int)) - 1),0)).bind fun t5=>
   Wi r_ t5))
def Uy:Option Bool :=
 some true
def Ux (l_:List (List Int))(i_:Int):Option (LR Int (Unit⊕Bool)) :=
 bif decide (i_<((l_.length:Nat):Int)) then(
  (idx l_ (w64 (i_ - 1))).bind fun bq=>
  (idx l_ i_).bind fun ga=>
  (xv bq ga).bind fun r_=>
  bif decide (r_>=0) then(
   some (.done (.inr false)))
  else(
   some (.next (w64 (i_+1)))))
 else(
  some (.done (.inl ())))
def z05 (l_:List (List Int)):Option Bool :=
 (loop (fun s=>Ux l_ s) 1).bind fun t2=>
 match t2 with
 | .inl p=>Uy
 | .inr p=>some p
def z06 (l_:List (List Int))(inputs:Int):Option Int :=
 (YX l_ inputs).bind fun r_=>
 bif r_ != 0 then(
  some r_)
 else(
  (z05 l_).bind fun ah=>
  bif !ah then(
   some 1)
  else(
   (YW l_).bind fun al=>
   bif decide (al > 65536) then(
    some 3)
   else(
    some 0)))
def XO (m_:z6)(l_:List (List Int)):Option Int :=
 (xR m_).bind fun r_=>
 bif r_ != 0 then(
  some r_)
 else(
  (z06 l_ m_.Inputs).bind fun ah=>
  some ah)
def Vr:Option (Bool×Int) :=
 some (true,0)
def YE (all:List (List (List Int)))(lm:Int)(ic:Int):Option (LR Unit Unit) :=
 (idx all lm).bind fun jp=>
 (idx all ic).bind fun i5=>
 (qz jp i5).bind fun al=>
 bif al then(
  some (.done ()))
 else(
  some (.next ()))
def Vs (m_:z6)(all:List (List (List Int))):Option (Bool×Int) :=
 (uJ ((m_.Rows.length:Nat):Int)).bind fun ah=>
 (yN ah (yOf (fun s x=>YE all x.1 x.2)) (.next ())).bind fun t3=>
 match t3 with
 | .next _=>(
  Vr)
 | .done _=>(
  some (false,0))
def Vq (m_:z6)(l_:List (List Int))(ia:List (List (List Int)))(i6:Int):Option (LR (List (List (List Int))×Int) (List (List (List Int)))) :=
 bif decide (i6<((m_.Rows.length:Nat):Int)) then(
  (wB m_ l_ i6).bind fun aw=>
  gd (ia.length+([aw]:List (List (List Int))).length<=4294967296) <|
  some (.next ((ia++([aw]:List (List (List Int)))),w64 (i6+1))))
 else(
  some (.done ia))
def Um (m_:z6)(l_:List (List Int)):Option (Bool×Int) :=
 (XO m_ l_).bind fun r_=>
 bif r_ != 0 then(
  some (false,r_))
 else(
  (loop (fun s=>Vq m_ l_ s.1 s.2) (([]:List (List (List Int))),0)).bind fun t4=>
  Vs m_ t4)
def Wb (m_:z6)(l_:List (List Int))(s_:Int):Option (List (List Int)×Int) :=
 (XO m_ l_).bind fun r_=>
 bif r_ != 0 then(
  some (([]:List (List Int)),r_))
 else(
  bif decide (s_<0) then(
   some (([]:List (List Int)),1))
  else(
   bif decide (s_>=((m_.Rows.length:Nat):Int)) then(
    some (([]:List (List Int)),1))
   else(
    (wB m_ l_ s_).bind fun ah=>
    some (ah,0))))
def Xd (a_:List Int)(b_:List Int):Option Bool :=
 some (((a_.length:Nat):Int)==((b_.length:Nat):Int))
def yD:Option Bool :=
 some true
def yC (s1:List (List Int))(s2:List (List Int))(ap:Int):Option (LR Int (Unit⊕Bool)) :=
 bif decide (ap<((s1.length:Nat):Int)) then(
  (idx s1 ap).bind fun ft=>
  (idx s2 ap).bind fun dp=>
  (Xd ft dp).bind fun r_=>
  bif !r_ then(
   some (.done (.inr false)))
  else(
   some (.next (w64 (ap+1)))))
 else(
  some (.done (.inl ())))
def xa (s1:List (List Int))(s2:List (List Int))(eq:Unit):Option Bool :=
 bif ((s1.length:Nat):Int) !=((s2.length:Nat):Int) then(
  some false)
 else(
  (loop (fun s=>yC s1 s2 s) 0).bind fun t2=>
  match t2 with
  | .inl p=>yD
  | .inr p=>some p)
def YG (out:List Int):Option (List Int×Int) :=
 (yb out).bind fun al=>
 some (al,0)
def jA (bc:Int)(ay:List Int):Option (LR (List Int×Int) (List Int)) :=
 some (.next (ay,w64 (bc+1)))
def YF (m_:z6)(l_:List (List Int))(bi:List (List Int))(ai:List Int)(bc:Int):Option (LR (List Int×Int) (List Int)) :=
 bif decide (bc<((m_.Rows.length:Nat):Int)) then(
  (wB m_ l_ bc).bind fun aw=>
  (qz aw bi).bind fun bk=>
  bif bk then(
   gd (ai.length+([bc]:List Int).length<=4294967296) <|
   jA bc (ai++([bc]:List Int)))
  else(
   jA bc ai))
 else(
  some (.done ai))
def uA (m_:z6)(l_:List (List Int))(bi:List (List Int)):Option (List Int×Int) :=
 (XO m_ l_).bind fun r_=>
 bif r_ != 0 then(
  some (([]:List Int),r_))
 else(
  (xa l_ bi ()).bind fun ah=>
  bif !ah then(
   some (([]:List Int),16))
  else(
   (loop (fun s=>YF m_ l_ bi s.1 s.2) (([]:List Int),0)).bind fun t2=>
   YG t2))
def Kq (a_:List Int)(b_:List Int):Option Bool :=
 (WO ([a_]) ([b_])).bind fun r_=>
 bif r_ then(
  some (((a_.length:Nat):Int)==((a_.length:Nat):Int)))
 else(
  some false)
def Qv:Option Bool :=
 (Qw).bind fun r_=>
 (Xb ([[0],[1]])).bind fun ah=>
 (Xe r_).bind fun al=>
 (XP r_ 0).bind fun aw=>
 (XP r_ 1).bind fun bk=>
 (XP r_ 2).bind fun dg=>
 (Qx r_).bind fun ie=>
 bif al.2 != 0 then(
  some false)
 else(
  bif aw.2 != 0 then(
   some false)
  else(
   bif bk.2 != 0 then(
    some false)
   else(
    bif dg.2 != 0 then(
     some false)
    else(
     bif ie.2 != 0 then(
      some false)
     else(
      (wU al.1 ah).bind fun ew=>
      bif !ew then(
       some false)
      else(
       (wU aw.1 ah).bind fun gx=>
       bif !gx then(
        some false)
       else(
        (wU bk.1 ah).bind fun jz=>
        bif !jz then(
         some false)
        else(
         gd ((0:Int)<=0/\(0:Int)<=1/\(1:Int)<=((ah.length:Nat):Int)) <|
         (wU dg.1 ((ah.drop 0).take ((1:Int).toNat - 0))).bind fun k0=>
         bif !k0 then(
          some false)
         else(
          (wU ie.1 ah).bind fun k9=>
          bif !k9 then(
           some false)
          else(
           gd ((0:Int)<=0/\(0:Int)<=1/\(1:Int)<=((ah.length:Nat):Int)) <|
           (Um r_ ((ah.drop 0).take ((1:Int).toNat - 0))).bind fun j4=>
           (Xb ([[0,0]])).bind fun kc=>
           (Um r_ kc).bind fun j5=>
           (Wb r_ ah 1).bind fun ep=>
           (Xb ([[0],[0]])).bind fun ke=>
           (uA r_ ah ke).bind fun fk=>
           gd ((0:Int)<=0/\(0:Int)<=1/\(1:Int)<=((ah.length:Nat):Int)) <|
           (Xb ([[0]])).bind fun kg=>
           (uA r_ ((ah.drop 0).take ((1:Int).toNat - 0)) kg).bind fun fx=>
           gd ((0:Int)<=0/\(0:Int)<=1/\(1:Int)<=((ah.length:Nat):Int)) <|
           (Xb ([[7]])).bind fun kh=>
           (uA r_ ((ah.drop 0).take ((1:Int).toNat - 0)) kh).bind fun i9=>
           gd ((0:Int)<=0/\(0:Int)<=1/\(1:Int)<=((ah.length:Nat):Int)) <|
           (uA r_ ((ah.drop 0).take ((1:Int).toNat - 0)) []).bind fun la=>
           bif j4.2==0 then(
            bif j5.2==0 then(
             bif ep.2==0 then(
              bif fk.2==0 then(
               bif fx.2==0 then(
                bif i9.2==0 then(
                 bif !j4.1 then(
                  bif j5.1 then(
                   (wU ep.1 ah).bind fun lb=>
                   bif lb then(
                    (Kq fk.1 ([0])).bind fun lc=>
                    bif lc then(
                     (Kq fx.1 ([0,1])).bind fun ld=>
                     bif ld then(
                      bif ((i9.1.length:Nat):Int)==0 then(
                       some (la.2==16))
                      else(
                       some false))
                     else(
                      some false))
                    else(
                     some false))
                   else(
                    some false))
                  else(
                   some false))
                 else(
                  some false))
                else(
                 some false))
               else(
                some false))
              else(
               some false))
             else(
              some false))
            else(
             some false))
           else(
            some false)))))))))))
def qY (ah:List (List Int)×Int)(cm:List (List Int)):Option Bool :=
 (WN cm).bind fun bk=>
 (wU ah.1 bk).bind fun dg=>
 bif dg then(
  (Qv).bind fun ie=>
  some ie)
 else(
  some false)
def xM (r_:z6)(ah:List (List Int)×Int)(i_:Int):Option (LR Int (Unit⊕Bool)) :=
 bif decide (i_<((ah.1.length:Nat):Int)) then(
  (idx ah.1 i_).bind fun u_=>
  bif decide (((u_.length:Nat):Int) > (w64 (((r_.Rows.length:Nat):Int) - 1))) then(
   some (.done (.inr false)))
  else(
   some (.next (w64 (i_+1)))))
 else(
  some (.done (.inl ())))
def qZ (r_:z6)(ah:List (List Int)×Int)(cm:List (List Int)):Option Bool :=
 (loop (fun s=>xM r_ ah s) 0).bind fun t3=>
 match t3 with
 | .inl p=>qY ah cm
 | .inr p=>some p
def vP (r_:z6)(eu:List (List Int))(s_:Int):Option (LR (List (List Int)×Int) (List (List Int)⊕Bool)) :=
 bif decide (s_<((r_.Rows.length:Nat):Int)) then(
  (XP r_ s_).bind fun ew=>
  bif ew.2 != 0 then(
   some (.done (.inr false)))
  else(
   (z3W r_ s_).bind fun gx=>
   (wU ew.1 gx).bind fun jz=>
   bif !jz then(
    some (.done (.inr false)))
   else(
    gd (eu.length+ew.1.length<=4294967296) <|
    some (.next ((eu++ew.1),w64 (s_+1))))))
 else(
  some (.done (.inl eu)))
def YA (x_:uE):Option Bool :=
 (UY (uE.mk x_.C)).bind fun r_=>
 (Xe r_).bind fun ah=>
 bif ah.2 != 0 then(
  some false)
 else(
  (z1h r_).bind fun al=>
  (wU ah.1 al).bind fun aw=>
  bif !aw then(
   some false)
  else(
   (loop (fun s=>vP r_ s.1 s.2) (([]:List (List Int)),0)).bind fun t4=>
   match t4 with
   | .inl p=>qZ r_ ah p
   | .inr p=>some p))
abbrev F0_:=z1p (eI .i64)
abbrev F1_:=eSl 1 false (eI .u8)
abbrev F2_:=eSl 1 true (eI .i64)
abbrev F3_:=eOs 1 true (eI .i64)
abbrev F4_:=eSl 1 false (eI .u16)
abbrev F5_:=eOs 1 false (eI .i64)
abbrev F6_:=eSl 1 false (eI .i64)
abbrev F7_:=zdd F0_
abbrev F8_:=vB (eI .i64) (eI .i64)
abbrev F9_:=eSl 1 true F2_
abbrev zmn:=eOs 1 true F2_
abbrev ziJ:=eSl 1 true F6_
abbrev wI:=eSl 1 false F6_
abbrev zaY:=eOs 1 false F6_
abbrev zpb:=eSl 2 true F8_
abbrev yM:=eSl 2 false F8_
abbrev qN:=eOs 2 false F8_
abbrev z23:=QC (eI .i64) F7_
abbrev zq3:=eSl 1 true zpb
abbrev zq2:=eSl 1 false yM
abbrev Ke:=Zo (eI .u8) (eI .u8) (eI .u8) F1_ F4_
abbrev zbr:=uZ (eI .i64) (eI .i64) zq3
abbrev zH:=uZ (eI .i64) (eI .i64) zq2
abbrev z21:=eSp zH
def rpN {α:Type _}(n:Nat)(a:α)(l:List α):List α:=Nat.rec l (fun _ r=>a::r) n
abbrev aLn (n:Nat):H:=.a (.atom (.int .i64 ((n:Nat):Int)))
end Go.Own

namespace Go.Proofs
open Go.Shelf
def Tryz.so118_ren:Go.Shelf.Ren:=⟨fun|6=>118|15=>139|14=>138|28=>161|29=>162|20=>153|21=>154|22=>155|23=>156|24=>157|25=>158|26=>159|27=>160|46=>169|47=>170|48=>171|49=>172|50=>173|57=>174|n=>n,fun|22=>32|24=>40|25=>91|3=>3|39=>78|0=>0|53=>104|55=>106|4=>4|46=>180|45=>179|50=>184|5=>5|9=>9|66=>194|70=>198|76=>200|77=>201|n=>n,fun|n=>n⟩
theorem Tryz.so118:Go.Proofs.SlLaysF0.n6 Tryz.prog Tryz.so118_ren:={
 mixed:=by kernel_rfl
 f6:=⟨Tryz.f118.name,by decide,Tryz.func118.trans (congrArg some (by kernel_rfl))⟩
 f14:=⟨Tryz.f138.name,by decide,Tryz.func138.trans (congrArg some (by kernel_rfl))⟩
 f15:=Tryz.func139.trans (congrArg some (by kernel_rfl))
 f20:=⟨Tryz.f153.name,by decide,Tryz.func153.trans (congrArg some (by kernel_rfl))⟩
 f21:=⟨Tryz.f154.name,by decide,Tryz.func154.trans (congrArg some (by kernel_rfl))⟩
 f22:=⟨Tryz.f155.name,by decide,Tryz.func155.trans (congrArg some (by kernel_rfl))⟩
 f23:=⟨Tryz.f156.name,by decide,Tryz.func156.trans (congrArg some (by kernel_rfl))⟩
 f24:=⟨Tryz.f157.name,by decide,Tryz.func157.trans (congrArg some (by kernel_rfl))⟩
 f25:=⟨Tryz.f158.name,by decide,Tryz.func158.trans (congrArg some (by kernel_rfl))⟩
 f26:=⟨Tryz.f159.name,by decide,Tryz.func159.trans (congrArg some (by kernel_rfl))⟩
 f27:=⟨Tryz.f160.name,by decide,Tryz.func160.trans (congrArg some (by kernel_rfl))⟩
 f28:=Tryz.func161.trans (congrArg some (by kernel_rfl))
 f29:=Tryz.func162.trans (congrArg some (by kernel_rfl))
 f46:=⟨Tryz.f169.name,by decide,Tryz.func169.trans (congrArg some (by kernel_rfl))⟩
 f47:=Tryz.func170.trans (congrArg some (by kernel_rfl))
 f48:=Tryz.func171.trans (congrArg some (by kernel_rfl))
 f49:=⟨Tryz.f172.name,by decide,Tryz.func172.trans (congrArg some (by kernel_rfl))⟩
 f50:=⟨Tryz.f173.name,by decide,Tryz.func173.trans (congrArg some (by kernel_rfl))⟩
 f57:=⟨Tryz.f174.name,by decide,Tryz.func174.trans (congrArg some (by kernel_rfl))⟩
 t0:=Tryz.underlying0
 a0:=Tryz.isAgg0
 z0:=Tryz.sizeOf0
 v0:=Tryz.zeroValue0
 t3:=Tryz.underlying3
 a3:=Tryz.isAgg3
 z3:=Tryz.sizeOf3
 v3:=Tryz.zeroValue3
 t4:=Tryz.underlying4
 a4:=Tryz.isAgg4
 z4:=Tryz.sizeOf4
 v4:=Tryz.zeroValue4
 t5:=Tryz.underlying5
 a5:=Tryz.isAgg5
 z5:=Tryz.sizeOf5
 v5:=Tryz.zeroValue5
 t9:=Tryz.underlying9
 a9:=Tryz.isAgg9
 z9:=Tryz.sizeOf9
 v9:=Tryz.zeroValue9
 t22:=Tryz.underlying32
 a22:=Tryz.isAgg32
 z22:=Tryz.sizeOf32
 v22:=Tryz.zeroValue32
 t25:=Tryz.underlying91
 a25:=Tryz.isAgg91
 z25:=Tryz.sizeOf91
 v25:=Tryz.zeroValue91
 t39:=Tryz.underlying78
 a39:=Tryz.isAgg78
 z39:=Tryz.sizeOf78
 v39:=Tryz.zeroValue78
 t45:=Tryz.underlying179
 a45:=Tryz.isAgg179
 z45:=Tryz.sizeOf179
 v45:=Tryz.zeroValue179
 t46:=Tryz.underlying180
 a46:=Tryz.isAgg180
 z46:=Tryz.sizeOf180
 v46:=Tryz.zeroValue180
 t50:=Tryz.underlying184
 a50:=Tryz.isAgg184
 z50:=Tryz.sizeOf184
 v50:=Tryz.zeroValue184
 t53:=Tryz.underlying104
 a53:=Tryz.isAgg104
 z53:=Tryz.sizeOf104
 v53:=Tryz.zeroValue104
 t55:=Tryz.underlying106
 a55:=Tryz.isAgg106
 z55:=Tryz.sizeOf106
 v55:=Tryz.zeroValue106
 t66:=Tryz.underlying194
 a66:=Tryz.isAgg194
 z66:=Tryz.sizeOf194
 v66:=Tryz.zeroValue194
 t70:=Tryz.underlying198
 a70:=Tryz.isAgg198
 z70:=Tryz.sizeOf198
 v70:=Tryz.zeroValue198
 t76:=Tryz.underlying200
 a76:=Tryz.isAgg200
 z76:=Tryz.sizeOf200
 v76:=Tryz.zeroValue200
 t77:=Tryz.underlying201
 a77:=Tryz.isAgg201
 z77:=Tryz.sizeOf201
 v77:=Tryz.zeroValue201 }
end Go.Proofs
