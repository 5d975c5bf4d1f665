/- -/
import Derived.Test.YtcodjgfoodacaaaGreatDoorPartB
import Derived.Test.YtcodjgfoodacaaaGreatDoorProg
import Derived.Test.YtcodjgfoodacaaaGreatDoorPartD
import Derived.Test.YtcodjgfoodacaaaGreatDoorChecked
import Derived.Lib.AppendZerosOnto
import Derived.Lib.SliceRun
import Derived.WalkKit
import Derived.Lib.Walk
import Derived.Test.YtcodjgfoodacaaaGreatDoorPartC
import Derived.Shelf.SlSortCmp.NoneTotal
import Derived.Ground.SlsfProg
set_option linter.unusedVariables false
set_option linter.unusedSimpArgs false
namespace Go.Ex
open Go.Proofs
theorem q5:EqP Tryz.prog 5 [.int .u8 0] false 1:=zaN (k:=.int .u8) Tryz.underlying5 ⟨_,(by kernel_rfl:Tryz.prog.info? 5=some Tryz.t5),rfl⟩ rfl
theorem q49:EqP Tryz.prog 49 (zbu 3 [.int .u8 0]) true 2:=z1d Tryz.underlying49 q5 ⟨_,(by kernel_rfl:Tryz.prog.info? 49=some Tryz.t49),rfl⟩
def i49:EI:=⟨.array 3 5,3,3,some [.int .u8 0,.int .u8 0,.int .u8 0],true⟩
theorem zp4:zgB Tryz.prog 49 i49:=⟨⟨Tryz.t49,by kernel_rfl,rfl,rfl,fun z h=>by cases h;exact⟨_,rfl,rfl,z32 rfl,rfl,⟨_,rfl⟩⟩⟩,Tryz.underlying49,fun _=>JT q49 rfl rfl (Nat.le_of_ble_eq_true (by kernel_rfl)) (by decide)⟩
def i64:EI:=⟨.func,1,8,some [.nilFunc],false⟩
theorem q3:EqP Tryz.prog 3 [.int .i64 0] false 1:=zaN (k:=.int .i64) Tryz.underlying3 ⟨_,(by kernel_rfl:Tryz.prog.info? 3=some Tryz.t3),rfl⟩ rfl
theorem q66:EqP Tryz.prog 66 (QY [([.int .i64 0],false),([.int .i64 0],false)]) true 2:=Kp Tryz.underlying66 (by kernel_rfl) ⟨_,(by kernel_rfl:Tryz.prog.info? 66=some Tryz.t66),rfl⟩ (by decide) (xc.cons (by decide) rfl (q3.mono (by decide)) (xc.cons (by decide) rfl (q3.mono (by decide)) (xc.nil)))
def i66:EI:=⟨.struct [(0,3),(1,3)],2,16,some [.int .i64 0,.int .i64 0],true⟩
theorem zp3:zgB Tryz.prog 66 i66:=⟨⟨Tryz.t66,by kernel_rfl,rfl,rfl,fun z h=>by cases h;exact⟨_,rfl,rfl,z32 rfl,rfl,⟨_,rfl⟩⟩⟩,⟨_,Tryz.underlying66,by kernel_rfl,by
  intro f hf;simp only [List.mem_cons,List.not_mem_nil,or_false]at hf;rcases hf with rfl|rfl
  ·exact⟨Tryz.t3,by kernel_rfl⟩
  ·exact⟨Tryz.t3,by kernel_rfl⟩⟩,fun _=>JT q66 rfl rfl (Nat.le_of_ble_eq_true (by kernel_rfl)) (by decide)⟩
theorem q67:EqP Tryz.prog 67 (QY [([.int .i64 0],false),([.int .i64 0],false)]) true 2:=Kp Tryz.underlying67 (by kernel_rfl) ⟨_,(by kernel_rfl:Tryz.prog.info? 67=some Tryz.t67),rfl⟩ (by decide) (xc.cons (by decide) rfl (q3.mono (by decide)) (xc.cons (by decide) rfl (q3.mono (by decide)) (xc.nil)))
def i67:EI:=⟨.struct [(0,3),(1,3)],2,16,some [.int .i64 0,.int .i64 0],true⟩
theorem zkh:zgB Tryz.prog 67 i67:=⟨⟨Tryz.t67,by kernel_rfl,rfl,rfl,fun z h=>by cases h;exact⟨_,rfl,rfl,z32 rfl,rfl,⟨_,rfl⟩⟩⟩,⟨_,Tryz.underlying67,by kernel_rfl,by
  intro f hf;simp only [List.mem_cons,List.not_mem_nil,or_false]at hf;rcases hf with rfl|rfl
  ·exact⟨Tryz.t3,by kernel_rfl⟩
  ·exact⟨Tryz.t3,by kernel_rfl⟩⟩,fun _=>JT q67 rfl rfl (Nat.le_of_ble_eq_true (by kernel_rfl)) (by decide)⟩
theorem zne:EqP Tryz.prog 171 (zbu 2 [.int .i64 0]) true 2:=z1d Tryz.underlying171 q3 ⟨_,(by kernel_rfl:Tryz.prog.info? 171=some Tryz.t171),rfl⟩
def zpZ:EI:=⟨.array 2 3,2,16,some [.int .i64 0,.int .i64 0],true⟩
theorem zi3:zgB Tryz.prog 171 zpZ:=⟨⟨Tryz.t171,by kernel_rfl,rfl,rfl,fun z h=>by cases h;exact⟨_,rfl,rfl,z32 rfl,rfl,⟨_,rfl⟩⟩⟩,Tryz.underlying171,fun _=>JT zne rfl rfl (Nat.le_of_ble_eq_true (by kernel_rfl)) (by decide)⟩
theorem zpQ:EqP Tryz.prog 189 (zbu 16 [.int .i64 0,.int .i64 0]) true 3:=z1d Tryz.underlying189 zne ⟨_,(by kernel_rfl:Tryz.prog.info? 189=some Tryz.t189),rfl⟩
def zpY:EI:=⟨.array 16 171,32,256,some [.int .i64 0,.int .i64 0,.int .i64 0,.int .i64 0,.int .i64 0,.int .i64 0,.int .i64 0,.int .i64 0,.int .i64 0,.int .i64 0,.int .i64 0,.int .i64 0,.int .i64 0,.int .i64 0,.int .i64 0,.int .i64 0,.int .i64 0,.int .i64 0,.int .i64 0,.int .i64 0,.int .i64 0,.int .i64 0,.int .i64 0,.int .i64 0,.int .i64 0,.int .i64 0,.int .i64 0,.int .i64 0,.int .i64 0,.int .i64 0,.int .i64 0,.int .i64 0],true⟩
theorem zns:zgB Tryz.prog 189 zpY:=⟨⟨Tryz.t189,by kernel_rfl,rfl,rfl,fun z h=>by cases h;exact⟨_,rfl,rfl,z32 rfl,rfl,⟨_,rfl⟩⟩⟩,Tryz.underlying189,fun _=>JT zpQ rfl rfl (Nat.le_of_ble_eq_true (by kernel_rfl)) (by decide)⟩
theorem znd:EqP Tryz.prog 190 (zbu 16 [.int .i64 0,.int .i64 0]) true 3:=z1d Tryz.underlying190 zne ⟨_,(by kernel_rfl:Tryz.prog.info? 190=some Tryz.t190),rfl⟩
def zpX:EI:=⟨.array 16 171,32,256,some [.int .i64 0,.int .i64 0,.int .i64 0,.int .i64 0,.int .i64 0,.int .i64 0,.int .i64 0,.int .i64 0,.int .i64 0,.int .i64 0,.int .i64 0,.int .i64 0,.int .i64 0,.int .i64 0,.int .i64 0,.int .i64 0,.int .i64 0,.int .i64 0,.int .i64 0,.int .i64 0,.int .i64 0,.int .i64 0,.int .i64 0,.int .i64 0,.int .i64 0,.int .i64 0,.int .i64 0,.int .i64 0,.int .i64 0,.int .i64 0,.int .i64 0,.int .i64 0],true⟩
theorem zi2:zgB Tryz.prog 190 zpX:=⟨⟨Tryz.t190,by kernel_rfl,rfl,rfl,fun z h=>by cases h;exact⟨_,rfl,rfl,z32 rfl,rfl,⟨_,rfl⟩⟩⟩,Tryz.underlying190,fun _=>JT znd rfl rfl (Nat.le_of_ble_eq_true (by kernel_rfl)) (by decide)⟩
theorem zpP:EqP Tryz.prog 192 (QY [([.int .i64 0],false),([.int .i64 0,.int .i64 0,.int .i64 0,.int .i64 0,.int .i64 0,.int .i64 0,.int .i64 0,.int .i64 0,.int .i64 0,.int .i64 0,.int .i64 0,.int .i64 0,.int .i64 0,.int .i64 0,.int .i64 0,.int .i64 0,.int .i64 0,.int .i64 0,.int .i64 0,.int .i64 0,.int .i64 0,.int .i64 0,.int .i64 0,.int .i64 0,.int .i64 0,.int .i64 0,.int .i64 0,.int .i64 0,.int .i64 0,.int .i64 0,.int .i64 0,.int .i64 0],true)]) true 4:=Kp Tryz.underlying192 (by kernel_rfl) ⟨_,(by kernel_rfl:Tryz.prog.info? 192=some Tryz.t192),rfl⟩ (by decide) (xc.cons (by decide) rfl (q3.mono (by decide)) (xc.cons (by decide) rfl (znd.mono (by decide)) (xc.nil)))
def zpW:EI:=⟨.struct [(0,3),(1,190)],33,264,some [.int .i64 0,.int .i64 0,.int .i64 0,.int .i64 0,.int .i64 0,.int .i64 0,.int .i64 0,.int .i64 0,.int .i64 0,.int .i64 0,.int .i64 0,.int .i64 0,.int .i64 0,.int .i64 0,.int .i64 0,.int .i64 0,.int .i64 0,.int .i64 0,.int .i64 0,.int .i64 0,.int .i64 0,.int .i64 0,.int .i64 0,.int .i64 0,.int .i64 0,.int .i64 0,.int .i64 0,.int .i64 0,.int .i64 0,.int .i64 0,.int .i64 0,.int .i64 0,.int .i64 0],true⟩
theorem znr:zgB Tryz.prog 192 zpW:=⟨⟨Tryz.t192,by kernel_rfl,rfl,rfl,fun z h=>by cases h;exact⟨_,rfl,rfl,z32 rfl,rfl,⟨_,rfl⟩⟩⟩,⟨_,Tryz.underlying192,by kernel_rfl,by
  intro f hf;simp only [List.mem_cons,List.not_mem_nil,or_false]at hf;rcases hf with rfl|rfl
  ·exact⟨Tryz.t3,by kernel_rfl⟩
  ·exact⟨Tryz.t190,by kernel_rfl⟩⟩,fun _=>JT zpP rfl rfl (Nat.le_of_ble_eq_true (by kernel_rfl)) (by decide)⟩
theorem zpO:EqP Tryz.prog 193 (QY [([.int .i64 0],false),([.int .i64 0,.int .i64 0,.int .i64 0,.int .i64 0,.int .i64 0,.int .i64 0,.int .i64 0,.int .i64 0,.int .i64 0,.int .i64 0,.int .i64 0,.int .i64 0,.int .i64 0,.int .i64 0,.int .i64 0,.int .i64 0,.int .i64 0,.int .i64 0,.int .i64 0,.int .i64 0,.int .i64 0,.int .i64 0,.int .i64 0,.int .i64 0,.int .i64 0,.int .i64 0,.int .i64 0,.int .i64 0,.int .i64 0,.int .i64 0,.int .i64 0,.int .i64 0],true)]) true 4:=Kp Tryz.underlying193 (by kernel_rfl) ⟨_,(by kernel_rfl:Tryz.prog.info? 193=some Tryz.t193),rfl⟩ (by decide) (xc.cons (by decide) rfl (q3.mono (by decide)) (xc.cons (by decide) rfl (znd.mono (by decide)) (xc.nil)))
def zpV:EI:=⟨.struct [(0,3),(1,190)],33,264,some [.int .i64 0,.int .i64 0,.int .i64 0,.int .i64 0,.int .i64 0,.int .i64 0,.int .i64 0,.int .i64 0,.int .i64 0,.int .i64 0,.int .i64 0,.int .i64 0,.int .i64 0,.int .i64 0,.int .i64 0,.int .i64 0,.int .i64 0,.int .i64 0,.int .i64 0,.int .i64 0,.int .i64 0,.int .i64 0,.int .i64 0,.int .i64 0,.int .i64 0,.int .i64 0,.int .i64 0,.int .i64 0,.int .i64 0,.int .i64 0,.int .i64 0,.int .i64 0,.int .i64 0],true⟩
theorem zcU:zgB Tryz.prog 193 zpV:=⟨⟨Tryz.t193,by kernel_rfl,rfl,rfl,fun z h=>by cases h;exact⟨_,rfl,rfl,z32 rfl,rfl,⟨_,rfl⟩⟩⟩,⟨_,Tryz.underlying193,by kernel_rfl,by
  intro f hf;simp only [List.mem_cons,List.not_mem_nil,or_false]at hf;rcases hf with rfl|rfl
  ·exact⟨Tryz.t3,by kernel_rfl⟩
  ·exact⟨Tryz.t190,by kernel_rfl⟩⟩,fun _=>JT zpO rfl rfl (Nat.le_of_ble_eq_true (by kernel_rfl)) (by decide)⟩
end Go.Ex

namespace Go.Own
open Go.Proofs
def znq:Value->Bool
 | .int _ _=>true
 | _=>false
theorem z8L:∀{z vs us:List Value} {r:Bool},z.all znq=true->z.length=vs.length->xC vs us=some r->Go.Ex.z7z z vs=true/\Go.Ex.xC vs us=some r
 | [],[],us,r,_,_,h=>by
  cases us with
  | nil=>simp only [xC,Option.some.injEq]at h;subst h;exact⟨rfl,rfl⟩
  | cons u us=>simp [xC]at h
 | a::z,v::vs,us,r,hz,hl,h=>by
  have q:∃k x u' k' y,v=.int k x/\us=.int k' y::u'/\k=k':=by
   cases us with
   | nil=>cases v <;> simp [xC]at h
   | cons u us=>
    cases v <;> cases u <;> simp [xC]at h
    exact⟨_,_,_,_,_,rfl,rfl,h.1⟩
  obtain⟨k,x,u',k',y,rfl,rfl,hk⟩:=q;simp only [xC,hk,if_true,Option.map_eq_some_iff]at h;obtain⟨r',e1,rfl⟩:=h;simp only [List.all_cons,Bool.and_eq_true]at hz;obtain⟨q1,q2⟩:=z8L hz.2 (by simpa using hl) e1
  refine⟨?_,by simp [Go.Ex.xC,hk,q2]⟩
  cases a <;> first|(simp [znq]at hz;done)|simpa [Go.Ex.z7z] using q1
 | [],_::_,_,_,_,hl,_=>by simp at hl
 | _::_,[],_,_,_,hl,_=>by simp at hl
variable {P:Program}
theorem z7d {t n:Nat}{i:Go.Ex.EI}(h:Go.Ex.zgA P t i){z:List Value}(hz:i.zero=some z)(hi:z.all znq=true)(hs:i.size=n)(hn:z.length=n):zgA P t n:={
 guard:=h.guard
 run:=fun vs us r w hv hu he=>by
  obtain⟨q1,q2⟩:=z8L hi (by rw [hn,hv]) he
  exact h.run vs us r w (by rw [hs];exact hv) (by rw [hs];exact hu) (by simpa only [Go.Ex.znt,hz] using q1) q2 }
variable {h:Array Obj}{S:zj}
theorem zf {v:Value}(hv:v.oneCell'=true):zK S h (.atom v) [v] []:=by simp only [zK,Rep];exact⟨⟨trivial,hv⟩,trivial⟩
theorem vE (sz:Nat):zK S h (.osl sz true []) [.slice none 0 0] []:=by
 simp only [zK];exact⟨none,0,rfl,(fun _=>rfl),Nat.le_refl _,Nat.zero_le _,by simp,.inl ⟨trivial,rfl,rfl,trivial⟩⟩
theorem zaQ {sz:Nat}:zK S h (.dop (nlQ sz [])) [.slice none 0 0] []:=by
 simp only [zK,Rep];exact⟨⟨_,rfl,zcA.2 ⟨by simp [Rep],fun _=>rfl⟩⟩,trivial⟩
variable {a:A}
theorem JU {c:List Value}(q:zK S h a c []):∀n,zQ S h (List.replicate n a) (List.replicate n c).flatten []
 | 0=>by simp [zQ]
 | n+1=>by
  rw [List.replicate_succ,List.replicate_succ,List.flatten_cons];simp only [zQ];exact⟨c,_,[],[],rfl,rfl,q,JU q n⟩
theorem zid {c c':List Value}(q:zK S h a c [])(e:c'=c):zK S h a c' []:=e ▸ q
variable {fs:List A}
theorem zI {cs:List Value}(q:zQ S h fs cs []):zK S h (.agg fs) cs []:=by simpa only [zK] using q
theorem zC:zQ S h [] [] []:=by simp [zQ]
theorem ze {c1 c2:List Value}(q1:zK S h a c1 [])(q2:zQ S h fs c2 []):zQ S h (a::fs) (c1++c2) []:=by simp only [zQ];exact⟨c1,c2,[],[],rfl,rfl,q1,q2⟩
def ti1:TI:=⟨.other,1,8,some (.atom .nilFunc),false⟩
theorem zj4:Zw Tryz.prog 1 ti1:=⟨⟨Tryz.t1,by kernel_rfl,rfl,rfl,fun z h=>by cases h;exact⟨_,rfl,rfl,fun S h=>zf rfl⟩⟩,⟨_,Tryz.underlying1,rfl⟩,by intro h;cases h⟩
def ti2:TI:=⟨.int .i64,1,8,some (.atom (.int .i64 0)),false⟩
theorem zj3:Zw Tryz.prog 2 ti2:=⟨⟨Tryz.t2,by kernel_rfl,rfl,rfl,fun z h=>by cases h;exact⟨_,rfl,rfl,fun S h=>zf rfl⟩⟩,Tryz.underlying2,by intro h;cases h⟩
def ti3:TI:=⟨.int .i64,1,8,some (.atom (.int .i64 0)),false⟩
theorem zj2:Zw Tryz.prog 3 ti3:=⟨⟨Tryz.t3,by kernel_rfl,rfl,rfl,fun z h=>by cases h;exact⟨_,rfl,rfl,fun S h=>zf rfl⟩⟩,Tryz.underlying3,by intro h;cases h⟩
def ti4:TI:=⟨.bool,1,1,some (.atom (.bool false)),false⟩
theorem zj1:Zw Tryz.prog 4 ti4:=⟨⟨Tryz.t4,by kernel_rfl,rfl,rfl,fun z h=>by cases h;exact⟨_,rfl,rfl,fun S h=>zf rfl⟩⟩,Tryz.underlying4,by intro h;cases h⟩
def ti5:TI:=⟨.int .u8,1,1,some (.atom (.int .u8 0)),false⟩
theorem zj0:Zw Tryz.prog 5 ti5:=⟨⟨Tryz.t5,by kernel_rfl,rfl,rfl,fun z h=>by cases h;exact⟨_,rfl,rfl,fun S h=>zf rfl⟩⟩,Tryz.underlying5,by intro h;cases h⟩
def ti9:TI:=⟨.str,1,16,none,false⟩
theorem ziZ:Zw Tryz.prog 9 ti9:=⟨⟨Tryz.t9,by kernel_rfl,rfl,rfl,fun z h=>by cases h⟩,Tryz.underlying9,by intro h;cases h⟩
def zoH:TI:=⟨.other,1,16,some (.atom .nilIface),false⟩
theorem zh9:Zw Tryz.prog 20 zoH:=⟨⟨Tryz.t20,by kernel_rfl,rfl,rfl,fun z h=>by cases h;exact⟨_,rfl,rfl,fun S h=>zf rfl⟩⟩,⟨_,Tryz.underlying20,rfl⟩,by intro h;cases h⟩
def zoG:TI:=⟨.slice 5,1,24,some (.osl 1 true []),false⟩
theorem zh8:Zw Tryz.prog 22 zoG:=⟨⟨Tryz.t22,by kernel_rfl,rfl,rfl,fun z h=>by cases h;exact⟨_,rfl,rfl,fun S h=>vE _⟩⟩,Tryz.underlying22,by intro h;cases h⟩
def zoF:TI:=⟨.slice 117,1,24,some (.osl 1 true []),false⟩
theorem zh7:Zw Tryz.prog 23 zoF:=⟨⟨Tryz.t23,by kernel_rfl,rfl,rfl,fun z h=>by cases h;exact⟨_,rfl,rfl,fun S h=>vE _⟩⟩,Tryz.underlying23,by intro h;cases h⟩
def zoE:TI:=⟨.struct [(0,1),(1,1),(2,1),(3,1),(4,1)],5,56,some (.agg [.atom (.int .u8 0),.atom (.int .u8 0),.atom (.int .u8 0),.osl 1 true [],.osl 1 true []]),false⟩
theorem zh6:Zw Tryz.prog 25 zoE:=⟨⟨Tryz.t25,by kernel_rfl,rfl,rfl,fun z h=>by cases h;exact⟨_,rfl,rfl,fun S h=>zI (ze (zf rfl) (ze (zf rfl) (ze (zf rfl) (ze (vE _) (ze (vE _) (zC))))))⟩⟩,⟨_,Tryz.underlying25,by kernel_rfl,by
  intro f hf;simp only [List.mem_cons,List.not_mem_nil,or_false]at hf;rcases hf with rfl|rfl|rfl|rfl|rfl
  ·exact⟨Tryz.t5,by kernel_rfl⟩
  ·exact⟨Tryz.t5,by kernel_rfl⟩
  ·exact⟨Tryz.t5,by kernel_rfl⟩
  ·exact⟨Tryz.t22,by kernel_rfl⟩
  ·exact⟨Tryz.t23,by kernel_rfl⟩⟩,by intro h;cases h⟩
def zoD:TI:=⟨.struct [(0,5)],5,56,some (.agg [.agg [.atom (.int .u8 0),.atom (.int .u8 0),.atom (.int .u8 0),.osl 1 true [],.osl 1 true []]]),false⟩
theorem zh5:Zw Tryz.prog 27 zoD:=⟨⟨Tryz.t27,by kernel_rfl,rfl,rfl,fun z h=>by cases h;exact⟨_,rfl,rfl,fun S h=>zI (ze (zI (ze (zf rfl) (ze (zf rfl) (ze (zf rfl) (ze (vE _) (ze (vE _) (zC))))))) (zC))⟩⟩,⟨_,Tryz.underlying27,by kernel_rfl,by
  intro f hf;simp only [List.mem_cons,List.not_mem_nil,or_false]at hf;rcases hf with rfl
  ·exact⟨Tryz.t25,by kernel_rfl⟩⟩,by intro h;cases h⟩
def zoC:TI:=⟨.slice 68,1,24,some (.osl 1 true []),false⟩
theorem zh4:Zw Tryz.prog 28 zoC:=⟨⟨Tryz.t28,by kernel_rfl,rfl,rfl,fun z h=>by cases h;exact⟨_,rfl,rfl,fun S h=>vE _⟩⟩,Tryz.underlying28,by intro h;cases h⟩
def zoB:TI:=⟨.struct [(0,1),(1,1),(2,1)],3,40,some (.agg [.atom (.int .i64 0),.atom (.int .i64 0),.osl 1 true []]),false⟩
theorem zh3:Zw Tryz.prog 30 zoB:=⟨⟨Tryz.t30,by kernel_rfl,rfl,rfl,fun z h=>by cases h;exact⟨_,rfl,rfl,fun S h=>zI (ze (zf rfl) (ze (zf rfl) (ze (vE _) (zC))))⟩⟩,⟨_,Tryz.underlying30,by kernel_rfl,by
  intro f hf;simp only [List.mem_cons,List.not_mem_nil,or_false]at hf;rcases hf with rfl|rfl|rfl
  ·exact⟨Tryz.t3,by kernel_rfl⟩
  ·exact⟨Tryz.t3,by kernel_rfl⟩
  ·exact⟨Tryz.t28,by kernel_rfl⟩⟩,by intro h;cases h⟩
def zoA:TI:=⟨.slice 40,1,24,some (.osl 1 true []),false⟩
theorem zh2:Zw Tryz.prog 32 zoA:=⟨⟨Tryz.t32,by kernel_rfl,rfl,rfl,fun z h=>by cases h;exact⟨_,rfl,rfl,fun S h=>vE _⟩⟩,Tryz.underlying32,by intro h;cases h⟩
def zoz:TI:=⟨.int .i64,1,8,some (.atom (.int .i64 0)),false⟩
theorem zh1:Zw Tryz.prog 33 zoz:=⟨⟨Tryz.t33,by kernel_rfl,rfl,rfl,fun z h=>by cases h;exact⟨_,rfl,rfl,fun S h=>zf rfl⟩⟩,Tryz.underlying33,by intro h;cases h⟩
def zoy:TI:=⟨.slice 3,1,24,some (.osl 1 true []),false⟩
theorem zh0:Zw Tryz.prog 40 zoy:=⟨⟨Tryz.t40,by kernel_rfl,rfl,rfl,fun z h=>by cases h;exact⟨_,rfl,rfl,fun S h=>vE _⟩⟩,Tryz.underlying40,by intro h;cases h⟩
def zox:TI:=⟨.other,1,8,some (.atom .nilFunc),false⟩
theorem zgZ:Zw Tryz.prog 41 zox:=⟨⟨Tryz.t41,by kernel_rfl,rfl,rfl,fun z h=>by cases h;exact⟨_,rfl,rfl,fun S h=>zf rfl⟩⟩,⟨_,Tryz.underlying41,rfl⟩,by intro h;cases h⟩
def zow:TI:=⟨.other,1,8,some (.atom .nilFunc),false⟩
theorem zgY:Zw Tryz.prog 42 zow:=⟨⟨Tryz.t42,by kernel_rfl,rfl,rfl,fun z h=>by cases h;exact⟨_,rfl,rfl,fun S h=>zf rfl⟩⟩,⟨_,Tryz.underlying42,rfl⟩,by intro h;cases h⟩
def zov:TI:=⟨.other,1,8,some (.atom .nilFunc),false⟩
theorem zgX:Zw Tryz.prog 57 zov:=⟨⟨Tryz.t57,by kernel_rfl,rfl,rfl,fun z h=>by cases h;exact⟨_,rfl,rfl,fun S h=>zf rfl⟩⟩,⟨_,Tryz.underlying57,rfl⟩,by intro h;cases h⟩
def zou:TI:=⟨.struct [(0,1),(1,1)],2,16,some (.agg [.atom (.int .i64 0),.atom (.int .i64 0)]),true⟩
theorem zgW:Zw Tryz.prog 67 zou:=⟨⟨Tryz.t67,by kernel_rfl,rfl,rfl,fun z h=>by cases h;exact⟨_,rfl,rfl,fun S h=>zI (ze (zf rfl) (ze (zf rfl) (zC)))⟩⟩,⟨_,Tryz.underlying67,by kernel_rfl,by
  intro f hf;simp only [List.mem_cons,List.not_mem_nil,or_false]at hf;rcases hf with rfl|rfl
  ·exact⟨Tryz.t3,by kernel_rfl⟩
  ·exact⟨Tryz.t3,by kernel_rfl⟩⟩,fun _=>z7d (Go.Ex.zkh.eqn rfl) rfl rfl rfl rfl⟩
def zot:TI:=⟨.slice 67,1,24,some (.osl 2 true []),false⟩
theorem zgV:Zw Tryz.prog 68 zot:=⟨⟨Tryz.t68,by kernel_rfl,rfl,rfl,fun z h=>by cases h;exact⟨_,rfl,rfl,fun S h=>vE _⟩⟩,Tryz.underlying68,by intro h;cases h⟩
def zos:TI:=⟨.other,1,8,some (.atom .nilFunc),false⟩
theorem zgU:Zw Tryz.prog 73 zos:=⟨⟨Tryz.t73,by kernel_rfl,rfl,rfl,fun z h=>by cases h;exact⟨_,rfl,rfl,fun S h=>zf rfl⟩⟩,⟨_,Tryz.underlying73,rfl⟩,by intro h;cases h⟩
def zor:TI:=⟨.slice 78,1,24,some (.osl 1 true []),false⟩
theorem zgT:Zw Tryz.prog 76 zor:=⟨⟨Tryz.t76,by kernel_rfl,rfl,rfl,fun z h=>by cases h;exact⟨_,rfl,rfl,fun S h=>vE _⟩⟩,Tryz.underlying76,by intro h;cases h⟩
def zoq:TI:=⟨.int .u64,1,8,some (.atom (.int .u64 0)),false⟩
theorem zgS:Zw Tryz.prog 78 zoq:=⟨⟨Tryz.t78,by kernel_rfl,rfl,rfl,fun z h=>by cases h;exact⟨_,rfl,rfl,fun S h=>zf rfl⟩⟩,Tryz.underlying78,by intro h;cases h⟩
def zop:TI:=⟨.other,1,8,some (.atom .nilFunc),false⟩
theorem zgR:Zw Tryz.prog 80 zop:=⟨⟨Tryz.t80,by kernel_rfl,rfl,rfl,fun z h=>by cases h;exact⟨_,rfl,rfl,fun S h=>zf rfl⟩⟩,⟨_,Tryz.underlying80,rfl⟩,by intro h;cases h⟩
def zoo:TI:=⟨.slice 32,1,24,some (.osl 1 true []),false⟩
theorem zgQ:Zw Tryz.prog 82 zoo:=⟨⟨Tryz.t82,by kernel_rfl,rfl,rfl,fun z h=>by cases h;exact⟨_,rfl,rfl,fun S h=>vE _⟩⟩,Tryz.underlying82,by intro h;cases h⟩
def zon:TI:=⟨.other,1,8,some (.atom .nilFunc),false⟩
theorem zgP:Zw Tryz.prog 83 zon:=⟨⟨Tryz.t83,by kernel_rfl,rfl,rfl,fun z h=>by cases h;exact⟨_,rfl,rfl,fun S h=>zf rfl⟩⟩,⟨_,Tryz.underlying83,rfl⟩,by intro h;cases h⟩
def zom:TI:=⟨.other,1,8,some (.atom .nilFunc),false⟩
theorem zgO:Zw Tryz.prog 84 zom:=⟨⟨Tryz.t84,by kernel_rfl,rfl,rfl,fun z h=>by cases h;exact⟨_,rfl,rfl,fun S h=>zf rfl⟩⟩,⟨_,Tryz.underlying84,rfl⟩,by intro h;cases h⟩
def zol:TI:=⟨.other,1,8,some (.atom .nilFunc),false⟩
theorem zgN:Zw Tryz.prog 93 zol:=⟨⟨Tryz.t93,by kernel_rfl,rfl,rfl,fun z h=>by cases h;exact⟨_,rfl,rfl,fun S h=>zf rfl⟩⟩,⟨_,Tryz.underlying93,rfl⟩,by intro h;cases h⟩
def zok:TI:=⟨.struct [(0,1),(1,1)],2,16,some (.agg [.atom (.int .i64 0),.atom .nilFunc]),false⟩
theorem zgM:Zw Tryz.prog 95 zok:=⟨⟨Tryz.t95,by kernel_rfl,rfl,rfl,fun z h=>by cases h;exact⟨_,rfl,rfl,fun S h=>zI (ze (zf rfl) (ze (zf rfl) (zC)))⟩⟩,⟨_,Tryz.underlying95,by kernel_rfl,by
  intro f hf;simp only [List.mem_cons,List.not_mem_nil,or_false]at hf;rcases hf with rfl|rfl
  ·exact⟨Tryz.t33,by kernel_rfl⟩
  ·exact⟨Tryz.t42,by kernel_rfl⟩⟩,by intro h;cases h⟩
def zoj:TI:=⟨.array 3 95,6,48,some (.agg [.agg [.atom (.int .i64 0),.atom .nilFunc],.agg [.atom (.int .i64 0),.atom .nilFunc],.agg [.atom (.int .i64 0),.atom .nilFunc]]),false⟩
theorem zgL:Zw Tryz.prog 96 zoj:=⟨⟨Tryz.t96,by kernel_rfl,rfl,rfl,fun z h=>by cases h;exact⟨_,rfl,rfl,fun S h=>zI (ze (zI (ze (zf rfl) (ze (zf rfl) (zC)))) (ze (zI (ze (zf rfl) (ze (zf rfl) (zC)))) (ze (zI (ze (zf rfl) (ze (zf rfl) (zC)))) (zC))))⟩⟩,Tryz.underlying96,by intro h;cases h⟩
def zoi:TI:=⟨.other,1,8,some (.atom .nilFunc),false⟩
theorem zgK:Zw Tryz.prog 97 zoi:=⟨⟨Tryz.t97,by kernel_rfl,rfl,rfl,fun z h=>by cases h;exact⟨_,rfl,rfl,fun S h=>zf rfl⟩⟩,⟨_,Tryz.underlying97,rfl⟩,by intro h;cases h⟩
def zoh:TI:=⟨.other,1,8,some (.atom .nilFunc),false⟩
theorem zgJ:Zw Tryz.prog 99 zoh:=⟨⟨Tryz.t99,by kernel_rfl,rfl,rfl,fun z h=>by cases h;exact⟨_,rfl,rfl,fun S h=>zf rfl⟩⟩,⟨_,Tryz.underlying99,rfl⟩,by intro h;cases h⟩
def zjy:TI:=⟨.int .u32,1,4,some (.atom (.int .u32 0)),false⟩
theorem zen:Zw Tryz.prog 104 zjy:=⟨⟨Tryz.t104,by kernel_rfl,rfl,rfl,fun z h=>by cases h;exact⟨_,rfl,rfl,fun S h=>zf rfl⟩⟩,Tryz.underlying104,by intro h;cases h⟩
def zjx:TI:=⟨.int .u64,1,8,some (.atom (.int .u64 0)),false⟩
theorem zem:Zw Tryz.prog 106 zjx:=⟨⟨Tryz.t106,by kernel_rfl,rfl,rfl,fun z h=>by cases h;exact⟨_,rfl,rfl,fun S h=>zf rfl⟩⟩,Tryz.underlying106,by intro h;cases h⟩
def zjw:TI:=⟨.slice 4,1,24,some (.osl 1 true []),false⟩
theorem zel:Zw Tryz.prog 111 zjw:=⟨⟨Tryz.t111,by kernel_rfl,rfl,rfl,fun z h=>by cases h;exact⟨_,rfl,rfl,fun S h=>vE _⟩⟩,Tryz.underlying111,by intro h;cases h⟩
def zjv:TI:=⟨.int .u16,1,2,some (.atom (.int .u16 0)),false⟩
theorem zek:Zw Tryz.prog 117 zjv:=⟨⟨Tryz.t117,by kernel_rfl,rfl,rfl,fun z h=>by cases h;exact⟨_,rfl,rfl,fun S h=>zf rfl⟩⟩,Tryz.underlying117,by intro h;cases h⟩
def zju:TI:=⟨.other,1,8,some (.atom .nilFunc),false⟩
theorem zej:Zw Tryz.prog 120 zju:=⟨⟨Tryz.t120,by kernel_rfl,rfl,rfl,fun z h=>by cases h;exact⟨_,rfl,rfl,fun S h=>zf rfl⟩⟩,⟨_,Tryz.underlying120,rfl⟩,by intro h;cases h⟩
def zjt:TI:=⟨.array 64 40,64,1536,some (.agg (List.replicate 64 (.dop (nlQ 1 [])))),false⟩
theorem zei:Zw Tryz.prog 125 zjt:=⟨⟨Tryz.t125,by kernel_rfl,rfl,rfl,fun z h=>by cases h;exact⟨_,rfl,by kernel_rfl,fun S h=>zid (zI (JU (zaQ) 64)) (by kernel_rfl)⟩⟩,Tryz.underlying125,by intro h;cases h⟩
def zjs:TI:=⟨.ptr 154,1,8,some (.atom (.pointer none)),false⟩
theorem zeh:Zw Tryz.prog 126 zjs:=⟨⟨Tryz.t126,by kernel_rfl,rfl,rfl,fun z h=>by cases h;exact⟨_,rfl,rfl,fun S h=>zf rfl⟩⟩,Tryz.underlying126,by intro h;cases h⟩
def zjr:TI:=⟨.other,1,8,some (.atom .nilFunc),false⟩
theorem zeg:Zw Tryz.prog 127 zjr:=⟨⟨Tryz.t127,by kernel_rfl,rfl,rfl,fun z h=>by cases h;exact⟨_,rfl,rfl,fun S h=>zf rfl⟩⟩,⟨_,Tryz.underlying127,rfl⟩,by intro h;cases h⟩
def zjq:TI:=⟨.other,1,8,some (.atom .nilFunc),false⟩
theorem zef:Zw Tryz.prog 131 zjq:=⟨⟨Tryz.t131,by kernel_rfl,rfl,rfl,fun z h=>by cases h;exact⟨_,rfl,rfl,fun S h=>zf rfl⟩⟩,⟨_,Tryz.underlying131,rfl⟩,by intro h;cases h⟩
def zjp:TI:=⟨.slice 111,1,24,some (.osl 1 true []),false⟩
theorem zee:Zw Tryz.prog 136 zjp:=⟨⟨Tryz.t136,by kernel_rfl,rfl,rfl,fun z h=>by cases h;exact⟨_,rfl,rfl,fun S h=>vE _⟩⟩,Tryz.underlying136,by intro h;cases h⟩
def zjo:TI:=⟨.slice 171,1,24,some (.osl 2 true []),false⟩
theorem zed:Zw Tryz.prog 144 zjo:=⟨⟨Tryz.t144,by kernel_rfl,rfl,rfl,fun z h=>by cases h;exact⟨_,rfl,rfl,fun S h=>vE _⟩⟩,Tryz.underlying144,by intro h;cases h⟩
def zjn:TI:=⟨.other,1,8,some (.atom .nilFunc),false⟩
theorem zec:Zw Tryz.prog 146 zjn:=⟨⟨Tryz.t146,by kernel_rfl,rfl,rfl,fun z h=>by cases h;exact⟨_,rfl,rfl,fun S h=>zf rfl⟩⟩,⟨_,Tryz.underlying146,rfl⟩,by intro h;cases h⟩
def zjm:TI:=⟨.other,1,8,some (.atom .nilFunc),false⟩
theorem zeb:Zw Tryz.prog 147 zjm:=⟨⟨Tryz.t147,by kernel_rfl,rfl,rfl,fun z h=>by cases h;exact⟨_,rfl,rfl,fun S h=>zf rfl⟩⟩,⟨_,Tryz.underlying147,rfl⟩,by intro h;cases h⟩
def zjl:TI:=⟨.other,1,8,some (.atom .nilFunc),false⟩
theorem zea:Zw Tryz.prog 148 zjl:=⟨⟨Tryz.t148,by kernel_rfl,rfl,rfl,fun z h=>by cases h;exact⟨_,rfl,rfl,fun S h=>zf rfl⟩⟩,⟨_,Tryz.underlying148,rfl⟩,by intro h;cases h⟩
def zjk:TI:=⟨.other,1,8,some (.atom .nilFunc),false⟩
theorem ze9:Zw Tryz.prog 149 zjk:=⟨⟨Tryz.t149,by kernel_rfl,rfl,rfl,fun z h=>by cases h;exact⟨_,rfl,rfl,fun S h=>zf rfl⟩⟩,⟨_,Tryz.underlying149,rfl⟩,by intro h;cases h⟩
def zjj:TI:=⟨.other,1,8,some (.atom .nilFunc),false⟩
theorem ze8:Zw Tryz.prog 150 zjj:=⟨⟨Tryz.t150,by kernel_rfl,rfl,rfl,fun z h=>by cases h;exact⟨_,rfl,rfl,fun S h=>zf rfl⟩⟩,⟨_,Tryz.underlying150,rfl⟩,by intro h;cases h⟩
def zji:TI:=⟨.other,1,8,some (.atom .nilFunc),false⟩
theorem ze7:Zw Tryz.prog 152 zji:=⟨⟨Tryz.t152,by kernel_rfl,rfl,rfl,fun z h=>by cases h;exact⟨_,rfl,rfl,fun S h=>zf rfl⟩⟩,⟨_,Tryz.underlying152,rfl⟩,by intro h;cases h⟩
def zjh:TI:=⟨.array 64 125,4096,98304,some (.agg (List.replicate 64 (.agg (List.replicate 64 (.dop (nlQ 1 [])))))),false⟩
theorem ze6:Zw Tryz.prog 154 zjh:=⟨⟨Tryz.t154,by kernel_rfl,rfl,rfl,fun z h=>by cases h;exact⟨_,rfl,by kernel_rfl,fun S h=>zid (zI (JU (zI (JU (zaQ) 64)) 64)) (by kernel_rfl)⟩⟩,Tryz.underlying154,by intro h;cases h⟩
def zjg:TI:=⟨.slice 159,1,24,some (.osl 4 true []),false⟩
theorem ze5:Zw Tryz.prog 155 zjg:=⟨⟨Tryz.t155,by kernel_rfl,rfl,rfl,fun z h=>by cases h;exact⟨_,rfl,rfl,fun S h=>vE _⟩⟩,Tryz.underlying155,by intro h;cases h⟩
def zjf:TI:=⟨.struct [(0,1),(1,1),(2,1),(3,1)],4,48,some (.agg [.atom (.int .i64 0),.atom (.int .i64 0),.osl 1 true [],.atom (.bool false)]),false⟩
theorem ze4:Zw Tryz.prog 159 zjf:=⟨⟨Tryz.t159,by kernel_rfl,rfl,rfl,fun z h=>by cases h;exact⟨_,rfl,rfl,fun S h=>zI (ze (zf rfl) (ze (zf rfl) (ze (vE _) (ze (zf rfl) (zC)))))⟩⟩,⟨_,Tryz.underlying159,by kernel_rfl,by
  intro f hf;simp only [List.mem_cons,List.not_mem_nil,or_false]at hf;rcases hf with rfl|rfl|rfl|rfl
  ·exact⟨Tryz.t3,by kernel_rfl⟩
  ·exact⟨Tryz.t3,by kernel_rfl⟩
  ·exact⟨Tryz.t40,by kernel_rfl⟩
  ·exact⟨Tryz.t4,by kernel_rfl⟩⟩,by intro h;cases h⟩
def zje:TI:=⟨.array 64 5,64,64,some (.agg (List.replicate 64 (.atom (.int .u8 0)))),false⟩
theorem ze3:Zw Tryz.prog 162 zje:=⟨⟨Tryz.t162,by kernel_rfl,rfl,rfl,fun z h=>by cases h;exact⟨_,rfl,by kernel_rfl,fun S h=>zid (zI (JU (zf rfl) 64)) (by kernel_rfl)⟩⟩,Tryz.underlying162,by intro h;cases h⟩
def zjd:TI:=⟨.other,1,8,some (.atom .nilFunc),false⟩
theorem ze2:Zw Tryz.prog 166 zjd:=⟨⟨Tryz.t166,by kernel_rfl,rfl,rfl,fun z h=>by cases h;exact⟨_,rfl,rfl,fun S h=>zf rfl⟩⟩,⟨_,Tryz.underlying166,rfl⟩,by intro h;cases h⟩
def zjc:TI:=⟨.other,1,8,some (.atom .nilFunc),false⟩
theorem ze1:Zw Tryz.prog 168 zjc:=⟨⟨Tryz.t168,by kernel_rfl,rfl,rfl,fun z h=>by cases h;exact⟨_,rfl,rfl,fun S h=>zf rfl⟩⟩,⟨_,Tryz.underlying168,rfl⟩,by intro h;cases h⟩
def zjb:TI:=⟨.other,1,8,some (.atom .nilFunc),false⟩
theorem ze0:Zw Tryz.prog 169 zjb:=⟨⟨Tryz.t169,by kernel_rfl,rfl,rfl,fun z h=>by cases h;exact⟨_,rfl,rfl,fun S h=>zf rfl⟩⟩,⟨_,Tryz.underlying169,rfl⟩,by intro h;cases h⟩
def zja:TI:=⟨.array 2 3,2,16,some (.agg [.atom (.int .i64 0),.atom (.int .i64 0)]),true⟩
theorem zdZ:Zw Tryz.prog 171 zja:=⟨⟨Tryz.t171,by kernel_rfl,rfl,rfl,fun z h=>by cases h;exact⟨_,rfl,rfl,fun S h=>zI (ze (zf rfl) (ze (zf rfl) (zC)))⟩⟩,Tryz.underlying171,fun _=>z7d (Go.Ex.zi3.eqn rfl) rfl rfl rfl rfl⟩
def zj9:TI:=⟨.other,1,8,some (.atom .nilFunc),false⟩
theorem zdY:Zw Tryz.prog 174 zj9:=⟨⟨Tryz.t174,by kernel_rfl,rfl,rfl,fun z h=>by cases h;exact⟨_,rfl,rfl,fun S h=>zf rfl⟩⟩,⟨_,Tryz.underlying174,rfl⟩,by intro h;cases h⟩
def zj8:TI:=⟨.other,1,8,some (.atom .nilFunc),false⟩
theorem zdX:Zw Tryz.prog 187 zj8:=⟨⟨Tryz.t187,by kernel_rfl,rfl,rfl,fun z h=>by cases h;exact⟨_,rfl,rfl,fun S h=>zf rfl⟩⟩,⟨_,Tryz.underlying187,rfl⟩,by intro h;cases h⟩
def zj7:TI:=⟨.other,1,8,some (.atom (.map none)),false⟩
theorem zdW:Zw Tryz.prog 188 zj7:=⟨⟨Tryz.t188,by kernel_rfl,rfl,rfl,fun z h=>by cases h;exact⟨_,rfl,rfl,fun S h=>zf rfl⟩⟩,⟨_,Tryz.underlying188,rfl⟩,by intro h;cases h⟩
def zj6:TI:=⟨.array 16 171,32,256,some (.agg [.agg [.atom (.int .i64 0),.atom (.int .i64 0)],.agg [.atom (.int .i64 0),.atom (.int .i64 0)],.agg [.atom (.int .i64 0),.atom (.int .i64 0)],.agg [.atom (.int .i64 0),.atom (.int .i64 0)],.agg [.atom (.int .i64 0),.atom (.int .i64 0)],.agg [.atom (.int .i64 0),.atom (.int .i64 0)],.agg [.atom (.int .i64 0),.atom (.int .i64 0)],.agg [.atom (.int .i64 0),.atom (.int .i64 0)],.agg [.atom (.int .i64 0),.atom (.int .i64 0)],.agg [.atom (.int .i64 0),.atom (.int .i64 0)],.agg [.atom (.int .i64 0),.atom (.int .i64 0)],.agg [.atom (.int .i64 0),.atom (.int .i64 0)],.agg [.atom (.int .i64 0),.atom (.int .i64 0)],.agg [.atom (.int .i64 0),.atom (.int .i64 0)],.agg [.atom (.int .i64 0),.atom (.int .i64 0)],.agg [.atom (.int .i64 0),.atom (.int .i64 0)]]),true⟩
theorem zdV:Zw Tryz.prog 190 zj6:=⟨⟨Tryz.t190,by kernel_rfl,rfl,rfl,fun z h=>by cases h;exact⟨_,rfl,rfl,fun S h=>zI (ze (zI (ze (zf rfl) (ze (zf rfl) (zC)))) (ze (zI (ze (zf rfl) (ze (zf rfl) (zC)))) (ze (zI (ze (zf rfl) (ze (zf rfl) (zC)))) (ze (zI (ze (zf rfl) (ze (zf rfl) (zC)))) (ze (zI (ze (zf rfl) (ze (zf rfl) (zC)))) (ze (zI (ze (zf rfl) (ze (zf rfl) (zC)))) (ze (zI (ze (zf rfl) (ze (zf rfl) (zC)))) (ze (zI (ze (zf rfl) (ze (zf rfl) (zC)))) (ze (zI (ze (zf rfl) (ze (zf rfl) (zC)))) (ze (zI (ze (zf rfl) (ze (zf rfl) (zC)))) (ze (zI (ze (zf rfl) (ze (zf rfl) (zC)))) (ze (zI (ze (zf rfl) (ze (zf rfl) (zC)))) (ze (zI (ze (zf rfl) (ze (zf rfl) (zC)))) (ze (zI (ze (zf rfl) (ze (zf rfl) (zC)))) (ze (zI (ze (zf rfl) (ze (zf rfl) (zC)))) (ze (zI (ze (zf rfl) (ze (zf rfl) (zC)))) (zC)))))))))))))))))⟩⟩,Tryz.underlying190,fun _=>z7d (Go.Ex.zi2.eqn rfl) rfl rfl rfl rfl⟩
def zj5:TI:=⟨.struct [(0,1),(1,32)],33,264,some (.agg [.atom (.int .i64 0),.agg [.agg [.atom (.int .i64 0),.atom (.int .i64 0)],.agg [.atom (.int .i64 0),.atom (.int .i64 0)],.agg [.atom (.int .i64 0),.atom (.int .i64 0)],.agg [.atom (.int .i64 0),.atom (.int .i64 0)],.agg [.atom (.int .i64 0),.atom (.int .i64 0)],.agg [.atom (.int .i64 0),.atom (.int .i64 0)],.agg [.atom (.int .i64 0),.atom (.int .i64 0)],.agg [.atom (.int .i64 0),.atom (.int .i64 0)],.agg [.atom (.int .i64 0),.atom (.int .i64 0)],.agg [.atom (.int .i64 0),.atom (.int .i64 0)],.agg [.atom (.int .i64 0),.atom (.int .i64 0)],.agg [.atom (.int .i64 0),.atom (.int .i64 0)],.agg [.atom (.int .i64 0),.atom (.int .i64 0)],.agg [.atom (.int .i64 0),.atom (.int .i64 0)],.agg [.atom (.int .i64 0),.atom (.int .i64 0)],.agg [.atom (.int .i64 0),.atom (.int .i64 0)]]]),true⟩
theorem z9T:Zw Tryz.prog 193 zj5:=⟨⟨Tryz.t193,by kernel_rfl,rfl,rfl,fun z h=>by cases h;exact⟨_,rfl,rfl,fun S h=>zI (ze (zf rfl) (ze (zI (ze (zI (ze (zf rfl) (ze (zf rfl) (zC)))) (ze (zI (ze (zf rfl) (ze (zf rfl) (zC)))) (ze (zI (ze (zf rfl) (ze (zf rfl) (zC)))) (ze (zI (ze (zf rfl) (ze (zf rfl) (zC)))) (ze (zI (ze (zf rfl) (ze (zf rfl) (zC)))) (ze (zI (ze (zf rfl) (ze (zf rfl) (zC)))) (ze (zI (ze (zf rfl) (ze (zf rfl) (zC)))) (ze (zI (ze (zf rfl) (ze (zf rfl) (zC)))) (ze (zI (ze (zf rfl) (ze (zf rfl) (zC)))) (ze (zI (ze (zf rfl) (ze (zf rfl) (zC)))) (ze (zI (ze (zf rfl) (ze (zf rfl) (zC)))) (ze (zI (ze (zf rfl) (ze (zf rfl) (zC)))) (ze (zI (ze (zf rfl) (ze (zf rfl) (zC)))) (ze (zI (ze (zf rfl) (ze (zf rfl) (zC)))) (ze (zI (ze (zf rfl) (ze (zf rfl) (zC)))) (ze (zI (ze (zf rfl) (ze (zf rfl) (zC)))) (zC)))))))))))))))))) (zC)))⟩⟩,⟨_,Tryz.underlying193,by kernel_rfl,by
  intro f hf;simp only [List.mem_cons,List.not_mem_nil,or_false]at hf;rcases hf with rfl|rfl
  ·exact⟨Tryz.t3,by kernel_rfl⟩
  ·exact⟨Tryz.t190,by kernel_rfl⟩⟩,fun _=>z7d (Go.Ex.zcU.eqn rfl) rfl rfl rfl rfl⟩
def tiL:List (Nat×TI):=[(1,ti1),(2,ti2),(3,ti3),(4,ti4),(5,ti5),(9,ti9),(20,zoH),(22,zoG),(23,zoF),(25,zoE),(27,zoD),(28,zoC),(30,zoB),(32,zoA),(33,zoz),(40,zoy),(41,zox),(42,zow),(57,zov),(67,zou),(68,zot),(73,zos),(76,zor),(78,zoq),(80,zop),(82,zoo),(83,zon),(84,zom),(93,zol),(95,zok),(96,zoj),(97,zoi),(99,zoh),(104,zjy),(106,zjx),(111,zjw),(117,zjv),(120,zju),(125,zjt),(126,zjs),(127,zjr),(131,zjq),(136,zjp),(144,zjo),(146,zjn),(147,zjm),(148,zjl),(149,zjk),(150,zjj),(152,zji),(154,zjh),(155,zjg),(159,zjf),(162,zje),(166,zjd),(168,zjc),(169,zjb),(171,zja),(174,zj9),(187,zj8),(188,zj7),(190,zj6),(193,zj5)]
def yu:TT:=fun t=>(tiL.find? fun p=>p.1==t).map (·.2)
def zdJ (P:Program):List (Nat×TI)->Prop
 | []=>True
 | p::l=>Zw P p.1 p.2/\zdJ P l
theorem zdJ.mem:∀{l:List (Nat×TI)},zdJ P l->∀p∈l,Zw P p.1 p.2
 | p::_,h,q,hq=>by
  rcases List.mem_cons.1 hq with rfl|hq
  ·exact h.1
  ·exact zdJ.mem h.2 q hq
 | [],_,_,hq=>by cases hq
theorem ziY:zdJ Tryz.prog tiL:=⟨zj4,zj3,zj2,zj1,zj0,ziZ,zh9,zh8,zh7,zh6,zh5,zh4,zh3,zh2,zh1,zh0,zgZ,zgY,zgX,zgW,zgV,zgU,zgT,zgS,zgR,zgQ,zgP,zgO,zgN,zgM,zgL,zgK,zgJ,zen,zem,zel,zek,zej,zei,zeh,zeg,zef,zee,zed,zec,zeb,zea,ze9,ze8,ze7,ze6,ze5,ze4,ze3,ze2,ze1,ze0,zdZ,zdY,zdX,zdW,zdV,z9T,trivial⟩
theorem zt:wT Tryz.prog yu:=by
 intro t i h;unfold yu at h;rw [Option.map_eq_some_iff]at h;obtain⟨p,h1,rfl⟩:=h;have h2:=List.find?_some h1;have h3:=ziY.mem p (List.mem_of_find?_eq_some h1);rw [beq_iff_eq.1 h2]at h3;exact h3
theorem zq8:yu 1=some ⟨.other,1,8,some (.atom .nilFunc),false⟩:=rfl
theorem zq7:yu 2=some ⟨.int .i64,1,8,some (.atom (.int .i64 0)),false⟩:=rfl
theorem zq6:yu 3=some ⟨.int .i64,1,8,some (.atom (.int .i64 0)),false⟩:=rfl
theorem zq5:yu 4=some ⟨.bool,1,1,some (.atom (.bool false)),false⟩:=rfl
theorem zq4:yu 5=some ⟨.int .u8,1,1,some (.atom (.int .u8 0)),false⟩:=rfl
theorem zq3:yu 9=some ⟨.str,1,16,none,false⟩:=rfl
theorem zo1:yu 20=some ⟨.other,1,16,some (.atom .nilIface),false⟩:=rfl
theorem zo0:yu 22=some ⟨.slice 5,1,24,some (.osl 1 true []),false⟩:=rfl
theorem znZ:yu 23=some ⟨.slice 117,1,24,some (.osl 1 true []),false⟩:=rfl
theorem znY:yu 25=some ⟨.struct [(0,1),(1,1),(2,1),(3,1),(4,1)],5,56,some (.agg [.atom (.int .u8 0),.atom (.int .u8 0),.atom (.int .u8 0),.osl 1 true [],.osl 1 true []]),false⟩:=rfl
theorem znX:yu 27=some ⟨.struct [(0,5)],5,56,some (.agg [.agg [.atom (.int .u8 0),.atom (.int .u8 0),.atom (.int .u8 0),.osl 1 true [],.osl 1 true []]]),false⟩:=rfl
theorem znW:yu 28=some ⟨.slice 68,1,24,some (.osl 1 true []),false⟩:=rfl
theorem znV:yu 30=some ⟨.struct [(0,1),(1,1),(2,1)],3,40,some (.agg [.atom (.int .i64 0),.atom (.int .i64 0),.osl 1 true []]),false⟩:=rfl
theorem znU:yu 32=some ⟨.slice 40,1,24,some (.osl 1 true []),false⟩:=rfl
theorem znT:yu 33=some ⟨.int .i64,1,8,some (.atom (.int .i64 0)),false⟩:=rfl
theorem znS:yu 40=some ⟨.slice 3,1,24,some (.osl 1 true []),false⟩:=rfl
theorem znR:yu 41=some ⟨.other,1,8,some (.atom .nilFunc),false⟩:=rfl
theorem znQ:yu 42=some ⟨.other,1,8,some (.atom .nilFunc),false⟩:=rfl
theorem znP:yu 57=some ⟨.other,1,8,some (.atom .nilFunc),false⟩:=rfl
theorem znO:yu 67=some ⟨.struct [(0,1),(1,1)],2,16,some (.agg [.atom (.int .i64 0),.atom (.int .i64 0)]),true⟩:=rfl
theorem znN:yu 68=some ⟨.slice 67,1,24,some (.osl 2 true []),false⟩:=rfl
theorem znM:yu 73=some ⟨.other,1,8,some (.atom .nilFunc),false⟩:=rfl
theorem znL:yu 76=some ⟨.slice 78,1,24,some (.osl 1 true []),false⟩:=rfl
theorem znK:yu 78=some ⟨.int .u64,1,8,some (.atom (.int .u64 0)),false⟩:=rfl
theorem znJ:yu 80=some ⟨.other,1,8,some (.atom .nilFunc),false⟩:=rfl
theorem znI:yu 82=some ⟨.slice 32,1,24,some (.osl 1 true []),false⟩:=rfl
theorem znH:yu 83=some ⟨.other,1,8,some (.atom .nilFunc),false⟩:=rfl
theorem znG:yu 84=some ⟨.other,1,8,some (.atom .nilFunc),false⟩:=rfl
theorem znF:yu 93=some ⟨.other,1,8,some (.atom .nilFunc),false⟩:=rfl
theorem znE:yu 95=some ⟨.struct [(0,1),(1,1)],2,16,some (.agg [.atom (.int .i64 0),.atom .nilFunc]),false⟩:=rfl
theorem znD:yu 96=some ⟨.array 3 95,6,48,some (.agg [.agg [.atom (.int .i64 0),.atom .nilFunc],.agg [.atom (.int .i64 0),.atom .nilFunc],.agg [.atom (.int .i64 0),.atom .nilFunc]]),false⟩:=rfl
theorem znC:yu 97=some ⟨.other,1,8,some (.atom .nilFunc),false⟩:=rfl
theorem znB:yu 99=some ⟨.other,1,8,some (.atom .nilFunc),false⟩:=rfl
theorem zl6:yu 104=some ⟨.int .u32,1,4,some (.atom (.int .u32 0)),false⟩:=rfl
theorem zl5:yu 106=some ⟨.int .u64,1,8,some (.atom (.int .u64 0)),false⟩:=rfl
theorem zl4:yu 111=some ⟨.slice 4,1,24,some (.osl 1 true []),false⟩:=rfl
theorem zl3:yu 117=some ⟨.int .u16,1,2,some (.atom (.int .u16 0)),false⟩:=rfl
theorem zl2:yu 120=some ⟨.other,1,8,some (.atom .nilFunc),false⟩:=rfl
theorem zl1:yu 125=some ⟨.array 64 40,64,1536,some (.agg (List.replicate 64 (.dop (nlQ 1 [])))),false⟩:=rfl
theorem zl0:yu 126=some ⟨.ptr 154,1,8,some (.atom (.pointer none)),false⟩:=rfl
theorem zkZ:yu 127=some ⟨.other,1,8,some (.atom .nilFunc),false⟩:=rfl
theorem zkY:yu 131=some ⟨.other,1,8,some (.atom .nilFunc),false⟩:=rfl
theorem zkX:yu 136=some ⟨.slice 111,1,24,some (.osl 1 true []),false⟩:=rfl
theorem zkW:yu 144=some ⟨.slice 171,1,24,some (.osl 2 true []),false⟩:=rfl
theorem zkV:yu 146=some ⟨.other,1,8,some (.atom .nilFunc),false⟩:=rfl
theorem zkU:yu 147=some ⟨.other,1,8,some (.atom .nilFunc),false⟩:=rfl
theorem zkT:yu 148=some ⟨.other,1,8,some (.atom .nilFunc),false⟩:=rfl
theorem zkS:yu 149=some ⟨.other,1,8,some (.atom .nilFunc),false⟩:=rfl
theorem zkR:yu 150=some ⟨.other,1,8,some (.atom .nilFunc),false⟩:=rfl
theorem zkQ:yu 152=some ⟨.other,1,8,some (.atom .nilFunc),false⟩:=rfl
theorem zkP:yu 154=some ⟨.array 64 125,4096,98304,some (.agg (List.replicate 64 (.agg (List.replicate 64 (.dop (nlQ 1 [])))))),false⟩:=rfl
theorem zkO:yu 155=some ⟨.slice 159,1,24,some (.osl 4 true []),false⟩:=rfl
theorem zkN:yu 159=some ⟨.struct [(0,1),(1,1),(2,1),(3,1)],4,48,some (.agg [.atom (.int .i64 0),.atom (.int .i64 0),.osl 1 true [],.atom (.bool false)]),false⟩:=rfl
theorem zkM:yu 162=some ⟨.array 64 5,64,64,some (.agg (List.replicate 64 (.atom (.int .u8 0)))),false⟩:=rfl
theorem zkL:yu 166=some ⟨.other,1,8,some (.atom .nilFunc),false⟩:=rfl
theorem zkK:yu 168=some ⟨.other,1,8,some (.atom .nilFunc),false⟩:=rfl
theorem zkJ:yu 169=some ⟨.other,1,8,some (.atom .nilFunc),false⟩:=rfl
theorem zkI:yu 171=some ⟨.array 2 3,2,16,some (.agg [.atom (.int .i64 0),.atom (.int .i64 0)]),true⟩:=rfl
theorem zkH:yu 174=some ⟨.other,1,8,some (.atom .nilFunc),false⟩:=rfl
theorem zkG:yu 187=some ⟨.other,1,8,some (.atom .nilFunc),false⟩:=rfl
theorem zkF:yu 188=some ⟨.other,1,8,some (.atom (.map none)),false⟩:=rfl
theorem zkE:yu 190=some ⟨.array 16 171,32,256,some (.agg [.agg [.atom (.int .i64 0),.atom (.int .i64 0)],.agg [.atom (.int .i64 0),.atom (.int .i64 0)],.agg [.atom (.int .i64 0),.atom (.int .i64 0)],.agg [.atom (.int .i64 0),.atom (.int .i64 0)],.agg [.atom (.int .i64 0),.atom (.int .i64 0)],.agg [.atom (.int .i64 0),.atom (.int .i64 0)],.agg [.atom (.int .i64 0),.atom (.int .i64 0)],.agg [.atom (.int .i64 0),.atom (.int .i64 0)],.agg [.atom (.int .i64 0),.atom (.int .i64 0)],.agg [.atom (.int .i64 0),.atom (.int .i64 0)],.agg [.atom (.int .i64 0),.atom (.int .i64 0)],.agg [.atom (.int .i64 0),.atom (.int .i64 0)],.agg [.atom (.int .i64 0),.atom (.int .i64 0)],.agg [.atom (.int .i64 0),.atom (.int .i64 0)],.agg [.atom (.int .i64 0),.atom (.int .i64 0)],.agg [.atom (.int .i64 0),.atom (.int .i64 0)]]),true⟩:=rfl
theorem zkD:yu 193=some ⟨.struct [(0,1),(1,32)],33,264,some (.agg [.atom (.int .i64 0),.agg [.agg [.atom (.int .i64 0),.atom (.int .i64 0)],.agg [.atom (.int .i64 0),.atom (.int .i64 0)],.agg [.atom (.int .i64 0),.atom (.int .i64 0)],.agg [.atom (.int .i64 0),.atom (.int .i64 0)],.agg [.atom (.int .i64 0),.atom (.int .i64 0)],.agg [.atom (.int .i64 0),.atom (.int .i64 0)],.agg [.atom (.int .i64 0),.atom (.int .i64 0)],.agg [.atom (.int .i64 0),.atom (.int .i64 0)],.agg [.atom (.int .i64 0),.atom (.int .i64 0)],.agg [.atom (.int .i64 0),.atom (.int .i64 0)],.agg [.atom (.int .i64 0),.atom (.int .i64 0)],.agg [.atom (.int .i64 0),.atom (.int .i64 0)],.agg [.atom (.int .i64 0),.atom (.int .i64 0)],.agg [.atom (.int .i64 0),.atom (.int .i64 0)],.agg [.atom (.int .i64 0),.atom (.int .i64 0)],.agg [.atom (.int .i64 0),.atom (.int .i64 0)]]]),true⟩:=rfl
attribute [go_sem] zq8 zq7 zq6 zq5 zq4 zq3 zo1 zo0 znZ znY znX znW znV znU znT znS znR znQ znP znO znN znM znL znK znJ znI znH znG znF znE znD znC znB zl6 zl5 zl4 zl3 zl2 zl1 zl0 zkZ zkY zkX zkW zkV zkU zkT zkS zkR zkQ zkP zkO zkN zkM zkL zkK zkJ zkI zkH zkG zkF zkE zkD
end Go.Own

namespace Go.Proofs
open Go.RowKit Go.Lib
theorem Tryz.groI:(Tryz.prog.info? 3).map (fun i=>(i.size,i.bytes,i.zero))=some (1,8,some (.int .i64 0)):=by kernel_rfl
set_option maxHeartbeats 4000000 in
set_option maxRecDepth 100000 in
theorem Tryz.gro_run (p:Option Addr)(n:Nat)(w:World)(h0:0<n)(h1:n<=1000000) :
  Calls Tryz.prog 168 #[.slice p 0 0,.int .i64 n] w fun e w'=>
   e=.returned (.slice (some ⟨w.heap.size,0,none⟩) 0 (grownCap w n 0 3)) /\
   w'=w.drew.alloc (.cells (#[]++Builtin.zeroCells (Value.int .i64 0).cells n++Builtin.zeroCells (Value.int .i64 0).cells (grownCap w n 0 3 - n)) 3):=by
 obtain⟨i0,hi0,hi⟩:=Option.map_eq_some_iff.1 Tryz.groI;obtain⟨hs0,hi⟩:=Prod.mk.inj hi;obtain⟨hb0,hz0⟩:=Prod.mk.inj hi;have mixed:Tryz.prog.follows .mixedOrders=true:=by kernel_rfl
 have h1':¬((n:Int)<0):=by omega
 have h3:wrap64 ((n:Int))=(n:Int):=by unfold wrap64;omega
 have h4:(n:Int) > 0:=by omega
 have hold:(Builtin.firstCells i0.size 0 (.slice p 0 0)).run Tryz.prog w.drew=.ok ([]:List Value).toArray w.drew:=by
  cases p with
  | none=>exact run_firstCells_none w.drew i0.size 0 0 0
  | some a=>exact run_firstCells_some w.drew i0.size 0 a 0 0 [] (by simp) (fun j v hj=>by simp at hj)
 have hrz:∀ty,(Builtin.append_ #[40,3] ty #[.slice p 0 0,.int .i64 (n:Int)]).run Tryz.prog w =
   .ok (.slice (some ⟨w.heap.size,0,none⟩) n (grownCap w n 0 3)) (w.drew.alloc (.cells (#[]++Builtin.zeroCells (Value.int .i64 0).cells n++Builtin.zeroCells (Value.int .i64 0).cells (grownCap w n 0 3 - n)) 3)):=fun ty=>by
  have h:=Lib.run_append_grow_zeros w 40 3 ty 3 i0 (.int .i64 0) .i64 .i64 Tryz.underlying40 Tryz.underlying3 hi0 hz0 p 0 0 [] hold n h0 (by omega) (by omega) (by omega)
   (by rw [hb0];omega)
   (by rw [Nat.zero_add];exact growslice_fits h0 (by rw [hb0];omega))
  rw [Nat.zero_add]at h;exact h
 have hGn:n<=grownCap w n 0 3:=grownCap_ge w _ _ _;obtain⟨G,hG⟩:∃G,G=grownCap w n 0 3:=⟨_,rfl⟩;rw [<-hG]at hrz hGn ⊢;have hG63:G<=9223372036854775807:=by
  have:=grownCap_le_maxLen w n 0 3 (by unfold maxLen;omega)
  rw [<-hG]at this;unfold maxLen at this;omega
 clear hold hG
 go_enter Tryz.func168,Tryz.ntmps168
 cases p with
 | none=>
  go_wp2_with (at_builtin;refine Lib.wpList_append_run _ rfl _ _ _ _ rfl _ _ rfl rfl _ _ (hrz _) ?_)
  all_goals (go_ret;exact⟨rfl,rfl⟩)
 | some a=>
  obtain⟨ab,ao,asp⟩:=a
  go_wp2_with (at_builtin;refine Lib.wpList_append_run _ rfl _ _ _ _ rfl _ _ rfl rfl _ _ (hrz _) ?_)
  all_goals (go_ret;exact⟨rfl,rfl⟩)
end Go.Proofs
namespace Go.Own
open Go.Proofs
theorem zcY (n:Int)(h0:0<n)(h1:n<=1000000):UB Tryz.prog 168 [.sl 1 true [],eI .i64 n] (.osl 1 false []):=by
 refine⟨⟨_,Tryz.func168,by kernel_rfl,by kernel_rfl⟩,?_⟩
 intro S w vs F hS hq hF;obtain⟨m,rfl⟩:∃m:Nat,n=(m:Int):=⟨n.toNat,by omega⟩
 match vs,hq with
 | [u,v],q=>
  obtain⟨F1,F2,rfl,q1,F3,F4,rfl,q2,q3⟩:=q;have e3:F4=[]:=q3;subst e3;have d:∀{x:A} {u:Value} {F:List Nat},x.isD=true->Has S w.heap x u F->ut S x u/\F=[]:=by
   intro x u F hx q;rcases q with⟨q,rfl⟩|⟨cs,q1,q2,q3⟩
   ·exact⟨q.rep1 hx,rfl⟩
   ·obtain⟨r,rfl⟩:=q1.isD hx
    exact⟨⟨cs,r,q3⟩,rfl⟩
  obtain⟨⟨cs,r1,e1⟩,rfl⟩:=d rfl q1;obtain⟨⟨ds,r2,e2⟩,rfl⟩:=d rfl q2;simp only [Rep]at r1;obtain⟨p,c,rfl,hc,_⟩:=r1;obtain rfl:c=0:=by simpa using hc
  have hv:v=.int .i64 (m:Int):=by
   rw [e2];obtain⟨rfl,_⟩:ds=[.int .i64 (m:Int)]/\_:=by simpa only [eI,Rep] using r2
   rfl
  have hu:u=.slice p 0 0:=by rw [e1];rfl
  subst hv hu;refine(Tryz.gro_run p m w (by omega) (by omega)).mono ?_
  rintro e' w' ⟨rfl,rfl⟩;have hsz:∀k,(Builtin.zeroCells (Value.int .i64 0).cells k).size=k:=fun k=>by simp [Builtin.zeroCells,Value.cells]
  have hGn:m<=grownCap w m 0 3:=grownCap_ge w _ _ _;have hGm:=grownCap_le_maxLen w m 0 3 (by unfold maxLen;omega)
  have hfr:∀o,S w.heap.size o=none:=fun o=>by
   cases hh:S w.heap.size o with
   | none=>rfl
   | some x=>have:=hS _ _ _ hh;simp [ye]at this
  generalize grownCap w m 0 3=G at hGn hGm ⊢;refine⟨_,S,[w.heap.size],rfl,((VO.refl _ _).drew).alloc (.inl (Nat.le_refl _)) _,fun _ _ _ h=>h,fun _ _ _ _=>rfl,⟨fun b o v h=>?_,hS.gok⟩,.inr ⟨[.slice (some ⟨w.heap.size,0,none⟩) 0 G],?_,by simp,rfl⟩,by simp,by simp⟩
  ·have h':=hS _ _ _ h
   have hne:b≠w.heap.size:=by rintro rfl;rw [hfr]at h;cases h
   show ye (w.heap.push _) b o=some v
   unfold ye at h' ⊢;rw [Array.getElem?_push,if_neg hne];exact h'
  ·simp only [zK]
   refine⟨_,G,rfl,by simp,by simp,hGm,by simp,.inr ⟨w.heap.size,_,3,[],[],rfl,by show(w.heap.push _)[w.heap.size]?=_;rw [Array.getElem?_push,if_pos rfl],?_,by simp,⟨rfl,rfl⟩,rfl,hfr⟩⟩
   simp only [Array.size_append,hsz,Array.size_empty];omega
structure wz (α:Type) where
 e0:α
 e1:α
 deriving DecidableEq
instance {α:Type}[BEq α]:BEq (wz α):=⟨fun x y=>(x.e0==y.e0)&&(x.e1==y.e1)⟩
section
variable {α:Type}
def z1e (f:α->A)(x:wz α):A:=.agg [f x.e0,f x.e1]
instance (f:α->A)[h:z7E f]:z7E (z1e f):=⟨fun x=>by simp [z1e,A.isD,A.areD,h.isD]⟩
instance (f g:α->A)[h:z1N f g]:z1N (z1e f) (z1e g):=⟨fun x=>by simp [z1e,A.loose,A.looses,h.lo]⟩
instance (f g:α->A)[h:Kv f g]:Kv (z1e f) (z1e g):=⟨fun x=>by simp [z1e,A.live,A.lives,h.live],fun x=>by simp [z1e,A.shut,A.shuts,h.sh]⟩
instance (f:α->A)[h:Yc f]:Yc (z1e f):=⟨fun x y q=>by
 simp only [z1e,A.agg.injEq,List.cons.injEq,and_true]at q;cases x;cases y
 simp only [wz.mk.injEq];exact⟨h.inj _ _ q.1,h.inj _ _ q.2⟩⟩
end
structure xe (α:Type) where
 e0:α
 e1:α
 e2:α
 e3:α
 e4:α
 e5:α
 e6:α
 e7:α
 e8:α
 e9:α
 e10:α
 e11:α
 e12:α
 e13:α
 e14:α
 e15:α
 deriving DecidableEq
instance {α:Type}[BEq α]:BEq (xe α):=⟨fun x y=>(x.e0==y.e0)&&(x.e1==y.e1)&&(x.e2==y.e2)&&(x.e3==y.e3)&&(x.e4==y.e4)&&(x.e5==y.e5)&&(x.e6==y.e6)&&(x.e7==y.e7)&&(x.e8==y.e8)&&(x.e9==y.e9)&&(x.e10==y.e10)&&(x.e11==y.e11)&&(x.e12==y.e12)&&(x.e13==y.e13)&&(x.e14==y.e14)&&(x.e15==y.e15)⟩
section
variable {α:Type}
def zdd (f:α->A)(x:xe α):A:=.agg [f x.e0,f x.e1,f x.e2,f x.e3,f x.e4,f x.e5,f x.e6,f x.e7,f x.e8,f x.e9,f x.e10,f x.e11,f x.e12,f x.e13,f x.e14,f x.e15]
end
section
variable {α:Type}
def xe.toL (x:xe α):List α:=[x.e0,x.e1,x.e2,x.e3,x.e4,x.e5,x.e6,x.e7,x.e8,x.e9,x.e10,x.e11,x.e12,x.e13,x.e14,x.e15]
def xe.ofL:List α->xe α->xe α
 | [x0,x1,x2,x3,x4,x5,x6,x7,x8,x9,cr,ep,x12,dc,cj,x15],_=>⟨x0,x1,x2,x3,x4,x5,x6,x7,x8,x9,cr,ep,x12,dc,cj,x15⟩
 | _,d=>d
theorem xe.toL_ofL (l:List α)(d:xe α)(h:l.length=16):(xe.ofL l d).toL=l:=by
 match l,h with
 | [x0,x1,x2,x3,x4,x5,x6,x7,x8,x9,cr,ep,x12,dc,cj,x15],_=>rfl
def xe.setI (x:xe α)(i:Int)(v:α):xe α:=xe.ofL (x.toL.set i.toNat v) x
theorem xe.setL (f:α->A)(x:xe α)(i:Int)(v:α):(x.toL.map f).set i.toNat (f v)=((xe.setI x i v).toL).map f:=by
 unfold xe.setI;rw [xe.toL_ofL _ _ (by simp [xe.toL]),List.map_set]
end
structure zD where
 States:Int
 Inputs:Int
 Outputs:Int
 Tree:List Int
 Edges:List Int
def ZG (f0:Int->A)(f1:Int->A)(f2:Int->A)(f3:List Int->A)(f4:List Int->A)(x:zD):A:=.agg [f0 x.States,f1 x.Inputs,f2 x.Outputs,f3 x.Tree,f4 x.Edges]
instance (f0:Int->A)(f1:Int->A)(f2:Int->A)(f3:List Int->A)(f4:List Int->A)(g0:Int->A)(g1:Int->A)(g2:Int->A)(g3:List Int->A)(g4:List Int->A)[h0:z1N f0 g0][h1:z1N f1 g1][h2:z1N f2 g2][h3:z1N f3 g3][h4:z1N f4 g4]:z1N (ZG f0 f1 f2 f3 f4) (ZG g0 g1 g2 g3 g4):=⟨fun x=>by simp [ZG,A.loose,A.looses,h0.lo,h1.lo,h2.lo,h3.lo,h4.lo]⟩
instance (f0:Int->A)(f1:Int->A)(f2:Int->A)(f3:List Int->A)(f4:List Int->A)[h0:Yc f0][h1:Yc f1][h2:Yc f2][h3:Yc f3][h4:Yc f4]:Yc (ZG f0 f1 f2 f3 f4):=⟨fun x y h=>by
 simp only [ZG,A.agg.injEq,List.cons.injEq,and_true]at h;cases x;cases y
 simp only [zD.mk.injEq];exact⟨h0.inj _ _ h.1,h1.inj _ _ h.2.1,h2.inj _ _ h.2.2.1,h3.inj _ _ h.2.2.2.1,h4.inj _ _ h.2.2.2.2⟩⟩
structure ub where
 C:zD
def ZF (f0:zD->A)(x:ub):A:=.agg [f0 x.C]
instance (f0:zD->A)(g0:zD->A)[h0:z1N f0 g0]:z1N (ZF f0) (ZF g0):=⟨fun x=>by simp [ZF,A.loose,A.looses,h0.lo]⟩
instance (f0:zD->A)[h0:Yc f0]:Yc (ZF f0):=⟨fun x y h=>by
 simp only [ZF,A.agg.injEq,List.cons.injEq,and_true]at h;cases x;cases y
 simp only [ub.mk.injEq];exact h0.inj _ _ h⟩
structure z8 where
 To:Int
 Out:Int
def vM (f0:Int->A)(f1:Int->A)(x:z8):A:=.agg [f0 x.To,f1 x.Out]
instance (f0:Int->A)(f1:Int->A)[h0:z7E f0][h1:z7E f1]:z7E (vM f0 f1):=⟨fun x=>by simp [vM,A.isD,A.areD,h0.isD,h1.isD]⟩
instance (f0:Int->A)(f1:Int->A)(g0:Int->A)(g1:Int->A)[h0:z1N f0 g0][h1:z1N f1 g1]:z1N (vM f0 f1) (vM g0 g1):=⟨fun x=>by simp [vM,A.loose,A.looses,h0.lo,h1.lo]⟩
instance (f0:Int->A)(f1:Int->A)(g0:Int->A)(g1:Int->A)[h0:Kv f0 g0][h1:Kv f1 g1]:Kv (vM f0 f1) (vM g0 g1):=⟨fun x=>by simp [vM,A.live,A.lives,h0.live,h1.live],fun x=>by simp [vM,A.shut,A.shuts,h0.sh,h1.sh]⟩
instance (f0:Int->A)(f1:Int->A)[h0:Yc f0][h1:Yc f1]:Yc (vM f0 f1):=⟨fun x y h=>by
 simp only [vM,A.agg.injEq,List.cons.injEq,and_true]at h;cases x;cases y
 simp only [z8.mk.injEq];exact⟨h0.inj _ _ h.1,h1.inj _ _ h.2⟩⟩
structure z6 where
 Inputs:Int
 Outputs:Int
 Rows:List (List z8)
def wo (f0:Int->A)(f1:Int->A)(f2:List (List z8)->A)(x:z6):A:=.agg [f0 x.Inputs,f1 x.Outputs,f2 x.Rows]
instance (f0:Int->A)(f1:Int->A)(f2:List (List z8)->A)(g0:Int->A)(g1:Int->A)(g2:List (List z8)->A)[h0:z1N f0 g0][h1:z1N f1 g1][h2:z1N f2 g2]:z1N (wo f0 f1 f2) (wo g0 g1 g2):=⟨fun x=>by simp [wo,A.loose,A.looses,h0.lo,h1.lo,h2.lo]⟩
instance (f0:Int->A)(f1:Int->A)(f2:List (List z8)->A)[h0:Yc f0][h1:Yc f1][h2:Yc f2]:Yc (wo f0 f1 f2):=⟨fun x y h=>by
 simp only [wo,A.agg.injEq,List.cons.injEq,and_true]at h;cases x;cases y
 simp only [z6.mk.injEq];exact⟨h0.inj _ _ h.1,h1.inj _ _ h.2.1,h2.inj _ _ h.2.2⟩⟩
instance (f0:Int->A)(f1:Int->A)(f2:List (List z8)->A)(g0:Int->A)(g1:Int->A)(g2:List (List z8)->A)(x:z6)[∀y,LeA (f0 y) (g0 y)][∀y,LeA (f1 y) (g1 y)][∀y,LeA (f2 y) (g2 y)][∀y,SzA (f0 y) (g0 y)][∀y,SzA (f1 y) (g1 y)][∀y,SzA (f2 y) (g2 y)]:LeA (wo f0 f1 f2 x) (wo g0 g1 g2 x):=by unfold wo;infer_instance
structure zz where
 block_:Int
 signature_:xe (wz Int)
instance:BEq zz:=⟨fun x y=>(x.block_==y.block_)&&(x.signature_==y.signature_)⟩
def QD (f0:Int->A)(f1:xe (wz Int)->A)(x:zz):A:=.agg [f0 x.block_,f1 x.signature_]
structure zF where
 S:Int
 T:Int
 Word:List Int
 Apart:Bool
def zU (f0:Int->A)(f1:Int->A)(f2:List Int->A)(f3:Bool->A)(x:zF):A:=.agg [f0 x.S,f1 x.T,f2 x.Word,f3 x.Apart]
instance (f0:Int->A)(f1:Int->A)(f2:List Int->A)(f3:Bool->A)[h0:z7E f0][h1:z7E f1][h2:z7E f2][h3:z7E f3]:z7E (zU f0 f1 f2 f3):=⟨fun x=>by simp [zU,A.isD,A.areD,h0.isD,h1.isD,h2.isD,h3.isD]⟩
instance (f0:Int->A)(f1:Int->A)(f2:List Int->A)(f3:Bool->A)(g0:Int->A)(g1:Int->A)(g2:List Int->A)(g3:Bool->A)[h0:Kv f0 g0][h1:Kv f1 g1][h2:Kv f2 g2][h3:Kv f3 g3]:Kv (zU f0 f1 f2 f3) (zU g0 g1 g2 g3):=⟨fun x=>by simp [zU,A.live,A.lives,h0.live,h1.live,h2.live,h3.live],fun x=>by simp [zU,A.shut,A.shuts,h0.sh,h1.sh,h2.sh,h3.sh]⟩
instance:zpk (K:=zz) (QD (eI .i64) (zdd (z1e (eI .i64)))):=⟨fun x y=>by
 obtain⟨_,⟨⟨_,_⟩,⟨_,_⟩,⟨_,_⟩,⟨_,_⟩,⟨_,_⟩,⟨_,_⟩,⟨_,_⟩,⟨_,_⟩,⟨_,_⟩,⟨_,_⟩,⟨_,_⟩,⟨_,_⟩,⟨_,_⟩,⟨_,_⟩,⟨_,_⟩,⟨_,_⟩⟩⟩:=x;obtain⟨_,⟨⟨_,_⟩,⟨_,_⟩,⟨_,_⟩,⟨_,_⟩,⟨_,_⟩,⟨_,_⟩,⟨_,_⟩,⟨_,_⟩,⟨_,_⟩,⟨_,_⟩,⟨_,_⟩,⟨_,_⟩,⟨_,_⟩,⟨_,_⟩,⟨_,_⟩,⟨_,_⟩⟩⟩:=y;simp only [zdd,z1e,QD,eI,z3G,z73,z73.keyLs,zZ,BEq.beq,Option.map_some,Option.some.injEq,Value.agg.injEq,List.cons_append,List.nil_append,List.append_nil,Array.mk.injEq,List.cons.injEq,Value.int.injEq,true_and,and_true,Bool.and_eq_true,decide_eq_true_eq,and_assoc]⟩
def zia:ArN 64 Int:=⟨znw,rfl⟩
def Yb (l_:List Int)(k_:Int):Option Int :=
 bif decide (k_<((l_.length:Nat):Int)) then(
  (idx l_ k_).bind fun bw=>
  some (w64 (bw)))
 else(
  some 0)
def WD (x_:zD)(gr:List (List z8)):Option z6 :=
 some (z6.mk (w64 (1+(w64 (Int.tmod x_.Inputs 3)))) (w64 (1+(w64 (Int.tmod x_.Outputs 3)))) gr)
def WC (s_:Int)(gt:List (List z8)):Option (LR (List (List z8)×Int) (List (List z8))) :=
 some (.next (gt,w64 (s_+1)))
def YS (i_:Int)(gu:List (List z8)):Option (LR (List (List z8)×Int) (List (List z8))) :=
 some (.next (gu,w64 (i_+1)))
def Zi (x_:zD)(s_:Int)(cq:List (List z8))(i_:Int):Option (LR (List (List z8)×Int) (List (List z8))) :=
 bif decide (i_<(w64 (1+(w64 (Int.tmod x_.Inputs 3))))) then(
  (idx cq s_).bind fun kb=>
  (idx kb i_).bind fun jg=>
  bif decide (jg.To<0) then(
   (idx cq s_).bind fun fg=>
   (Yb x_.Edges (w64 ((w64 (s_*(w64 (1+(w64 (Int.tmod x_.Inputs 3))))))+i_))).bind fun r_=>
   gd (((w64 (1+(w64 (Int.tmod x_.States 6)))):Int)≠0) <|
   (idx fg i_).bind fun ez=>
   YS i_ (cq.set s_.toNat (fg.set i_.toNat (z8.mk (Int.tmod r_ (w64 (1+(w64 (Int.tmod x_.States 6))))) ez.Out))))
  else(
   YS i_ cq))
 else(
  some (.done cq))
def Zj (x_:zD)(eu:List (List z8))(s_:Int):Option (LR (List (List z8)×Int) (List (List z8))) :=
 bif decide (s_<(w64 (1+(w64 (Int.tmod x_.States 6))))) then(
  (loop (fun s=>Zi x_ s_ s.1 s.2) (eu,0)).bind fun t6=>
  WC s_ t6)
 else(
  some (.done eu))
def WE (x_:zD)(gb:List (List z8)):Option z6 :=
 (loop (fun s=>Zj x_ s.1 s.2) (gb,0)).bind fun t4=>
 WD x_ t4
def WB (a7:Int)(gv:List (List z8)):Option (LR (List (List z8)×Int) (List (List z8))) :=
 some (.next (gv,w64 (a7+1)))
def uk (x_:zD)(a6:List (List z8))(a7:Int)(k_:Int):Option (LR (List (List z8)×Int) (List (List z8))) :=
 gd (((w64 (1+(w64 (Int.tmod x_.Inputs 3)))):Int)≠0) <|
 (idx a6 (w64 (Int.tdiv k_ (w64 (1+(w64 (Int.tmod x_.Inputs 3))))))).bind fun fh=>
 gd (((w64 (1+(w64 (Int.tmod x_.Inputs 3)))):Int)≠0) <|
 (idx fh (Int.tmod k_ (w64 (1+(w64 (Int.tmod x_.Inputs 3)))))).bind fun fc=>
 WB a7 (a6.set (w64 (Int.tdiv k_ (w64 (1+(w64 (Int.tmod x_.Inputs 3)))))).toNat (fh.set (Int.tmod k_ (w64 (1+(w64 (Int.tmod x_.Inputs 3))))).toNat (z8.mk a7 fc.Out)))
def XG (x_:zD)(a6:List (List z8))(a7:Int)(free:List Int):Option (LR (List (List z8)×Int) (List (List z8))) :=
 (idx free 0).bind fun ix=>
 bif decide ((w64 (a7 - 1))<((x_.Tree.length:Nat):Int)) then(
  (idx x_.Tree (w64 (a7 - 1))).bind fun kj=>
  gd ((((free.length:Nat):Int):Int)≠0) <|
  (idx free (Int.tmod (w64 (kj)) ((free.length:Nat):Int))).bind fun jf=>
  uk x_ a6 a7 jf)
 else(
  uk x_ a6 a7 ix)
def ZD (ba:Int)(iy:List Int):Option (LR (List Int×Int) (List Int)) :=
 some (.next (iy,w64 (ba+1)))
def qZ (x_:zD)(a6:List (List z8))(a7:Int)(ee:List Int)(ba:Int):Option (LR (List Int×Int) (List Int)) :=
 bif decide (ba<(w64 (a7*(w64 (1+(w64 (Int.tmod x_.Inputs 3))))))) then(
  gd (((w64 (1+(w64 (Int.tmod x_.Inputs 3)))):Int)≠0) <|
  (idx a6 (w64 (Int.tdiv ba (w64 (1+(w64 (Int.tmod x_.Inputs 3))))))).bind fun jv=>
  gd (((w64 (1+(w64 (Int.tmod x_.Inputs 3)))):Int)≠0) <|
  (idx jv (Int.tmod ba (w64 (1+(w64 (Int.tmod x_.Inputs 3)))))).bind fun iz=>
  bif decide (iz.To<0) then(
   gd (ee.length+([ba]:List Int).length<=4294967296) <|
   ZD ba (ee++([ba]:List Int)))
  else(
   ZD ba ee))
 else(
  some (.done ee))
def Zh (x_:zD)(a6:List (List z8))(a7:Int):Option (LR (List (List z8)×Int) (List (List z8))) :=
 bif decide (a7<(w64 (1+(w64 (Int.tmod x_.States 6))))) then(
  (loop (fun s=>qZ x_ a6 a7 s.1 s.2) (([]:List Int),0)).bind fun t12=>
  XG x_ a6 a7 t12)
 else(
  some (.done a6))
def WF (x_:zD)(gw:List (List z8)):Option z6 :=
 (loop (fun s=>Zh x_ s.1 s.2) (gw,1)).bind fun t8=>
 WE x_ t8
def XF (bi:Int)(ge:List (List z8)):Option (LR (List (List z8)×Int) (List (List z8))) :=
 some (.next (ge,w64 (bi+1)))
def XE (bq:List (List z8))(bi:Int)(row:List z8):Option (LR (List (List z8)×Int) (List (List z8))) :=
 gd (bq.length+([row]:List (List z8)).length<=4294967296) <|
 XF bi (bq++([row]:List (List z8)))
def qX (x_:zD)(bi:Int)(cb:List z8)(i3:Int):Option (LR (List z8×Int) (List z8)) :=
 bif decide (i3<(w64 (1+(w64 (Int.tmod x_.Inputs 3))))) then(
  (Yb x_.Edges (w64 ((w64 (bi*(w64 (1+(w64 (Int.tmod x_.Inputs 3))))))+i3))).bind fun ah=>
  gd (((w64 (1+(w64 (Int.tmod x_.States 6)))):Int)≠0) <|
  gd (((w64 (1+(w64 (Int.tmod x_.Outputs 3)))):Int)≠0) <|
  gd (cb.length+([(z8.mk (-1) (Int.tmod (w64 (Int.tdiv ah (w64 (1+(w64 (Int.tmod x_.States 6)))))) (w64 (1+(w64 (Int.tmod x_.Outputs 3))))))]:List z8).length<=4294967296) <|
  some (.next ((cb++([(z8.mk (-1) (Int.tmod (w64 (Int.tdiv ah (w64 (1+(w64 (Int.tmod x_.States 6)))))) (w64 (1+(w64 (Int.tmod x_.Outputs 3))))))]:List z8)),w64 (i3+1))))
 else(
  some (.done cb))
def qY (x_:zD)(bq:List (List z8))(bi:Int):Option (LR (List (List z8)×Int) (List (List z8))) :=
 bif decide (bi<(w64 (1+(w64 (Int.tmod x_.States 6))))) then(
  (loop (fun s=>qX x_ bi s.1 s.2) (([]:List z8),0)).bind fun t17=>
  XE bq bi t17)
 else(
  some (.done bq))
def Q6 (x_:zD):Option z6 :=
 gd ((6:Int)≠0) <|
 gd ((3:Int)≠0) <|
 gd ((3:Int)≠0) <|
 (loop (fun s=>qY x_ s.1 s.2) (([]:List (List z8)),0)).bind fun mb=>
 WF x_ mb
def UQ:Option Int :=
 some 0
def qV (i_:Int)(ln:Int)(lp:Bool)(lq:Bool)(lu:Bool)(lv:Bool)(jw:Bool):Option (LR Int (Unit⊕Int)) :=
 some (.next (w64 (i_+1)))
def qU (m_:z6)(au:List (List Bool))(s_:Int)(t_:Int)(i_:Int):Option (LR Int (Unit⊕Int)) :=
 bif decide (i_<m_.Inputs) then(
  (idx m_.Rows s_).bind fun am=>
  (idx am i_).bind fun ak=>
  (idx m_.Rows t_).bind fun ie=>
  (idx ie i_).bind fun bn=>
  bif ak.Out != bn.Out then(
   some (.done (.inr 1)))
  else(
   bif decide (ak.To>=0) then(
    bif decide (bn.To>=0) then(
     (idx au ak.To).bind fun du=>
     (idx du bn.To).bind fun cd=>
     bif cd then(
      some (.done (.inr 1)))
     else(
      qV i_ ak.To (decide (ak.To>=0)) (decide (ak.To>=0)) (decide (bn.To>=0)) (decide (bn.To>=0)) cd))
    else(
     qV i_ ak.To (decide (ak.To>=0)) (decide (ak.To>=0)) (decide (bn.To>=0)) (decide (bn.To>=0)) false))
   else(
    qV i_ ak.To (decide (ak.To>=0)) (decide (ak.To>=0)) false false false)))
 else(
  some (.done (.inl ())))
def Vj (m_:z6)(au:List (List Bool))(s_:Int)(t_:Int):Option Int :=
 (loop (fun s=>qU m_ au s_ t_ s) 0).bind fun t2=>
 match t2 with
 | .inl p=>UQ
 | .inr p=>some p
def YF (il:List (List Bool)):Option (List (List Bool)) :=
 some il
def YE (round:Int)(gx:List (List Bool)):Option (LR (List (List Bool)×Int) (List (List Bool))) :=
 some (.next (gx,w64 (round+1)))
def YD (round:Int)(next:List (List Bool)):Option (LR (List (List Bool)×Int) (List (List Bool))) :=
 YE round next
def YC (s_:Int)(fe:List (List Bool)):Option (LR (List (List Bool)×Int) (List (List Bool))) :=
 some (.next (fe,w64 (s_+1)))
def vq (m_:z6)(bc:List (List Bool))(s_:Int)(bz:List (List Bool))(t_:Int):Option (LR (List (List Bool)×Int) (List (List Bool))) :=
 bif decide (t_<((m_.Rows.length:Nat):Int)) then(
  (idx bz s_).bind fun dv=>
  (idx bc s_).bind fun du=>
  (idx du t_).bind fun cd=>
  bif cd then(
   (idx dv t_).bind fun k0=>
   some (.next ((bz.set s_.toNat (dv.set t_.toNat true)),w64 (t_+1))))
  else(
   (Vj m_ bc s_ t_).bind fun r_=>
   (idx dv t_).bind fun kl=>
   some (.next ((bz.set s_.toNat (dv.set t_.toNat (r_==1))),w64 (t_+1)))))
 else(
  some (.done bz))
def vt (m_:z6)(bc:List (List Bool))(cm:List (List Bool))(s_:Int):Option (LR (List (List Bool)×Int) (List (List Bool))) :=
 bif decide (s_<((m_.Rows.length:Nat):Int)) then(
  gd ((0:Int)<=((m_.Rows.length:Nat):Int)/\(((m_.Rows.length:Nat):Int):Int)<=4294967296) <|
  gd (cm.length+([(List.replicate ((m_.Rows.length:Nat):Int).toNat false)]:List (List Bool)).length<=4294967296) <|
  (loop (fun s=>vq m_ bc s_ s.1 s.2) ((cm++([(List.replicate ((m_.Rows.length:Nat):Int).toNat false)]:List (List Bool))),0)).bind fun t8=>
  YC s_ t8)
 else(
  some (.done cm))
def vu (m_:z6)(k_:Int)(bc:List (List Bool))(round:Int):Option (LR (List (List Bool)×Int) (List (List Bool))) :=
 bif decide (round<k_) then(
  (loop (fun s=>vt m_ bc s.1 s.2) (([]:List (List Bool)),0)).bind fun t6=>
  YD round t6)
 else(
  some (.done bc))
def YG (m_:z6)(k_:Int)(au:List (List Bool)):Option (List (List Bool)) :=
 (loop (fun s=>vu m_ k_ s.1 s.2) (au,0)).bind fun t3=>
 YF t3
def vp (m_:z6)(dz:List (List Bool))(a7:Int):Option (LR (List (List Bool)×Int) (List (List Bool))) :=
 bif decide (a7<((m_.Rows.length:Nat):Int)) then(
  gd ((0:Int)<=((m_.Rows.length:Nat):Int)/\(((m_.Rows.length:Nat):Int):Int)<=4294967296) <|
  gd (dz.length+([(List.replicate ((m_.Rows.length:Nat):Int).toNat false)]:List (List Bool)).length<=4294967296) <|
  some (.next ((dz++([(List.replicate ((m_.Rows.length:Nat):Int).toNat false)]:List (List Bool))),w64 (a7+1))))
 else(
  some (.done dz))
def XO (m_:z6)(k_:Int):Option (List (List Bool)) :=
 (loop (fun s=>vp m_ s.1 s.2) (([]:List (List Bool)),0)).bind fun t9=>
 YG m_ k_ t9
def YB (out:List Int):Option (List Int) :=
 some out
def jM (s_:Int)(ap:List Int)(cp:Int):Option (LR (List Int×Int×Int) (List Int)) :=
 some (.next (ap,cp,w64 (s_+1)))
def wK (ai:List Int)(s_:Int)(bm:Int)(i4:Int):Option (LR (List Int×Int×Int) (List Int)) :=
 gd (ai.length+([i4]:List Int).length<=4294967296) <|
 jM s_ (ai++([i4]:List Int)) bm
def jL (ai:List Int)(n_:Int)(s_:Int)(b_:Int):Option (LR (List Int×Int×Int) (List Int)) :=
 bif decide (b_<0) then(
  wK ai s_ (w64 (n_+1)) n_)
 else(
  wK ai s_ n_ b_)
def vY (t_:Int)(km:Int):Option (LR (Int×Int) Int) :=
 some (.next (km,w64 (t_+1)))
def vX (au:List (List Bool))(ai:List Int)(s_:Int)(jh:Int)(t_:Int):Option (LR (Int×Int) Int) :=
 bif decide (t_<s_) then(
  (idx au s_).bind fun du=>
  (idx du t_).bind fun cd=>
  bif !cd then(
   (idx ai t_).bind fun ca=>
   vY t_ ca)
  else(
   vY t_ jh))
 else(
  some (.done jh))
def jK (au:List (List Bool))(ai:List Int)(n_:Int)(s_:Int):Option (LR (List Int×Int×Int) (List Int)) :=
 bif decide (s_<((au.length:Nat):Int)) then(
  (loop (fun s=>vX au ai s_ s.1 s.2) ((-1),0)).bind fun t6=>
  jL ai n_ s_ t6)
 else(
  some (.done ai))
def kP (au:List (List Bool)):Option (List Int) :=
 (loop (fun s=>jK au s.1 s.2.1 s.2.2) (([]:List Int),0,0)).bind fun t2=>
 YB t2
def Uu (m_:z6)(k_:Int):Option (List Int) :=
 (XO m_ k_).bind fun r_=>
 (kP r_).bind fun ah=>
 some ah
def Zb (m_:z6):Option (List Int) :=
 (Uu m_ ((m_.Rows.length:Nat):Int)).bind fun r_=>
 some r_
def WT (m_:z6)(s_:Int)(i_:Int):Option z8 :=
 bif decide (s_<0) then(
  some (z8.mk (-1) (-1)))
 else(
  (idx m_.Rows s_).bind fun am=>
  (idx am i_).bind fun ak=>
  some ak)
def Zc (ib:z6->Int->(List Int)->Option Int)(m_:z6)(s_:Int)(w_:List Int):Option Int :=
 bif ((w_.length:Nat):Int)==0 then(
  some s_)
 else(
  (idx w_ 0).bind fun fj=>
  (WT m_ s_ fj).bind fun r_=>
  gd ((0:Int)<=1/\(1:Int)<=((w_.length:Nat):Int)/\(((w_.length:Nat):Int):Int)<=((w_.length:Nat):Int)) <|
  (ib m_ r_.To (w_.drop (1:Int).toNat)).bind fun ah=>
  some ah)
def YL (fu:Nat):z6->Int->(List Int)->Option Int:=Nat.rec (motive:=fun _=>z6->Int->(List Int)->Option Int) (fun _ _ _=>none) (fun _ ih=>Zc ih) fu
def Qv (m_:z6)(s_:Int)(w_:List Int):Option Int:=YL (w_.length+1) m_ s_ w_
def YI (out:List Int):Option (List Int) :=
 gd (out.length+([0]:List Int).length<=4294967296) <|
 some (out++([0]:List Int))
def YH (inputs:Int)(ai:List Int)(k_:Int):Option (LR (List Int×Int) (List Int⊕List Int)) :=
 bif decide (k_>=0) then(
  (idx ai k_).bind fun ca=>
  bif decide ((w64 (ca+1))<inputs) then(
   (idx ai k_).bind fun gf=>
   (idx ai k_).bind fun lw=>
   some (.done (.inr (ai.set k_.toNat (w64 (gf+1))))))
  else(
   (idx ai k_).bind fun ly=>
   some (.next ((ai.set k_.toNat 0),w64 (k_ - 1)))))
 else(
  some (.done (.inl ai)))
def WS (w_:List Int)(inputs:Int):Option (List Int) :=
 gd (([]:List Int).length+w_.length<=4294967296) <|
 (loop (fun s=>YH inputs s.1 s.2) (w_,w64 (((w_.length:Nat):Int) - 1))).bind fun t2=>
 match t2 with
 | .inl p=>YI p
 | .inr p=>some p
def XB (l_:List (List Int))(is:List Bool):Option (List (List Int)×List Bool) :=
 some (l_,is)
def ui (m_:z6)(w_:List Int)(kn:List (List Int))(ko:List Bool):Option (LR (List (List Int)×List Bool×List Int) ((List (List Int)×List Bool))) :=
 (WS w_ m_.Inputs).bind fun r_=>
 some (.next (kn,ko,r_))
def XA (m_:z6)(aw:Int)(gj:List (List Int))(gg:List Bool)(w_:List Int):Option (LR (List (List Int)×List Bool×List Int) ((List (List Int)×List Bool))) :=
 bif decide (((w_.length:Nat):Int)<((m_.Rows.length:Nat):Int)) then(
  (Qv m_ aw w_).bind fun ah=>
  bif decide (ah>=0) then(
   (idx gg ah).bind fun lz=>
   bif !lz then(
    (idx gg ah).bind fun l9=>
    (idx gj ah).bind fun bw=>
    ui m_ w_ (gj.set ah.toNat w_) (gg.set ah.toNat true))
   else(
    ui m_ w_ gj gg))
  else(
   ui m_ w_ gj gg))
 else(
  some (.done (gj,gg)))
def Vk (m_:z6)(aw:Int):Option (List (List Int)×List Bool) :=
 gd ((0:Int)<=((m_.Rows.length:Nat):Int)/\(((m_.Rows.length:Nat):Int):Int)<=4294967296) <|
 gd ((0:Int)<=((m_.Rows.length:Nat):Int)/\(((m_.Rows.length:Nat):Int):Int)<=4294967296) <|
 (loop (fun s=>XA m_ aw s.1 s.2.1 s.2.2) ((List.replicate ((m_.Rows.length:Nat):Int).toNat ([]:List Int)),(List.replicate ((m_.Rows.length:Nat):Int).toNat false),([]:List Int))).bind fun t2=>
 XB t2.1 t2.2
def XP (m_:z6):Option (List (List Int)×List Bool) :=
 (Vk m_ 0).bind fun r_=>
 some (r_.1,r_.2)
def Qu:Option Int :=
 some 0
def YJ (a_:List Int)(b_:List Int)(i_:Int):Option (LR Int (Unit⊕Int)) :=
 bif decide (i_<((a_.length:Nat):Int)) then(
  (idx a_ i_).bind fun gp=>
  (idx b_ i_).bind fun gq=>
  bif gp != gq then(
   (idx a_ i_).bind fun i5=>
   (idx b_ i_).bind fun i6=>
   bif decide (i5<i6) then(
    some (.done (.inr 1)))
   else(
    some (.done (.inr 0))))
  else(
   some (.next (w64 (i_+1)))))
 else(
  some (.done (.inl ())))
def Q1 (a_:List Int)(b_:List Int):Option Int :=
 bif ((a_.length:Nat):Int) !=((b_.length:Nat):Int) then(
  bif decide (((a_.length:Nat):Int)<((b_.length:Nat):Int)) then(
   some 1)
  else(
   some 0))
 else(
  (loop (fun s=>YJ a_ b_ s) 0).bind fun t2=>
  match t2 with
  | .inl p=>Qu
  | .inr p=>some p)
def UR (out:List Int):Option (List Int) :=
 some out
def qW (s_:Int)(ap:List Int):Option (LR (List Int×Int) (List Int)) :=
 some (.next (ap,w64 (s_+1)))
def XC (ai:List Int)(s_:Int)(k_:Int):Option (LR (List Int×Int) (List Int)) :=
 gd ((0:Int)<=0/\(0:Int)<=k_/\(k_:Int)<=((ai.length:Nat):Int)) <|
 gd (([]:List Int).length+((ai.drop 0).take (k_.toNat - 0)).length<=4294967296) <|
 gd (((ai.drop 0).take (k_.toNat - 0)).length+([s_]:List Int).length<=4294967296) <|
 gd ((0:Int)<=k_/\(k_:Int)<=((ai.length:Nat):Int)/\(((ai.length:Nat):Int):Int)<=((ai.length:Nat):Int)) <|
 gd ((((ai.drop 0).take (k_.toNat - 0))++([s_]:List Int)).length+(ai.drop k_.toNat).length<=4294967296) <|
 qW s_ ((((ai.drop 0).take (k_.toNat - 0))++([s_]:List Int))++(ai.drop k_.toNat))
def Zz (r_:List (List Int)×List Bool)(ai:List Int)(s_:Int)(ba:Int):Option (LR Int Int) :=
 bif decide (ba<((ai.length:Nat):Int)) then(
  (idx ai ba).bind fun ca=>
  (idx r_.1 ca).bind fun ld=>
  (idx r_.1 s_).bind fun lf=>
  (Q1 ld lf).bind fun ah=>
  bif ah==1 then(
   some (.next (w64 (ba+1))))
  else(
   some (.done ba)))
 else(
  some (.done ba))
def ZA (r_:List (List Int)×List Bool)(ai:List Int)(s_:Int):Option (LR (List Int×Int) (List Int)) :=
 bif decide (s_<((r_.1.length:Nat):Int)) then(
  (idx r_.2 s_).bind fun u_=>
  bif !u_ then(
   qW s_ ai)
  else(
   (loop (fun s=>Zz r_ ai s_ s) 0).bind fun t5=>
   XC ai s_ t5))
 else(
  some (.done ai))
def Vl (m_:z6):Option (List Int) :=
 (XP m_).bind fun r_=>
 (loop (fun s=>ZA r_ s.1 s.2) (([]:List Int),0)).bind fun t2=>
 UR t2
def YA (out:List Int):Option (List Int) :=
 some out
def uF (k_:Int)(ap:List Int):Option (LR (List Int×Int) (List Int)) :=
 some (.next (ap,w64 (k_+1)))
def Yz (ah:List Int)(ai:List Int)(k_:Int)(there:Int):Option (LR (List Int×Int) (List Int)) :=
 bif there==0 then(
  (idx ah k_).bind fun d6=>
  gd (ai.length+([d6]:List Int).length<=4294967296) <|
  uF k_ (ai++([d6]:List Int)))
 else(
  uF k_ ai)
def kN (n_:Int)(ig:Int):Option (LR (Int×Int) Int) :=
 some (.next (ig,w64 (n_+1)))
def kM (r_:List Int)(ah:List Int)(k_:Int)(fp:Int)(n_:Int):Option (LR (Int×Int) Int) :=
 bif decide (n_<k_) then(
  (idx ah n_).bind fun ga=>
  (idx r_ ga).bind fun i7=>
  (idx ah k_).bind fun i8=>
  (idx r_ i8).bind fun lh=>
  bif i7==lh then(
   kN n_ 1)
  else(
   kN n_ fp))
 else(
  some (.done fp))
def Yy (r_:List Int)(ah:List Int)(ai:List Int)(k_:Int):Option (LR (List Int×Int) (List Int)) :=
 bif decide (k_<((ah.length:Nat):Int)) then(
  (loop (fun s=>kM r_ ah k_ s.1 s.2) (0,0)).bind fun t5=>
  Yz ah ai k_ t5)
 else(
  some (.done ai))
def kO (m_:z6):Option (List Int) :=
 (Zb m_).bind fun r_=>
 (Vl m_).bind fun ah=>
 (loop (fun s=>Yy r_ ah s.1 s.2) (([]:List Int),0)).bind fun t2=>
 YA t2
def ZR (out:List Bool):Option (List Bool) :=
 some out
def ZQ (round:Int)(ap:List Bool):Option (LR (List Bool×Int) (List Bool)) :=
 some (.next (ap,w64 (round+1)))
def ZP (s_:Int)(jx:List Bool):Option (LR (List Bool×Int) (List Bool)) :=
 some (.next (jx,w64 (s_+1)))
def vK (i_:Int)(jy:List Bool):Option (LR (List Bool×Int) (List Bool)) :=
 some (.next (jy,w64 (i_+1)))
def qM (m_:z6)(s_:Int)(eh:List Bool)(i_:Int):Option (LR (List Bool×Int) (List Bool)) :=
 bif decide (i_<m_.Inputs) then(
  (idx m_.Rows s_).bind fun am=>
  (idx am i_).bind fun ak=>
  (idx eh s_).bind fun ca=>
  bif ca then(
   bif decide (ak.To>=0) then(
    (idx eh ak.To).bind fun gf=>
    vK i_ (eh.set ak.To.toNat true))
   else(
    vK i_ eh))
  else(
   vK i_ eh))
 else(
  some (.done eh))
def qN (m_:z6)(ii:List Bool)(s_:Int):Option (LR (List Bool×Int) (List Bool)) :=
 bif decide (s_<((m_.Rows.length:Nat):Int)) then(
  (loop (fun s=>qM m_ s_ s.1 s.2) (ii,0)).bind fun t6=>
  ZP s_ t6)
 else(
  some (.done ii))
def ZO (m_:z6)(ai:List Bool)(round:Int):Option (LR (List Bool×Int) (List Bool)) :=
 bif decide (round<((m_.Rows.length:Nat):Int)) then(
  (loop (fun s=>qN m_ s.1 s.2) (ai,0)).bind fun t4=>
  ZQ round t4)
 else(
  some (.done ai))
def YK (m_:z6)(aw:Int):Option (List Bool) :=
 gd ((0:Int)<=((m_.Rows.length:Nat):Int)/\(((m_.Rows.length:Nat):Int):Int)<=4294967296) <|
 (idx (List.replicate ((m_.Rows.length:Nat):Int).toNat false) aw).bind fun mh=>
 (loop (fun s=>ZO m_ s.1 s.2) (((List.replicate ((m_.Rows.length:Nat):Int).toNat false).set aw.toNat true),0)).bind fun t2=>
 ZR t2
def Ut (out:List Int):Option (List Int) :=
 some out
def Us (s_:Int)(ap:List Int):Option (LR (List Int×Int) (List Int)) :=
 some (.next (ap,w64 (s_+1)))
def Ur (ai:List Int)(s_:Int)(k_:Int):Option (LR (List Int×Int) (List Int)) :=
 gd (ai.length+([k_]:List Int).length<=4294967296) <|
 Us s_ (ai++([k_]:List Int))
def Ya (n_:Int)(ew:Int):Option (LR (Int×Int) Int) :=
 some (.next (ew,w64 (n_+1)))
def XN (r_:List Int)(ah:List Int)(al:List Bool)(s_:Int)(ba:Int)(n_:Int):Option (LR (Int×Int) Int) :=
 bif decide (n_<((ah.length:Nat):Int)) then(
  (idx al s_).bind fun d6=>
  bif d6 then(
   (idx ah n_).bind fun ga=>
   (idx r_ ga).bind fun i7=>
   (idx r_ s_).bind fun i8=>
   bif i7==i8 then(
    Ya n_ n_)
   else(
    Ya n_ ba))
  else(
   Ya n_ ba))
 else(
  some (.done ba))
def Uq (r_:List Int)(ah:List Int)(al:List Bool)(ai:List Int)(s_:Int):Option (LR (List Int×Int) (List Int)) :=
 bif decide (s_<((r_.length:Nat):Int)) then(
  (loop (fun s=>XN r_ ah al s_ s.1 s.2) ((-1),0)).bind fun t5=>
  Ur ai s_ t5)
 else(
  some (.done ai))
def JG (m_:z6):Option (List Int) :=
 (Zb m_).bind fun r_=>
 (kO m_).bind fun ah=>
 (YK m_ 0).bind fun al=>
 (loop (fun s=>Uq r_ ah al s.1 s.2) (([]:List Int),0)).bind fun t2=>
 Ut t2
def ZN (m_:z6)(gh:List (List z8)):Option z6 :=
 some (z6.mk m_.Inputs m_.Outputs gh)
def ZM (k_:Int)(fq:List (List z8)):Option (LR (List (List z8)×Int) (List (List z8))) :=
 some (.next (fq,w64 (k_+1)))
def ZL (a9:List (List z8))(k_:Int)(row:List z8):Option (LR (List (List z8)×Int) (List (List z8))) :=
 gd (a9.length+([row]:List (List z8)).length<=4294967296) <|
 ZM k_ (a9++([row]:List (List z8)))
def vJ (cb:List z8)(i_:Int)(ak:z8)(em:Int):Option (LR (List z8×Int) (List z8)) :=
 gd (cb.length+([(z8.mk em ak.Out)]:List z8).length<=4294967296) <|
 some (.next ((cb++([(z8.mk em ak.Out)]:List z8)),w64 (i_+1)))
def qK (m_:z6)(r_:List Int)(ah:List Int)(k_:Int)(cb:List z8)(i_:Int):Option (LR (List z8×Int) (List z8)) :=
 bif decide (i_<m_.Inputs) then(
  (idx r_ k_).bind fun d6=>
  (idx m_.Rows d6).bind fun am=>
  (idx am i_).bind fun ak=>
  bif decide (ak.To>=0) then(
   (idx ah ak.To).bind fun ga=>
   vJ cb i_ ak ga)
  else(
   vJ cb i_ ak ak.To))
 else(
  some (.done cb))
def qL (m_:z6)(r_:List Int)(ah:List Int)(a9:List (List z8))(k_:Int):Option (LR (List (List z8)×Int) (List (List z8))) :=
 bif decide (k_<((r_.length:Nat):Int)) then(
  (loop (fun s=>qK m_ r_ ah k_ s.1 s.2) (([]:List z8),0)).bind fun t5=>
  ZL a9 k_ t5)
 else(
  some (.done a9))
def Yx (m_:z6):Option z6 :=
 (kO m_).bind fun r_=>
 (JG m_).bind fun ah=>
 (loop (fun s=>qL m_ r_ ah s.1 s.2) (([]:List (List z8)),0)).bind fun t2=>
 ZN m_ t2
def Q5 (x_:ub):Option z6 :=
 gd ((5:Int)≠0) <|
 (Q6 (zD.mk (Int.tmod x_.C.States 5) x_.C.Inputs x_.C.Outputs x_.C.Tree x_.C.Edges)).bind fun r_=>
 (Yx r_).bind fun ah=>
 some ah
def u6:Option z8 :=
 some (z8.mk (-1) (-1))
def YQ (m_:z6)(x_:z8):Option Bool :=
 (u6).bind fun r_=>
 bif (x_.To==r_.To)&&((x_.Out==r_.Out)&&true) then(
  some true)
 else(
  bif decide (x_.To>=0) then(
   bif decide (x_.To<((m_.Rows.length:Nat):Int)) then(
    bif decide (x_.Out>=0) then(
     some (decide (x_.Out<m_.Outputs)))
    else(
     some false))
   else(
    some false))
  else(
   some false))
def ZT (x_:z8)(x1:z6):Option Bool :=
 (YQ x1 x_).bind fun r_=>
 some (!r_)
def xm:Option Int :=
 some (-1)
def zR (s_:List z8)(f_:z6)(x8:Int):Option (LR Int (Unit⊕Int)) :=
 bif decide (x8<((s_.length:Nat):Int)) then(
  (idx s_ x8).bind fun da=>
  (ZT da f_).bind fun r_=>
  bif r_ then(
   some (.done (.inr x8)))
  else(
   some (.next (w64 (x8+1)))))
 else(
  some (.done (.inl ())))
def yz (s_:List z8)(f_:z6):Option Int :=
 (loop (fun s=>zR s_ f_ s) 0).bind fun t2=>
 match t2 with
 | .inl p=>xm
 | .inr p=>some p
def y6 (s_:List z8)(f_:z6):Option Bool :=
 (yz s_ f_).bind fun r_=>
 some (decide (r_>=0))
def Xn:Option Int :=
 some 0
def vb (m_:z6)(ic:Int):Option (LR Int (Unit⊕Int)) :=
 bif decide (ic<((m_.Rows.length:Nat):Int)) then(
  (idx m_.Rows ic).bind fun am=>
  bif ((am.length:Nat):Int) != m_.Inputs then(
   some (.done (.inr 1)))
  else(
   (y6 am m_).bind fun r_=>
   bif r_ then(
    some (.done (.inr 1)))
   else(
    some (.next (w64 (ic+1))))))
 else(
  some (.done (.inl ())))
def xN (m_:z6):Option Int :=
 bif decide (m_.Inputs > 16) then(
  some 3)
 else(
  bif decide (m_.Outputs > 16) then(
   some 3)
  else(
   bif decide (((m_.Rows.length:Nat):Int) > 64) then(
    some 3)
   else(
    bif decide (m_.Inputs<1) then(
     some 1)
    else(
     bif decide (m_.Outputs<1) then(
      some 1)
     else(
      bif decide (((m_.Rows.length:Nat):Int)<1) then(
       some 1)
      else(
       (loop (fun s=>vb m_ s) 0).bind fun t2=>
       match t2 with
       | .inl p=>Xn
       | .inr p=>some p))))))
def YM (m_:z6):Option ((Int×z6)×(Int×z6)×(Int×z6)) :=
 some ((9,m_),(11,m_),(12,m_))
def XD (m_:z6):Option z6 :=
 some m_
variable {σ:Type}
def qm (cr:Int)(ft:σ):Option (LR (σ×Int) σ) :=
 some (.next (ft,w64 (cr+1)))
def wg (yy:σ->(wz Int×z8)->Option (σ×Bool))(cr:Int)(am:List z8)(de:σ)(aq:Int):Option (LR (σ×Int) (σ⊕σ)) :=
 bif decide (aq<((am.length:Nat):Int)) then(
  (idx am aq).bind fun ak=>
  (yy de ((wz.mk cr aq),ak)).bind fun yr=>
  bif !yr.2 then(
   some (.done (.inr yr.1)))
  else(
   some (.next (yr.1,w64 (aq+1)))))
 else(
  some (.done (.inl de)))
def vw (x0:z6)(yy:σ->(wz Int×z8)->Option (σ×Bool))(ce:σ)(cr:Int):Option (LR (σ×Int) σ) :=
 bif decide (cr<((x0.Rows.length:Nat):Int)) then(
  (idx x0.Rows cr).bind fun am=>
  (loop (fun s=>wg yy cr am s.1 s.2) (ce,0)).bind fun t3=>
  match t3 with
  | .inl p=>qm cr p
  | .inr p=>some (.done p))
 else(
  some (.done ce))
def qO (x0:z6){σ:Type}(yy:σ->(wz Int×z8)->Option (σ×Bool))(sg:σ):Option σ :=
 (loop (fun s=>vw x0 yy s.1 s.2) (sg,0)).bind fun t1=>
 some t1
def wY (s_:List (wz Int)):Option (List (wz Int)) :=
 gd ((0:Int)<=0/\(0:Int)<=((s_.length:Nat):Int)/\(((s_.length:Nat):Int):Int)<=((s_.length:Nat):Int)/\(((s_.length:Nat):Int):Int)<=((s_.length:Nat):Int)) <|
 some ((s_.drop 0).take (((s_.length:Nat):Int).toNat - 0))
def vZ (out:List (wz Int)):Option (List (wz Int)) :=
 (wY out).bind fun r_=>
 some r_
def yq (ai:List (wz Int))(x8:wz Int)(x9:z8):Option (LR (List (wz Int)) Empty) :=
 (u6).bind fun al=>
 bif (x9.To==al.To)&&((x9.Out==al.Out)&&true) then(
  gd (ai.length+([x8]:List (wz Int)).length<=4294967296) <|
  some (.next (ai++([x8]:List (wz Int)))))
 else(
  some (.next ai))
def jO (m_:z6):Option (List (wz Int)) :=
 (XD m_).bind fun ah=>
 (qO ah (yOf (fun s x=>yq s x.1 x.2)) (.next ([]:List (wz Int)))).bind fun t2=>
 match t2 with
 | .next ai=>(
  vZ ai)
 | .done z=>nomatch z
def uN (m_:z6):Option (Bool×Int) :=
 (xN m_).bind fun r_=>
 bif r_ != 0 then(
  some (false,r_))
 else(
  (jO m_).bind fun ah=>
  some (((ah.length:Nat):Int)==0,0))
def Zf (x0:z6):Option Bool :=
 (uN x0).bind fun r_=>
 some r_.1
def yZ (ib:Int->(List Bool)->z6->Option (List Bool×z6))(am:List z8)(x1:List Bool)(dw:Int)(dl:Int)(fk:List (List z8))(bg:Int):Option (LR (List Bool×Int×Int×List (List z8)×Int) ((List Bool×z6))) :=
 bif decide (bg<((am.length:Nat):Int)) then(
  (idx am bg).bind fun ak=>
  (ib ak.To x1 (z6.mk dw dl fk)).bind fun r_=>
  some (.next (r_.1,r_.2.Inputs,r_.2.Outputs,r_.2.Rows,w64 (bg+1))))
 else(
  some (.done (x1,(z6.mk dw dl fk))))
def wa (ib:Int->(List Bool)->z6->Option (List Bool×z6))(s_:Int)(y0:List Bool)(y1:z6):Option (List Bool×z6) :=
 bif s_==(-1) then(
  some (y0,y1))
 else(
  (idx y0 s_).bind fun mc=>
  bif mc then(
   some (y0,y1))
  else(
   (idx y0 s_).bind fun md=>
   (idx y1.Rows s_).bind fun am=>
   (loop (fun s=>yZ ib am s.1 s.2.1 s.2.2.1 s.2.2.2.1 s.2.2.2.2) ((y0.set s_.toNat true),y1.Inputs,y1.Outputs,y1.Rows,0)).bind fun t1=>
   some t1))
def yj (fu:Nat):Int->(List Bool)->z6->Option (List Bool×z6):=Nat.rec (motive:=fun _=>Int->(List Bool)->z6->Option (List Bool×z6)) (fun _ _ _=>none) (fun _ ih=>wa ih) fu
def uh:Option Int :=
 some (-1)
def yC (s_:List Bool)(v_:Bool)(x8:Int):Option (LR Int (Unit⊕Int)) :=
 bif decide (x8<((s_.length:Nat):Int)) then(
  (idx s_ x8).bind fun da=>
  bif v_==da then(
   some (.done (.inr x8)))
  else(
   some (.next (w64 (x8+1)))))
 else(
  some (.done (.inl ())))
def vD (s_:List Bool)(v_:Bool):Option Int :=
 (loop (fun s=>yC s_ v_ s) 0).bind fun t2=>
 match t2 with
 | .inl p=>uh
 | .inr p=>some p
def xA (s_:List Bool)(v_:Bool):Option Bool :=
 (vD s_ v_).bind fun r_=>
 some (decide (r_>=0))
def u7 (m_:z6):Option (Bool×Int) :=
 (xN m_).bind fun r_=>
 bif r_ != 0 then(
  some (false,r_))
 else(
  gd ((0:Int)<=((m_.Rows.length:Nat):Int)/\(((m_.Rows.length:Nat):Int):Int)<=4294967296) <|
  (yj fuel 0 (List.replicate ((m_.Rows.length:Nat):Int).toNat false) m_).bind fun ah=>
  (xA ah.1 false).bind fun al=>
  some (!al,0))
def Ze (x0:z6):Option Bool :=
 (u7 x0).bind fun r_=>
 some r_.1
def Xz (m_:z6):Option z6 :=
 some m_
def Yv (out:xe (wz Int)):Option (xe (wz Int)) :=
 some out
def kH (bt:Int)(ap:xe (wz Int)):Option (LR (xe (wz Int)×Int) (xe (wz Int))) :=
 some (.next (ap,w64 (bt+1)))
def kG (p_:List Int)(am:List z8)(ai:xe (wz Int))(bt:Int):Option (LR (xe (wz Int)×Int) (xe (wz Int))) :=
 bif decide (bt<((am.length:Nat):Int)) then(
  (idx am bt).bind fun ak=>
  (idx (xe.toL ai) bt).bind fun cell=>
  (some (xe.setI ai bt (wz.mk ak.Out (-1)))).bind fun arr=>
  bif ak.To !=(-1) then(
   (idx p_ ak.To).bind fun bv=>
   (idx (xe.toL arr) bt).bind fun a8=>
   (some (xe.setI arr bt (wz.mk a8.e0 bv))).bind fun arr1=>
   kH bt arr1)
  else(
   kH bt arr))
 else(
  some (.done ai))
def kI (m_:z6)(p_:List Int)(s_:Int):Option (xe (wz Int)) :=
 (idx m_.Rows s_).bind fun am=>
 (loop (fun s=>kG p_ am s.1 s.2) ((xe.mk (wz.mk 0 0) (wz.mk 0 0) (wz.mk 0 0) (wz.mk 0 0) (wz.mk 0 0) (wz.mk 0 0) (wz.mk 0 0) (wz.mk 0 0) (wz.mk 0 0) (wz.mk 0 0) (wz.mk 0 0) (wz.mk 0 0) (wz.mk 0 0) (wz.mk 0 0) (wz.mk 0 0) (wz.mk 0 0)),0)).bind fun t2=>
 Yv t2
def jH (out:List Int):Option (List Int) :=
 some out
def wI (ai:List Int)(dr:Int)(bv:Int)(r_:xe (wz Int))(dm:List (zz×Int)):Option (LR ((List (zz×Int))×List Int×Int) (List Int)) :=
 (some ((z2U dm (zz.mk bv r_)).getD 0)).bind fun val=>
 (idx ai dr).bind fun ca=>
 some (.next (dm,(ai.set dr.toNat val),w64 (dr+1)))
def vW (m_:z6)(p_:List Int)(names:List (zz×Int))(ai:List Int)(dr:Int):Option (LR ((List (zz×Int))×List Int×Int) (List Int)) :=
 bif decide (dr<((p_.length:Nat):Int)) then(
  (idx p_ dr).bind fun bv=>
  (kI m_ p_ dr).bind fun r_=>
  (some ((z2U names (zz.mk bv r_)).getD 0)).bind fun l4=>
  bif !((z2U names (zz.mk bv r_)).isSome) then(
   wI ai dr bv r_ (zbe names (zz.mk bv r_) ((names.length:Nat):Int)))
  else(
   wI ai dr bv r_ names))
 else(
  some (.done ai))
def kJ (m_:z6)(p_:List Int):Option (List Int) :=
 gd ((0:Int)<=((p_.length:Nat):Int)/\(((p_.length:Nat):Int):Int)<=4294967296) <|
 (loop (fun s=>vW m_ p_ s.1 s.2.1 s.2.2) (([]:List (zz×Int)),(List.replicate ((p_.length:Nat):Int).toNat (0:Int)),0)).bind fun t2=>
 jH t2
def wX:Option Bool :=
 some true
def yX (s1:List Int)(s2:List Int)(dc:Int):Option (LR Int (Unit⊕Bool)) :=
 bif decide (dc<((s1.length:Nat):Int)) then(
  (idx s1 dc).bind fun fw=>
  (idx s2 dc).bind fun dx=>
  bif fw != dx then(
   some (.done (.inr false)))
  else(
   some (.next (w64 (dc+1)))))
 else(
  some (.done (.inl ())))
def xX (s1:List Int)(s2:List Int):Option Bool :=
 bif ((s1.length:Nat):Int) !=((s2.length:Nat):Int) then(
  some false)
 else(
  (loop (fun s=>yX s1 s2 s) 0).bind fun t2=>
  match t2 with
  | .inl p=>wX
  | .inr p=>some p)
def vo (x0:z6)(yy:σ->(List Int)->Option (σ×Bool))(ce:σ)(p_:List Int):Option (LR (σ×List Int) σ) :=
 (yy ce p_).bind fun yr=>
 bif yr.2 then(
  (kJ x0 p_).bind fun r_=>
  (xX p_ r_).bind fun ah=>
  bif ah then(
   some (.done yr.1))
  else(
   some (.next (yr.1,r_))))
 else(
  some (.done yr.1))
def qI (x0:z6){σ:Type}(yy:σ->(List Int)->Option (σ×Bool))(sg:σ):Option σ :=
 gd ((0:Int)<=((x0.Rows.length:Nat):Int)/\(((x0.Rows.length:Nat):Int):Int)<=4294967296) <|
 (loop (fun s=>vo x0 yy s.1 s.2) (sg,(List.replicate ((x0.Rows.length:Nat):Int).toNat (0:Int)))).bind fun t1=>
 some t1
def jI (p_:List Int)(n_:Int):Option (List Int×Int×Int) :=
 some (p_,n_,0)
def wJ (io:List Int)(cp:Int)(cj:List Int):Option (LR (List Int×Int) Empty) :=
 some (.next (cj,w64 (cp+1)))
def kK (m_:z6):Option (List Int×Int×Int) :=
 (xN m_).bind fun r_=>
 bif r_ != 0 then(
  some (([]:List Int),0,r_))
 else(
  (Xz m_).bind fun ah=>
  (qI ah (yOf (fun s x=>wJ s.1 s.2 x)) (.next (([]:List Int),(-1)))).bind fun t2=>
  match t2 with
  | .next (io,cp)=>(
   jI io cp)
  | .done z=>nomatch z)
def vT (m_:Int):Option Int :=
 some m_
def wu (x_:List Int)(jz:Int)(i_:Int):Option (LR (Int×Int) Int) :=
 bif decide (i_<((x_.length:Nat):Int)) then(
  (idx x_ i_).bind fun kc=>
  some (.next ((mx jz kc),w64 (i_+1))))
 else(
  some (.done jz))
def vU (x_:List Int):Option Int :=
 bif decide (((x_.length:Nat):Int)<1) then(
  none)
 else(
  (idx x_ 0).bind fun ke=>
  (loop (fun s=>wu x_ s.1 s.2) (ke,1)).bind fun t2=>
  vT t2)
def Zd (x0:z6):Option Bool :=
 (kK x0).bind fun r_=>
 (vU r_.1).bind fun ah=>
 some (ah==(w64 (((r_.1.length:Nat):Int) - 1)))
def qg:Option Int :=
 some 0
def xZ (m_:z6):Option Int :=
 (xN m_).bind fun r_=>
 bif r_ != 0 then(
  some r_)
 else(
  (YM m_).bind fun ah=>
  (Zf ah.1.2).bind fun al=>
  bif !al then(
   some ah.1.1)
  else(
   (Ze ah.2.1.2).bind fun az=>
   bif !az then(
    some ah.2.1.1)
   else(
    (Zd ah.2.2.2).bind fun bp=>
    bif !bp then(
     some ah.2.2.1)
    else(
     qg))))
def uY (n_:Int):Option Int :=
 some n_
def Zm (x6:Int)(ft:σ):Option (LR (σ×Int) σ) :=
 some (.next (ft,w64 (x6+1)))
def uQ (x0:Int)(yy:σ->(Int×Int)->Option (σ×Bool))(x6:Int)(de:σ)(b_:Int):Option (LR (σ×Int) (σ⊕σ)) :=
 bif decide (b_<x0) then(
  (yy de (x6,b_)).bind fun yr=>
  bif !yr.2 then(
   some (.done (.inr yr.1)))
  else(
   some (.next (yr.1,w64 (b_+1)))))
 else(
  some (.done (.inl de)))
def Zl (x0:Int)(yy:σ->(Int×Int)->Option (σ×Bool))(ce:σ)(x6:Int):Option (LR (σ×Int) σ) :=
 bif decide (x6<x0) then(
  (loop (fun s=>uQ x0 yy x6 s.1 s.2) (ce,w64 (x6+1))).bind fun t3=>
  match t3 with
  | .inl p=>Zm x6 p
  | .inr p=>some (.done p))
 else(
  some (.done ce))
def yU (x0:Int){σ:Type}(yy:σ->(Int×Int)->Option (σ×Bool))(sg:σ):Option σ :=
 (loop (fun s=>Zl x0 yy s.1 s.2) (sg,0)).bind fun t1=>
 some t1
def Uy (a_:Int)(b_:Int):Option Bool :=
 some true
def Zy (s_:Int)(x1:z6):Option Bool :=
 bif decide (s_<0) then(
  some true)
 else(
  some (decide (s_>=((x1.Rows.length:Nat):Int))))
def we:Option Int :=
 some (-1)
def y7 (s_:List Int)(f_:z6)(x8:Int):Option (LR Int (Unit⊕Int)) :=
 bif decide (x8<((s_.length:Nat):Int)) then(
  (idx s_ x8).bind fun da=>
  (Zy da f_).bind fun r_=>
  bif r_ then(
   some (.done (.inr x8)))
  else(
   some (.next (w64 (x8+1)))))
 else(
  some (.done (.inl ())))
def yI (s_:List Int)(f_:z6):Option Int :=
 (loop (fun s=>y7 s_ f_ s) 0).bind fun t2=>
 match t2 with
 | .inl p=>we
 | .inr p=>some p
def yY (s_:List Int)(f_:z6):Option Bool :=
 (yI s_ f_).bind fun r_=>
 some (decide (r_>=0))
def XM (m_:z6)(l_:List Int):Option Int :=
 (xN m_).bind fun r_=>
 bif r_ != 0 then(
  some r_)
 else(
  (yY l_ m_).bind fun ah=>
  bif ah then(
   some 1)
  else(
   some 0))
def Uo (m_:z6):Option z6 :=
 some m_
def kY (x8:Int)(ft:σ):Option (LR (σ×Int) σ) :=
 some (.next (ft,w64 (x8+1)))
def uu (x0:z6)(yy:σ->(Int×Int)->Option (σ×Bool))(x8:Int)(de:σ)(t_:Int):Option (LR (σ×Int) (σ⊕σ)) :=
 bif decide (t_<((x0.Rows.length:Nat):Int)) then(
  (yy de (x8,t_)).bind fun yr=>
  bif !yr.2 then(
   some (.done (.inr yr.1)))
  else(
   some (.next (yr.1,w64 (t_+1)))))
 else(
  some (.done (.inl de)))
def kX (x0:z6)(yy:σ->(Int×Int)->Option (σ×Bool))(ce:σ)(x8:Int):Option (LR (σ×Int) σ) :=
 bif decide (x8<((x0.Rows.length:Nat):Int)) then(
  (loop (fun s=>uu x0 yy x8 s.1 s.2) (ce,w64 (x8+1))).bind fun t3=>
  match t3 with
  | .inl p=>kY x8 p
  | .inr p=>some (.done p))
 else(
  some (.done ce))
def ue (x0:z6){σ:Type}(yy:σ->(Int×Int)->Option (σ×Bool))(sg:σ):Option σ :=
 (loop (fun s=>kX x0 yy s.1 s.2) (sg,0)).bind fun t1=>
 some t1
def xQ (l:List Int)(n:Int):Option (List Int):=bif l.isEmpty&&(decide (0<n)&&decide (n<=1000000)) then some [] else none
def wD (gy:List Int):Option (List Int) :=
 some gy
def zO (slices:List (List Int))(dg:List Int)(j4:Int):Option (LR (List Int×Int) (List Int)) :=
 bif decide (j4<((slices.length:Nat):Int)) then(
  (idx slices j4).bind fun gc=>
  gd (dg.length+gc.length<=4294967296) <|
  some (.next ((dg++gc),w64 (j4+1))))
 else(
  some (.done dg))
def wF (slices:List (List Int))(size:Int):Option (List Int) :=
 (xQ [] size).bind fun r_=>
 (loop (fun s=>zO slices s.1 s.2) (r_,0)).bind fun t3=>
 wD t3
def zN (slices:List (List Int))(gk:Int)(ep:Int):Option (LR (Int×Int) Int) :=
 bif decide (ep<((slices.length:Nat):Int)) then(
  (idx slices ep).bind fun gi=>
  bif decide ((w64 (gk+((gi.length:Nat):Int)))<0) then(
   none)
  else(
   some (.next (w64 (gk+((gi.length:Nat):Int)),w64 (ep+1)))))
 else(
  some (.done gk))
def wv (slices:List (List Int)):Option (List Int) :=
 (loop (fun s=>zN slices s.1 s.2) (0,0)).bind fun t4=>
 wF slices t4
def yf (s_:List Int):Option (List Int) :=
 gd ((0:Int)<=0/\(0:Int)<=((s_.length:Nat):Int)/\(((s_.length:Nat):Int):Int)<=((s_.length:Nat):Int)/\(((s_.length:Nat):Int):Int)<=((s_.length:Nat):Int)) <|
 some ((s_.drop 0).take (((s_.length:Nat):Int).toNat - 0))
def uq (n_:Int)(f_:ArN 64 (ArN 64 (List Int)))(out:List Int):Option (List Int×ArN 64 (ArN 64 (List Int))) :=
 bif ((out.length:Nat):Int) != n_ then(
  some ([],f_))
 else(
  (yf out).bind fun r_=>
  gd (r_≠[]) <|
  some (r_,f_))
def xW (dj:Int):Option (LR Int (List Int)) :=
 some (.next (w64 (dj+1)))
def wS (m_:z6)(t_:Int)(n_:Int)(f_:ArN 64 (ArN 64 (List Int)))(am:List z8)(dj:Int):Option (LR Int (List Int)) :=
 bif decide (dj<((am.length:Nat):Int)) then(
  (idx am dj).bind fun ak=>
  (idx m_.Rows t_).bind fun ie=>
  (idx ie dj).bind fun bn=>
  bif ak.Out != bn.Out then(
   some (.done ([dj]:List Int)))
  else(
   bif decide (n_ > 1) then(
    bif ak.To !=(-1) then(
     (idx (f_.l) ak.To).bind fun cell=>
     (idx (cell.l) bn.To).bind fun a8=>
     bif ((a8.length:Nat):Int)==(w64 (n_ - 1)) then(
      (idx (f_.l) ak.To).bind fun d0=>
      (idx (d0.l) bn.To).bind fun eg=>
      (wv ([[dj],eg])).bind fun ah=>
      some (.done ah))
     else(
      xW dj))
    else(
     xW dj))
   else(
    xW dj)))
 else(
  some (.done ([]:List Int)))
def uv (m_:z6)(s_:Int)(t_:Int)(n_:Int)(f_:ArN 64 (ArN 64 (List Int))):Option (List Int×ArN 64 (ArN 64 (List Int))) :=
 (idx m_.Rows s_).bind fun am=>
 (loop (fun s=>wS m_ t_ n_ f_ am s) 0).bind fun t2=>
 uq n_ f_ t2
def qE (s_:Int)(t_:Int)(w_:List Int)(f_:ArN 64 (ArN 64 (List Int))):Option (ArN 64 (ArN 64 (List Int))) :=
 (idx (f_.l) s_).bind fun cell=>
 (idx (cell.l) t_).bind fun a8=>
 (some (ArN.setI cell t_ w_)).bind fun arr=>
 (some (ArN.setI f_ s_ arr)).bind fun arr1=>
 (idx (arr1.l) t_).bind fun d0=>
 (idx (d0.l) s_).bind fun eg=>
 (some (ArN.setI d0 s_ w_)).bind fun arr2=>
 (some (ArN.setI arr1 t_ arr2)).bind fun kg=>
 some kg
def qd (f_:ArN 64 (ArN 64 (List Int))):Option (ArN 64 (ArN 64 (List Int))) :=
 some f_
def qb (n_:Int)(kp:ArN 64 (ArN 64 (List Int))):Option (LR (ArN 64 (ArN 64 (List Int))×Int) (ArN 64 (ArN 64 (List Int)))) :=
 some (.next (kp,w64 (n_+1)))
def vd (now:List zF)(i9:ArN 64 (ArN 64 (List Int)))(j5:Int):Option (LR (ArN 64 (ArN 64 (List Int))×Int) (ArN 64 (ArN 64 (List Int)))) :=
 bif decide (j5<((now.length:Nat):Int)) then(
  (idx now j5).bind fun cn=>
  (qE cn.S cn.T cn.Word i9).bind fun r_=>
  some (.next (r_,w64 (j5+1))))
 else(
  some (.done i9))
def qa (n_:Int)(kq:ArN 64 (ArN 64 (List Int)))(now:List zF):Option (LR (ArN 64 (ArN 64 (List Int))×Int) (ArN 64 (ArN 64 (List Int)))) :=
 (loop (fun s=>vd now s.1 s.2) (kq,0)).bind fun t5=>
 qb n_ t5
def xH (m_:z6)(n_:Int)(d9:ArN 64 (ArN 64 (List Int)))(dp:List zF)(ff:Int)(bg:Int):Option (LR (ArN 64 (ArN 64 (List Int))×List zF) Empty) :=
 (idx (d9.l) ff).bind fun cell=>
 (idx (cell.l) bg).bind fun a8=>
 bif !a8.isEmpty then(
  some (.next (d9,dp)))
 else(
  (uv m_ ff bg n_ d9).bind fun al=>
  bif !al.1.isEmpty then(
   gd (dp.length+([(zF.mk ff bg al.1 false)]:List zF).length<=4294967296) <|
   some (.next (al.2,(dp++([(zF.mk ff bg al.1 false)]:List zF)))))
  else(
   some (.next (al.2,dp))))
def q9 (m_:z6)(ip:ArN 64 (ArN 64 (List Int)))(n_:Int):Option (LR (ArN 64 (ArN 64 (List Int))×Int) (ArN 64 (ArN 64 (List Int)))) :=
 bif decide (n_<(mx ((m_.Rows.length:Nat):Int) 2)) then(
  (Uo m_).bind fun ah=>
  (ue ah (yOf (fun s x=>xH m_ n_ s.1 s.2 x.1 x.2)) (.next (ip,([]:List zF)))).bind fun t6=>
  match t6 with
  | .next (d9,dp)=>(
   qa n_ d9 dp)
  | .done z=>nomatch z)
 else(
  some (.done ip))
def qD (m_:z6):Option (ArN 64 (ArN 64 (List Int))) :=
 (loop (fun s=>q9 m_ s.1 s.2) ((ArN.rep 64 (ArN.rep 64 ([]:List Int))),1)).bind fun t2=>
 qd t2
def yG (s_:List Int):Option (List Int) :=
 gd (([]:List Int).length+s_.length<=4294967296) <|
 some s_
def uw (m_:z6)(s_:Int)(t_:Int):Option (List Int×Bool×Int) :=
 (XM m_ ([s_,t_])).bind fun r_=>
 bif r_ != 0 then(
  some (([]:List Int),false,r_))
 else(
  (qD m_).bind fun ah=>
  (idx (ah.l) s_).bind fun cell=>
  (idx (cell.l) t_).bind fun a8=>
  (yG a8).bind fun al=>
  (yf al).bind fun az=>
  some (az,decide (((az.length:Nat):Int) > 0),0))
def Wv (c_:Int)(x1:Int):Option Bool :=
 bif decide (c_<0) then(
  some true)
 else(
  some (decide (c_>=x1)))
def vn:Option Int :=
 some (-1)
def yl (s_:List Int)(f_:Int)(x8:Int):Option (LR Int (Unit⊕Int)) :=
 bif decide (x8<((s_.length:Nat):Int)) then(
  (idx s_ x8).bind fun da=>
  (Wv da f_).bind fun r_=>
  bif r_ then(
   some (.done (.inr x8)))
  else(
   some (.next (w64 (x8+1)))))
 else(
  some (.done (.inl ())))
def wC (s_:List Int)(f_:Int):Option Int :=
 (loop (fun s=>yl s_ f_ s) 0).bind fun t2=>
 match t2 with
 | .inl p=>vn
 | .inr p=>some p
def xR (s_:List Int)(f_:Int):Option Bool :=
 (wC s_ f_).bind fun r_=>
 some (decide (r_>=0))
def jZ (w_:List Int)(inputs:Int):Option Int :=
 bif decide (inputs > 16) then(
  some 3)
 else(
  bif decide (((w_.length:Nat):Int) > 256) then(
   some 3)
  else(
   bif decide (inputs<1) then(
    some 1)
   else(
    (xR w_ inputs).bind fun r_=>
    bif r_ then(
     some 1)
    else(
     some 0))))
def UH:Option Int :=
 some 0
def qR (l_:List (List Int))(inputs:Int)(j6:Int):Option (LR Int (Unit⊕Int)) :=
 bif decide (j6<((l_.length:Nat):Int)) then(
  (idx l_ j6).bind fun bw=>
  (jZ bw inputs).bind fun r_=>
  bif r_ != 0 then(
   some (.done (.inr r_)))
  else(
   some (.next (w64 (j6+1)))))
 else(
  some (.done (.inl ())))
def Xg (l_:List (List Int))(inputs:Int):Option Int :=
 bif decide (inputs > 16) then(
  some 3)
 else(
  bif decide (((l_.length:Nat):Int) > 4096) then(
   some 3)
  else(
   bif decide (inputs<1) then(
    some 1)
   else(
    (loop (fun s=>qR l_ inputs s) 0).bind fun t2=>
    match t2 with
    | .inl p=>UH
    | .inr p=>some p)))
def vV (s_:List (List Int)):Option (List (List Int)) :=
 gd (([]:List (List Int)).length+s_.length<=4294967296) <|
 some s_
def YX (x_:Int):Option Bool :=
 some (x_ != x_)
def uT (x_:Int)(y_:Int):Option Int :=
 (YX x_).bind fun r_=>
 (YX y_).bind fun ah=>
 bif r_ then(
  bif ah then(
   some 0)
  else(
   some (-1)))
 else(
  bif ah then(
   some 1)
  else(
   bif decide (x_<y_) then(
    some (-1))
   else(
    bif decide (x_ > y_) then(
     some 1)
    else(
     some 0))))
def wn (s1:List Int)(s2:List Int):Option Int :=
 bif decide (((s1.length:Nat):Int)<((s2.length:Nat):Int)) then(
  some (-1))
 else(
  some 0)
def yD (s1:List Int)(s2:List Int)(ep:Int):Option (LR Int (Unit⊕Int)) :=
 bif decide (ep<((s1.length:Nat):Int)) then(
  (idx s1 ep).bind fun fw=>
  bif decide (ep>=((s2.length:Nat):Int)) then(
   some (.done (.inr 1)))
  else(
   (idx s2 ep).bind fun dx=>
   (uT fw dx).bind fun r_=>
   bif r_ != 0 then(
    some (.done (.inr r_)))
   else(
    some (.next (w64 (ep+1))))))
 else(
  some (.done (.inl ())))
def w9 (s1:List Int)(s2:List Int):Option Int :=
 (loop (fun s=>yD s1 s2 s) 0).bind fun t2=>
 match t2 with
 | .inl p=>wn s1 s2
 | .inr p=>some p
def WG:Option Int :=
 some 0
def Zo (vals:List Int)(x8:Int):Option (LR Int (Unit⊕Int)) :=
 bif decide (x8<((vals.length:Nat):Int)) then(
  (idx vals x8).bind fun kh=>
  bif kh != 0 then(
   some (.done (.inr kh)))
  else(
   some (.next (w64 (x8+1)))))
 else(
  some (.done (.inl ())))
def Q9 (vals:List Int):Option Int :=
 (loop (fun s=>Zo vals s) 0).bind fun t2=>
 match t2 with
 | .inl p=>WG
 | .inr p=>some p
def xF (a_:List Int)(b_:List Int):Option Int :=
 (uT ((a_.length:Nat):Int) ((b_.length:Nat):Int)).bind fun r_=>
 (w9 a_ b_).bind fun ah=>
 (Q9 ([r_,ah])).bind fun al=>
 some al
def qQ (a_:List Int)(b_:List Int):Option Bool :=
 (xF a_ b_).bind fun r_=>
 some (r_==0)
def ww (s_:List (List Int)):Option (List (List Int)) :=
 some s_
def xp (k_:Int):Option (LR Int (Unit⊕List (List Int))) :=
 some (.next (w64 (k_+1)))
def yb (a7:List (List Int))(ba:Int):Option (LR Int (Unit⊕List (List Int))) :=
 gd ((0:Int)<=ba/\(ba:Int)<=((a7.length:Nat):Int)) <|
 gd ((0:Int)<=ba/\(ba:Int)<=((a7.length:Nat):Int)) <|
 gd ((0:Int)<=ba/\(ba:Int)<=(((a7.take ba.toNat++List.replicate (a7.length - ba.toNat) []).length:Nat):Int)) <|
 some (.done (.inr ((a7.take ba.toNat++List.replicate (a7.length - ba.toNat) []).take ba.toNat)))
def ya (k2:Int)(kr:List (List Int))(ku:Int):Option (LR (List (List Int)×Int×Int) ((List (List Int)×Int))) :=
 some (.next (kr,ku,w64 (k2+1)))
def y9 (k_:Int)(bi:List (List Int))(ew:Int)(k2:Int):Option (LR (List (List Int)×Int×Int) ((List (List Int)×Int))) :=
 bif decide (k2<((bi.length - k_.toNat:Nat):Int)) then(
  gd ((0:Int)<=k_/\(0:Int)<=k2) <|
  (idx bi (k_+k2)).bind fun jp=>
  gd ((0:Int)<=k_/\(0:Int)<=w64 (k2 - 1)) <|
  (idx bi (k_+(w64 (k2 - 1)))).bind fun jq=>
  (qQ jp jq).bind fun ah=>
  bif !ah then(
   gd ((0:Int)<=k_/\(0:Int)<=k2) <|
   (idx bi (k_+k2)).bind fun jr=>
   (idx bi ew).bind fun ma=>
   ya k2 (bi.set ew.toNat jr) (w64 (ew+1)))
  else(
   ya k2 bi ew))
 else(
  some (.done (bi,ew)))
def yn (s_:List (List Int))(k_:Int):Option (LR Int (Unit⊕List (List Int))) :=
 bif decide (k_<((s_.length:Nat):Int)) then(
  (idx s_ k_).bind fun da=>
  (idx s_ (w64 (k_ - 1))).bind fun js=>
  (qQ da js).bind fun r_=>
  bif r_ then(
   gd ((0:Int)<=k_/\(k_:Int)<=((s_.length:Nat):Int)) <|
   (loop (fun s=>y9 k_ s.1 s.2.1 s.2.2) (s_,k_,1)).bind fun t5=>
   yb t5.1 t5.2)
  else(
   xp k_))
 else(
  some (.done (.inl ())))
def yS (s_:List (List Int))(eq:Unit):Option (List (List Int)) :=
 bif decide (((s_.length:Nat):Int)<2) then(
  some s_)
 else(
  (loop (fun s=>yn s_ s) 1).bind fun t2=>
  match t2 with
  | .inl p=>ww s_
  | .inr p=>some p)
def xT (s_:List (List Int)):Option (List (List Int)) :=
 some s_
def UG (n_:Int):Option Int :=
 some n_
def qP (l_:List (List Int))(cp:Int)(x7:Int):Option (LR (Int×Int) Int) :=
 bif decide (x7<((l_.length:Nat):Int)) then(
  (idx l_ x7).bind fun bw=>
  some (.next (w64 (cp+((bw.length:Nat):Int)),w64 (x7+1))))
 else(
  some (.done cp))
def Xf (l_:List (List Int)):Option Int :=
 (loop (fun s=>qP l_ s.1 s.2) (0,0)).bind fun t2=>
 UG t2
def Yj (out:List (List Int×Bool)):Option (List (List Int)×Int) :=
 gd (∀q∈out,q.2=true) <|
 some ((out.map (·.1)),0)
def wq (al:List (List Int))(ap:List (List Int×Bool))(bg:Int):Option (LR ((List (List Int×Bool))×Int) ((List (List Int×Bool)))) :=
 bif decide (bg<((al.length - (0:Int).toNat:Nat):Int)) then(
  gd ((0:Int)<=0/\(0:Int)<=bg) <|
  (idx ap (0+bg)).bind fun ca=>
  (yG ca.1).bind fun bp=>
  (yf bp).bind fun dy=>
  (idx ap bg).bind fun gf=>
  some (.next ((ap.set bg.toNat (dy,true)),w64 (bg+1))))
 else(
  some (.done ap))
def wr (l_:List (List Int)):Option (List (List Int)×Int) :=
 (vV l_).bind fun r_=>
 (zbU (fun x y=>xF x y) r_).bind fun sorted=>
 (yS sorted ()).bind fun ah=>
 (xT ah).bind fun al=>
 bif decide (((al.length:Nat):Int) > 4096) then(
  some (([]:List (List Int)),3))
 else(
  (Xf al).bind fun az=>
  bif decide (az > 65536) then(
   some (([]:List (List Int)),3))
  else(
   (loop (fun s=>wq al s.1 s.2) ((al.map fun q=>(q,false)),0)).bind fun t2=>
   Yj t2))
def WQ (l_:List (List Int))(inputs:Int):Option (List (List Int)×Int) :=
 (Xg l_ inputs).bind fun r_=>
 bif r_ != 0 then(
  some (([]:List (List Int)),r_))
 else(
  (wr l_).bind fun ah=>
  some (ah.1,ah.2))
def YT (m_:z6)(x5:Int)(out:List (List Int)):Option (List (List Int)×Int) :=
 (WQ out m_.Inputs).bind fun r_=>
 some (r_.1,r_.2)
def uP (m_:z6)(bu:Int)(ai:List (List Int))(bt:Int)(aq:Int):Option (LR (Int×List (List Int)) ((Int×List (List Int)))) :=
 (Uy bt aq).bind fun al=>
 bif !al then(
  some (.next (bu,ai)))
 else(
  (uw m_ bt aq).bind fun az=>
  bif az.2.2 != 0 then(
   some (.done (az.2.2,ai)))
  else(
   gd (ai.length+([az.1]:List (List Int)).length<=4294967296) <|
   some (.next (bu,(ai++([az.1]:List (List Int)))))))
def XT (m_:z6)(is:Unit):Option (List (List Int)×Int) :=
 (uY ((m_.Rows.length:Nat):Int)).bind fun ah=>
 (yU ah (yOf (fun s x=>uP m_ s.1 s.2 x.1 x.2)) (.next (0,([]:List (List Int))))).bind fun t2=>
 match t2 with
 | .next (bu,ai)=>(
  YT m_ bu ai)
 | .done (bu,ai)=>(
  some (([]:List (List Int)),bu))
def Xr (m_:z6):Option (List (List Int)×Int) :=
 (xZ m_).bind fun r_=>
 bif r_ != 0 then(
  some (([]:List (List Int)),r_))
 else(
  (XT m_ ()).bind fun ah=>
  some (ah.1,ah.2))
def Un (k_:Int)(ai:List (List Int))(ij:List (List Int))(cp:Int)(l5:Int)(l6:Bool)(jw:Bool):Option (LR (List (List Int)×List (List Int)×Int×Int) ((List (List Int)×Int))) :=
 some (.next (ai,ij,cp,w64 (k_+1)))
def Um (k_:Int)(ap:List (List Int))(bm:Int)(ct:Bool)(next:List (List Int)):Option (LR (List (List Int)×List (List Int)×Int×Int) ((List (List Int)×Int))) :=
 Un k_ ap next bm bm (decide (bm > 65536)) ct
def Ul (fx:Int)(fe:List (List Int)):Option (LR (List (List Int)×Int) (List (List Int))) :=
 some (.next (fe,w64 (fx+1)))
def vQ (inputs:Int)(dn:List Int)(bz:List (List Int))(fy:Int):Option (LR (List (List Int)×Int) (List (List Int))) :=
 bif decide (fy<inputs) then(
  (yf dn).bind fun ah=>
  gd (ah.length+([fy]:List Int).length<=4294967296) <|
  gd (bz.length+([(ah++([fy]:List Int))]:List (List Int)).length<=4294967296) <|
  some (.next ((bz++([(ah++([fy]:List Int))]:List (List Int))),w64 (fy+1))))
 else(
  some (.done bz))
def vR (inputs:Int)(ay:List (List Int))(cm:List (List Int))(fx:Int):Option (LR (List (List Int)×Int) (List (List Int))) :=
 bif decide (fx<((ay.length:Nat):Int)) then(
  (idx ay fx).bind fun dn=>
  (loop (fun s=>vQ inputs dn s.1 s.2) (cm,0)).bind fun t8=>
  Ul fx t8)
 else(
  some (.done cm))
def Y7 (inputs:Int)(to:Int)(ay:List (List Int))(k_:Int)(ap:List (List Int))(bm:Int)(ct:Bool):Option (LR (List (List Int)×List (List Int)×Int×Int) ((List (List Int)×Int))) :=
 bif k_==to then(
  (wr ap).bind fun r_=>
  some (.done (r_.1,r_.2)))
 else(
  (loop (fun s=>vR inputs ay s.1 s.2) (([]:List (List Int)),0)).bind fun t6=>
  Um k_ ap bm ct t6)
def Y8 (inputs:Int)(to:Int)(ay:List (List Int))(k_:Int)(ap:List (List Int))(bm:Int):Option (LR (List (List Int)×List (List Int)×Int×Int) ((List (List Int)×Int))) :=
 bif decide (((ap.length:Nat):Int) > 4096) then(
  some (.done (([]:List (List Int)),3)))
 else(
  bif decide (bm > 65536) then(
   some (.done (([]:List (List Int)),3)))
  else(
   bif decide (k_<to) then(
    bif decide ((w64 (((ay.length:Nat):Int)*inputs)) > 4096) then(
     some (.done (([]:List (List Int)),3)))
    else(
     Y7 inputs to ay k_ ap bm (decide ((w64 (((ay.length:Nat):Int)*inputs)) > 4096))))
   else(
    Y7 inputs to ay k_ ap bm false)))
def uX (inputs:Int)(aw:Int)(to:Int)(out:List (List Int))(ay:List (List Int))(n_:Int)(k_:Int):Option (LR (List (List Int)×List (List Int)×Int×Int) ((List (List Int)×Int))) :=
 bif decide (k_>=aw) then(
  gd (out.length+ay.length<=4294967296) <|
  Y8 inputs to ay k_ (out++ay) (w64 (n_+(w64 (k_*((ay.length:Nat):Int))))))
 else(
  Y8 inputs to ay k_ out n_)
def UZ (inputs:Int)(aw:Int)(to:Int):Option (List (List Int)×Int) :=
 bif decide (inputs > 16) then(
  some (([]:List (List Int)),3))
 else(
  bif decide (inputs<1) then(
   some (([]:List (List Int)),1))
  else(
   bif decide (to<0) then(
    some (([]:List (List Int)),1))
   else(
    bif decide (to > 256) then(
     some (([]:List (List Int)),3))
    else(
     (loop (fun s=>uX inputs aw to s.1 s.2.1 s.2.2.1 s.2.2.2) (([]:List (List Int)),([[]]:List (List Int)),0,0)).bind fun t1=>
     some t1))))
def V0 (inputs:Int)(k_:Int):Option (List (List Int)×Int) :=
 (UZ inputs k_ k_).bind fun r_=>
 some (r_.1,r_.2)
def Xu:Option Bool :=
 some true
def qS (l_:List (List Int))(i_:Int):Option (LR Int (Unit⊕Bool)) :=
 bif decide (i_<((l_.length:Nat):Int)) then(
  (idx l_ (w64 (i_ - 1))).bind fun bw=>
  (idx l_ i_).bind fun jt=>
  (xF bw jt).bind fun r_=>
  bif decide (r_>=0) then(
   some (.done (.inr false)))
  else(
   some (.next (w64 (i_+1)))))
 else(
  some (.done (.inl ())))
def WZ (l_:List (List Int)):Option Bool :=
 (loop (fun s=>qS l_ s) 1).bind fun t2=>
 match t2 with
 | .inl p=>Xu
 | .inr p=>some p
def V1 (l_:List (List Int))(inputs:Int):Option Int :=
 (Xg l_ inputs).bind fun r_=>
 bif r_ != 0 then(
  some r_)
 else(
  (WZ l_).bind fun ah=>
  bif !ah then(
   some 1)
  else(
   (Xf l_).bind fun al=>
   bif decide (al > 65536) then(
    some 3)
   else(
    some 0)))
def kS (m_:z6)(l_:List (List Int)):Option Int :=
 (xZ m_).bind fun r_=>
 bif r_ != 0 then(
  some r_)
 else(
  (V1 l_ m_.Inputs).bind fun ah=>
  some ah)
def ZC (m_:z6)(s_:Int):Option Int :=
 (xN m_).bind fun r_=>
 bif r_ != 0 then(
  some r_)
 else(
  bif decide (s_<0) then(
   some 1)
  else(
   bif decide (s_>=((m_.Rows.length:Nat):Int)) then(
    some 1)
   else(
    some 0)))
def YP (a7:Int)(out:List Int):Option (List Int×Int) :=
 some (out,a7)
def kR (ai:List Int)(aq:Int)(em:Int)(im:Int):Option (LR (Int×List Int×Int) ((Int×List Int))) :=
 (idx ai aq).bind fun ca=>
 some (.next (em,(ai.set aq.toNat im),w64 (aq+1)))
def YO (m_:z6)(w_:List Int)(bi:Int)(ai:List Int)(aq:Int):Option (LR (Int×List Int×Int) ((Int×List Int))) :=
 bif decide (aq<((w_.length:Nat):Int)) then(
  (idx w_ aq).bind fun fj=>
  (u6).bind fun r_=>
  bif bi !=(-1) then(
   (idx m_.Rows bi).bind fun am=>
   (idx am fj).bind fun ak=>
   kR ai aq ak.To ak.Out)
  else(
   kR ai aq r_.To r_.Out))
 else(
  some (.done (bi,ai)))
def XR (m_:z6)(s_:Int)(w_:List Int):Option (List Int×Int) :=
 gd ((0:Int)<=((w_.length:Nat):Int)/\(((w_.length:Nat):Int):Int)<=4294967296) <|
 (loop (fun s=>YO m_ w_ s.1 s.2.1 s.2.2) (s_,(List.replicate ((w_.length:Nat):Int).toNat (0:Int)),0)).bind fun t2=>
 YP t2.1 t2.2
def XS (m_:z6)(s_:Int)(w_:List Int):Option (List Int×Int) :=
 (ZC m_ s_).bind fun r_=>
 bif r_ != 0 then(
  some (([]:List Int),r_))
 else(
  (jZ w_ m_.Inputs).bind fun ah=>
  bif ah != 0 then(
   some (([]:List Int),ah))
  else(
   (XR m_ s_ w_).bind fun al=>
   some (al.1,0)))
def xJ (s_:List (List Int)):Option (List (List Int)) :=
 some s_
def qo (out:List (List Int)):Option (List (List Int)) :=
 (xJ out).bind fun r_=>
 some r_
def yT (m_:z6)(l_:List (List Int))(s_:Int)(ai:List (List Int))(cj:Int):Option (LR (List (List Int)×Int) (List (List Int))) :=
 bif decide (cj<((l_.length:Nat):Int)) then(
  (idx l_ cj).bind fun bw=>
  (XS m_ s_ bw).bind fun ah=>
  gd (ai.length+([ah.1]:List (List Int)).length<=4294967296) <|
  some (.next ((ai++([ah.1]:List (List Int))),w64 (cj+1))))
 else(
  some (.done ai))
def xG (m_:z6)(l_:List (List Int))(s_:Int):Option (List (List Int)) :=
 (loop (fun s=>yT m_ l_ s_ s.1 s.2) (([]:List (List Int)),0)).bind fun t2=>
 qo t2
def jQ (x_:List Int)(y_:List Int):Option Bool :=
 (xX x_ y_).bind fun r_=>
 some r_
def xz:Option Bool :=
 some true
def zT (s1:List (List Int))(s2:List (List Int))(aq:Int):Option (LR Int (Unit⊕Bool)) :=
 bif decide (aq<((s1.length:Nat):Int)) then(
  (idx s1 aq).bind fun fw=>
  (idx s2 aq).bind fun dx=>
  (jQ fw dx).bind fun r_=>
  bif !r_ then(
   some (.done (.inr false)))
  else(
   some (.next (w64 (aq+1)))))
 else(
  some (.done (.inl ())))
def yK (s1:List (List Int))(s2:List (List Int))(eq:Unit):Option Bool :=
 bif ((s1.length:Nat):Int) !=((s2.length:Nat):Int) then(
  some false)
 else(
  (loop (fun s=>zT s1 s2 s) 0).bind fun t2=>
  match t2 with
  | .inl p=>xz
  | .inr p=>some p)
def wN (a_:List (List Int))(b_:List (List Int)):Option Bool :=
 (yK a_ b_ ()).bind fun r_=>
 some r_
def YU:Option (Bool×Int) :=
 some (true,0)
def uR (all:List (List (List Int)))(lk:Int)(ic:Int):Option (LR Unit Unit) :=
 (idx all lk).bind fun ju=>
 (idx all ic).bind fun ja=>
 (wN ju ja).bind fun al=>
 bif al then(
  some (.done ()))
 else(
  some (.next ()))
def YV (m_:z6)(all:List (List (List Int))):Option (Bool×Int) :=
 (uY ((m_.Rows.length:Nat):Int)).bind fun ah=>
 (yU ah (yOf (fun s x=>uR all x.1 x.2)) (.next ())).bind fun t3=>
 match t3 with
 | .next _=>(
  YU)
 | .done _=>(
  some (false,0))
def wx (m_:z6)(l_:List (List Int))(gz:List (List (List Int)))(jb:Int):Option (LR (List (List (List Int))×Int) (List (List (List Int)))) :=
 bif decide (jb<((m_.Rows.length:Nat):Int)) then(
  (xG m_ l_ jb).bind fun az=>
  gd (gz.length+([az]:List (List (List Int))).length<=4294967296) <|
  some (.next ((gz++([az]:List (List (List Int)))),w64 (jb+1))))
 else(
  some (.done gz))
def uZ (m_:z6)(l_:List (List Int)):Option (Bool×Int) :=
 (kS m_ l_).bind fun r_=>
 bif r_ != 0 then(
  some (false,r_))
 else(
  (loop (fun s=>wx m_ l_ s.1 s.2) (([]:List (List (List Int))),0)).bind fun t4=>
  YV m_ t4)
def vL (m_:z6)(l_:List (List Int))(s_:Int):Option (List (List Int)×Int) :=
 (kS m_ l_).bind fun r_=>
 bif r_ != 0 then(
  some (([]:List (List Int)),r_))
 else(
  bif decide (s_<0) then(
   some (([]:List (List Int)),1))
  else(
   bif decide (s_>=((m_.Rows.length:Nat):Int)) then(
    some (([]:List (List Int)),1))
   else(
    (xG m_ l_ s_).bind fun ah=>
    some (ah,0))))
def Zn (a_:List Int)(b_:List Int):Option Bool :=
 some (((a_.length:Nat):Int)==((b_.length:Nat):Int))
def yN:Option Bool :=
 some true
def zJ (s1:List (List Int))(s2:List (List Int))(aq:Int):Option (LR Int (Unit⊕Bool)) :=
 bif decide (aq<((s1.length:Nat):Int)) then(
  (idx s1 aq).bind fun fw=>
  (idx s2 aq).bind fun dx=>
  (Zn fw dx).bind fun r_=>
  bif !r_ then(
   some (.done (.inr false)))
  else(
   some (.next (w64 (aq+1)))))
 else(
  some (.done (.inl ())))
def y5 (s1:List (List Int))(s2:List (List Int))(eq:Unit):Option Bool :=
 bif ((s1.length:Nat):Int) !=((s2.length:Nat):Int) then(
  some false)
 else(
  (loop (fun s=>zJ s1 s2 s) 0).bind fun t2=>
  match t2 with
  | .inl p=>yN
  | .inr p=>some p)
def xS (s_:List Int):Option (List Int) :=
 some s_
def jR (out:List Int):Option (List Int×Int) :=
 (xS out).bind fun al=>
 some (al,0)
def u9 (bg:Int)(ap:List Int):Option (LR (List Int×Int) (List Int)) :=
 some (.next (ap,w64 (bg+1)))
def xu (m_:z6)(l_:List (List Int))(bl:List (List Int))(ai:List Int)(bg:Int):Option (LR (List Int×Int) (List Int)) :=
 bif decide (bg<((m_.Rows.length:Nat):Int)) then(
  (xG m_ l_ bg).bind fun az=>
  (wN az bl).bind fun bp=>
  bif bp then(
   gd (ai.length+([bg]:List Int).length<=4294967296) <|
   u9 bg (ai++([bg]:List Int)))
  else(
   u9 bg ai))
 else(
  some (.done ai))
def xV (m_:z6)(l_:List (List Int))(bl:List (List Int)):Option (List Int×Int) :=
 (kS m_ l_).bind fun r_=>
 bif r_ != 0 then(
  some (([]:List Int),r_))
 else(
  (y5 l_ bl ()).bind fun ah=>
  bif !ah then(
   some (([]:List Int),16))
  else(
   (loop (fun s=>xu m_ l_ bl s.1 s.2) (([]:List Int),0)).bind fun t2=>
   jR t2))
def Uv (out:List Int):Option (List Int) :=
 some out
def XQ (m_:z6)(w_:List Int)(a7:Int)(ai:List Int)(k_:Int):Option (LR (Int×List Int×Int) (List Int)) :=
 bif decide (k_<((w_.length:Nat):Int)) then(
  (idx w_ k_).bind fun fj=>
  (WT m_ a7 fj).bind fun r_=>
  gd (ai.length+([r_.Out]:List Int).length<=4294967296) <|
  some (.next (r_.To,(ai++([r_.Out]:List Int)),w64 (k_+1))))
 else(
  some (.done ai))
def JH (m_:z6)(s_:Int)(w_:List Int):Option (List Int) :=
 (loop (fun s=>XQ m_ w_ s.1 s.2.1 s.2.2) (s_,([]:List Int),0)).bind fun t2=>
 Uv t2
def jJ (out:List (List Int)):Option (List (List Int)) :=
 some out
def xq (m_:z6)(l_:List (List Int))(s_:Int)(ai:List (List Int))(i_:Int):Option (LR (List (List Int)×Int) (List (List Int))) :=
 bif decide (i_<((l_.length:Nat):Int)) then(
  (idx l_ i_).bind fun bw=>
  (JH m_ s_ bw).bind fun r_=>
  gd (ai.length+([r_]:List (List Int)).length<=4294967296) <|
  some (.next ((ai++([r_]:List (List Int))),w64 (i_+1))))
 else(
  some (.done ai))
def kL (m_:z6)(l_:List (List Int))(s_:Int):Option (List (List Int)) :=
 (loop (fun s=>xq m_ l_ s_ s.1 s.2) (([]:List (List Int)),0)).bind fun t2=>
 jJ t2
def We:Option Int :=
 some 0
def qJ (a_:List Int)(b_:List Int)(i_:Int):Option (LR Int (Unit⊕Int)) :=
 bif decide (i_<((a_.length:Nat):Int)) then(
  (idx a_ i_).bind fun gp=>
  (idx b_ i_).bind fun gq=>
  bif decide (gp<gq) then(
   some (.done (.inr (-1))))
  else(
   (idx a_ i_).bind fun i5=>
   (idx b_ i_).bind fun i6=>
   bif decide (i5 > i6) then(
    some (.done (.inr 1)))
   else(
    some (.next (w64 (i_+1))))))
 else(
  some (.done (.inl ())))
def Yw (a_:List Int)(b_:List Int):Option Int :=
 bif ((a_.length:Nat):Int) !=((b_.length:Nat):Int) then(
  bif decide (((a_.length:Nat):Int)<((b_.length:Nat):Int)) then(
   some (-1))
  else(
   some 1))
 else(
  (loop (fun s=>qJ a_ b_ s) 0).bind fun t2=>
  match t2 with
  | .inl p=>We
  | .inr p=>some p)
def WA:Option Bool :=
 some true
def Za (a_:List (List Int))(b_:List (List Int))(i_:Int):Option (LR Int (Unit⊕Bool)) :=
 bif decide (i_<((a_.length:Nat):Int)) then(
  (idx a_ i_).bind fun gp=>
  (idx b_ i_).bind fun gq=>
  (Yw gp gq).bind fun r_=>
  bif r_ != 0 then(
   some (.done (.inr false)))
  else(
   some (.next (w64 (i_+1)))))
 else(
  some (.done (.inl ())))
def WR (a_:List (List Int))(b_:List (List Int)):Option Bool :=
 bif ((a_.length:Nat):Int) !=((b_.length:Nat):Int) then(
  some false)
 else(
  (loop (fun s=>Za a_ b_ s) 0).bind fun t2=>
  match t2 with
  | .inl p=>WA
  | .inr p=>some p)
def uO (a_:List (List Int))(b_:List (List Int)):Option Bool :=
 (WR a_ b_).bind fun r_=>
 bif r_ then(
  some (((a_.length:Nat):Int)==((a_.length:Nat):Int)))
 else(
  some false)
def Xp (a_:List Int)(b_:List Int):Option Bool :=
 (WR ([a_]) ([b_])).bind fun r_=>
 bif r_ then(
  some (((a_.length:Nat):Int)==((a_.length:Nat):Int)))
 else(
  some false)
def Qy:Option z6 :=
 some (z6.mk 2 2 ([[(z8.mk 1 0),(z8.mk 0 0)],[(z8.mk 2 0),(z8.mk 1 1)],[(z8.mk 0 1),(z8.mk 2 0)]]))
def Xo (l_:List (List Int)):Option (List (List Int)) :=
 some l_
def z0e (a_:Int)(b_:Int)(x2:Int):Option Bool :=
 bif a_==x2 then(
  some true)
 else(
  some (b_==x2))
def Y0 (m_:z6)(x5:Int)(out:List (List Int)):Option (List (List Int)×Int) :=
 (WQ out m_.Inputs).bind fun r_=>
 some (r_.1,r_.2)
def qn (m_:z6)(is:Int)(bu:Int)(ai:List (List Int))(bt:Int)(aq:Int):Option (LR (Int×List (List Int)) ((Int×List (List Int)))) :=
 (z0e bt aq is).bind fun al=>
 bif !al then(
  some (.next (bu,ai)))
 else(
  (uw m_ bt aq).bind fun az=>
  bif az.2.2 != 0 then(
   some (.done (az.2.2,ai)))
  else(
   gd (ai.length+([az.1]:List (List Int)).length<=4294967296) <|
   some (.next (bu,(ai++([az.1]:List (List Int)))))))
def Wg (m_:z6)(is:Int):Option (List (List Int)×Int) :=
 (uY ((m_.Rows.length:Nat):Int)).bind fun ah=>
 (yU ah (yOf (fun s x=>qn m_ is s.1 s.2 x.1 x.2)) (.next (0,([]:List (List Int))))).bind fun t2=>
 match t2 with
 | .next (bu,ai)=>(
  Y0 m_ bu ai)
 | .done (bu,ai)=>(
  some (([]:List (List Int)),bu))
def JP (m_:z6)(s_:Int):Option (List (List Int)×Int) :=
 (xZ m_).bind fun r_=>
 bif r_ != 0 then(
  some (([]:List (List Int)),r_))
 else(
  bif decide (s_<0) then(
   some (([]:List (List Int)),1))
  else(
   bif decide (s_>=((m_.Rows.length:Nat):Int)) then(
    some (([]:List (List Int)),1))
   else(
    (Wg m_ s_).bind fun ah=>
    some (ah.1,ah.2))))
def Y3 (out:List Int):Option (List Int) :=
 some out
def Y2 (ai:List Int)(ia:Int):Option (LR (List Int) Empty) :=
 gd (ai.length+([ia]:List Int).length<=4294967296) <|
 some (.next (ai++([ia]:List Int)))
def qp (aq:Int)(jd:Int):Option (LR (Int×Int) Int) :=
 some (.next (jd,w64 (aq+1)))
def Y1 (m_:z6)(w_:List (List Int))(dc:Int)(cj:Int)(fm:Int)(aq:Int):Option (LR (Int×Int) Int) :=
 bif decide (aq<((w_.length:Nat):Int)) then(
  gd ((0:Int)<=aq/\(aq:Int)<=w64 (aq+1)/\(w64 (aq+1):Int)<=((w_.length:Nat):Int)) <|
  (xG m_ ((w_.drop aq.toNat).take ((w64 (aq+1)).toNat - aq.toNat)) dc).bind fun ah=>
  gd ((0:Int)<=aq/\(aq:Int)<=w64 (aq+1)/\(w64 (aq+1):Int)<=((w_.length:Nat):Int)) <|
  (xG m_ ((w_.drop aq.toNat).take ((w64 (aq+1)).toNat - aq.toNat)) cj).bind fun al=>
  (wN ah al).bind fun az=>
  bif !az then(
   gd ((0:Int)<=aq) <|
   qp aq (orK .u64 fm (z6H .u64 1 aq)))
  else(
   qp aq fm))
 else(
  some (.done fm))
def qq (m_:z6)(w_:List (List Int))(ai:List Int)(dc:Int)(cj:Int):Option (LR (List Int) Empty) :=
 (loop (fun s=>Y1 m_ w_ dc cj s.1 s.2) (0,0)).bind fun t4=>
 Y2 ai t4
def Wh (m_:z6)(w_:List (List Int)):Option (List Int) :=
 (uY ((m_.Rows.length:Nat):Int)).bind fun r_=>
 (yU r_ (yOf (fun s x=>qq m_ w_ s x.1 x.2)) (.next ([]:List Int))).bind fun t2=>
 match t2 with
 | .next ai=>(
  Y3 ai)
 | .done z=>nomatch z
def uG (ll:Int):Option Int :=
 some (z7A .i64 (w64 (ll)) 127)
def uH (ji:Int):Option Int :=
 uG (IntKind.u64.wrap (ji+(Int.fdiv ji (2 ^ 32))))
def uJ (jj:Int):Option Int :=
 uH (IntKind.u64.wrap (jj+(Int.fdiv jj (2 ^ 16))))
def uK (jk:Int):Option Int :=
 uJ (IntKind.u64.wrap (jk+(Int.fdiv jk (2 ^ 8))))
def uL (jl:Int):Option Int :=
 uK (z7A .u64 (IntKind.u64.wrap ((Int.fdiv jl (2 ^ 4))+jl)) 1085102592571150095)
def uM (jn:Int):Option Int :=
 uL (IntKind.u64.wrap ((z7A .u64 (Int.fdiv jn (2 ^ 2)) 3689348814741910323)+(z7A .u64 jn 3689348814741910323)))
def kQ (x_:Int):Option Int :=
 uM (IntKind.u64.wrap ((z7A .u64 (Int.fdiv x_ (2 ^ 1)) 6148914691236517205)+(z7A .u64 x_ 6148914691236517205)))
def qj (x_:Int):Option Int :=
 (kQ x_).bind fun r_=>
 some r_
def uj (x_:Int):Option Int :=
 bif x_==0 then(
  some 64)
 else(
  (idx (zia.l) (Int.fdiv (IntKind.u64.wrap ((z7A .u64 x_ (IntKind.u64.wrap (0 - x_)))*285870213051353865)) (2 ^ 58))).bind fun cell=>
  some (w64 (cell)))
def qh (x_:Int):Option Int :=
 (uj x_).bind fun r_=>
 some r_
def JO (a_:Int)(b_:Int):Option Bool :=
 (qh (ziS .u64 a_ b_)).bind fun r_=>
 gd ((0:Int)<=r_) <|
 some ((z7A .u64 (Int.fdiv a_ (2 ^ (min (r_).toNat 64))) 1)==1)
def wG (s_:List (List Int)):Option (List (List Int)) :=
 some s_
def Wm (out:List (List Int)):Option (List (List Int)×Int) :=
 (wG out).bind fun al=>
 some (al,0)
def ZV (fz:Int)(ap:List (List Int)):Option (LR (List (List Int)×Int) (List (List Int))) :=
 some (.next (ap,w64 (fz+1)))
def Wk (r_:List (List Int)×Int)(d7:Int)(ai:List (List Int))(fz:Int):Option (LR (List (List Int)×Int) (List (List Int))) :=
 bif decide (fz<((r_.1.length:Nat):Int)) then(
  (idx r_.1 fz).bind fun u_=>
  gd ((0:Int)<=fz) <|
  bif (z7A .u64 (Int.fdiv d7 (2 ^ (min (fz).toNat 64))) 1)==1 then(
   gd (ai.length+([u_]:List (List Int)).length<=4294967296) <|
   ZV fz (ai++([u_]:List (List Int))))
  else(
   ZV fz ai))
 else(
  some (.done ai))
def Wn (r_:List (List Int)×Int)(d7:Int):Option (List (List Int)×Int) :=
 (loop (fun s=>Wk r_ d7 s.1 s.2) (([]:List (List Int)),0)).bind fun t3=>
 Wm t3
def wO (bo:Int)(je:Int):Option (LR (Int×Int) Int) :=
 some (.next (je,IntKind.u64.wrap (bo+1)))
def Wl (bo:Int):Option (LR (Int×Int) Int) :=
 wO bo bo
def Wi (ah:List Int)(bk:Int)(bo:Int)(j7:Int):Option (LR Int (Unit⊕Int)) :=
 bif decide (j7<((ah.length:Nat):Int)) then(
  (idx ah j7).bind fun d6=>
  bif (z7A .u64 d6 bo)==0 then(
   some (.done (.inr bk)))
  else(
   some (.next (w64 (j7+1)))))
 else(
  some (.done (.inl ())))
def ZU (ah:List Int)(bk:Int)(bo:Int)(iq:Bool):Option (LR (Int×Int) Int) :=
 (loop (fun s=>Wi ah bk bo s) 0).bind fun t9=>
 match t9 with
 | .inl p=>Wl bo
 | .inr p=>wO bo p
def Wj (r_:List (List Int)×Int)(ah:List Int)(bk:Int)(bo:Int):Option (LR (Int×Int) Int) :=
 bif decide (bo<(z6H .u64 1 ((r_.1.length:Nat):Int))) then(
  (qj bo).bind fun az=>
  (qj bk).bind fun bp=>
  bif decide (az > bp) then(
   wO bo bk)
  else(
   bif az==bp then(
    bif bo==bk then(
     wO bo bk)
    else(
     (JO bo bk).bind fun dy=>
     bif !dy then(
      wO bo bk)
     else(
      ZU ah bk bo (!dy))))
   else(
    ZU ah bk bo false)))
 else(
  some (.done bk))
def Qz (m_:z6):Option (List (List Int)×Int) :=
 (Xr m_).bind fun r_=>
 bif r_.2 != 0 then(
  some (([]:List (List Int)),r_.2))
 else(
  bif decide (((r_.1.length:Nat):Int) > 12) then(
   some (([]:List (List Int)),3))
  else(
   (Wh m_ r_.1).bind fun ah=>
   gd ((0:Int)<=((r_.1.length:Nat):Int)) <|
   gd ((0:Int)<=((r_.1.length:Nat):Int)) <|
   (loop (fun s=>Wj r_ ah s.1 s.2) (IntKind.u64.wrap ((z6H .u64 1 ((r_.1.length:Nat):Int)) - 1),0)).bind fun t5=>
   Wn r_ t5))
def Qx:Option Bool :=
 (Qy).bind fun r_=>
 (Xo ([[0],[1]])).bind fun ah=>
 (Xr r_).bind fun al=>
 (JP r_ 0).bind fun az=>
 (JP r_ 1).bind fun bp=>
 (JP r_ 2).bind fun dy=>
 (Qz r_).bind fun br=>
 bif al.2 != 0 then(
  some false)
 else(
  bif az.2 != 0 then(
   some false)
  else(
   bif bp.2 != 0 then(
    some false)
   else(
    bif dy.2 != 0 then(
     some false)
    else(
     bif br.2 != 0 then(
      some false)
     else(
      (uO al.1 ah).bind fun cg=>
      bif !cg then(
       some false)
      else(
       (uO az.1 ah).bind fun gl=>
       bif !gl then(
        some false)
       else(
        (uO bp.1 ah).bind fun j8=>
        bif !j8 then(
         some false)
        else(
         gd ((0:Int)<=0/\(0:Int)<=1/\(1:Int)<=((ah.length:Nat):Int)) <|
         (uO dy.1 ((ah.drop 0).take ((1:Int).toNat - 0))).bind fun ir=>
         bif !ir then(
          some false)
         else(
          (uO br.1 ah).bind fun k9=>
          bif !k9 then(
           some false)
          else(
           gd ((0:Int)<=0/\(0:Int)<=1/\(1:Int)<=((ah.length:Nat):Int)) <|
           (uZ r_ ((ah.drop 0).take ((1:Int).toNat - 0))).bind fun j9=>
           (Xo ([[0,0]])).bind fun ki=>
           (uZ r_ ki).bind fun ka=>
           (vL r_ ah 1).bind fun co=>
           (Xo ([[0],[0]])).bind fun iu=>
           (xV r_ ah iu).bind fun cu=>
           gd ((0:Int)<=0/\(0:Int)<=1/\(1:Int)<=((ah.length:Nat):Int)) <|
           (Xo ([[0]])).bind fun iv=>
           (xV r_ ((ah.drop 0).take ((1:Int).toNat - 0)) iv).bind fun db=>
           gd ((0:Int)<=0/\(0:Int)<=1/\(1:Int)<=((ah.length:Nat):Int)) <|
           (Xo ([[7]])).bind fun iw=>
           (xV r_ ((ah.drop 0).take ((1:Int).toNat - 0)) iw).bind fun d8=>
           gd ((0:Int)<=0/\(0:Int)<=1/\(1:Int)<=((ah.length:Nat):Int)) <|
           (xV r_ ((ah.drop 0).take ((1:Int).toNat - 0)) ([]:List (List Int))).bind fun fl=>
           bif j9.2==0 then(
            bif ka.2==0 then(
             bif co.2==0 then(
              bif cu.2==0 then(
               bif db.2==0 then(
                bif d8.2==0 then(
                 bif !j9.1 then(
                  bif ka.1 then(
                   (uO co.1 ah).bind fun la=>
                   bif la then(
                    (Xp cu.1 ([0])).bind fun lb=>
                    bif lb then(
                     (Xp db.1 ([0,1])).bind fun lc=>
                     bif lc then(
                      bif ((d8.1.length:Nat):Int)==0 then(
                       some (fl.2==16))
                      else(
                       some false))
                     else(
                      some false))
                    else(
                     some false))
                   else(
                    some false))
                  else(
                   some false))
                 else(
                  some false))
                else(
                 some false))
               else(
                some false))
              else(
               some false))
             else(
              some false))
            else(
             some false))
           else(
            some false)))))))))))
def jP:Option Bool :=
 (Qx).bind fun dy=>
 some dy
def xU (r_:z6)(ah:List (List Int)×Int)(s_:Int):Option (LR Int (Unit⊕Bool)) :=
 bif decide (s_<((r_.Rows.length:Nat):Int)) then(
  (vL r_ ah.1 s_).bind fun br=>
  (xV r_ ah.1 br.1).bind fun cg=>
  bif br.2 != 0 then(
   some (.done (.inr false)))
  else(
   bif cg.2 != 0 then(
    some (.done (.inr false)))
   else(
    (kL r_ ah.1 s_).bind fun gl=>
    (uO br.1 gl).bind fun j8=>
    bif !j8 then(
     some (.done (.inr false)))
    else(
     (Xp cg.1 ([s_])).bind fun ir=>
     bif !ir then(
      some (.done (.inr false)))
     else(
      some (.next (w64 (s_+1))))))))
 else(
  some (.done (.inl ())))
def YR (x_:ub):Option Bool :=
 (Q5 (ub.mk x_.C)).bind fun r_=>
 (Xr r_).bind fun ah=>
 (V0 r_.Inputs (w64 (((r_.Rows.length:Nat):Int) - 1))).bind fun al=>
 bif ah.2 != 0 then(
  some false)
 else(
  bif al.2 != 0 then(
   some false)
  else(
   (uZ r_ ah.1).bind fun az=>
   (uZ r_ al.1).bind fun bp=>
   bif az.2 != 0 then(
    some false)
   else(
    bif bp.2 != 0 then(
     some false)
    else(
     bif !az.1 then(
      some false)
     else(
      bif !bp.1 then(
       some false)
      else(
       (loop (fun s=>xU r_ ah s) 0).bind fun t2=>
       match t2 with
       | .inl p=>jP
       | .inr p=>some p))))))
abbrev F0_:=z1e (eI .i64)
abbrev F1_:=eSl 1 false (eI .u8)
abbrev F2_:=eSl 1 true (eI .i64)
abbrev F3_:=eOs 1 true (eI .i64)
abbrev F4_:=eSl 1 false (eI .u16)
abbrev F5_:=eOs 1 false (eI .i64)
abbrev F6_:=eSl 1 false (eI .i64)
abbrev F7_:=zdd F0_
abbrev F8_:=vM (eI .i64) (eI .i64)
abbrev F9_:=eSl 1 true F2_
abbrev zmH:=eOs 1 true F3_
abbrev ziF:=eSl 1 true F6_
abbrev w8:=eSl 1 false F6_
abbrev ziE:=eOs 1 false F6_
abbrev zpj:=eSl 2 true F8_
abbrev yW:=eSl 2 false F8_
abbrev jD:=eOs 2 false F8_
abbrev z1Q:=QD (eI .i64) F7_
abbrev zqb:=eSl 1 true zpj
abbrev zqa:=eSl 1 false yW
abbrev Kg:=ZG (eI .u8) (eI .u8) (eI .u8) F1_ F4_
abbrev z8W:=wo (eI .i64) (eI .i64) zqb
abbrev zL:=wo (eI .i64) (eI .i64) zqa
abbrev z1P:=eSp zL
def rpN {α:Type _}(n:Nat)(a:α)(l:List α):List α:=Nat.rec l (fun _ r=>a::r) n
abbrev aLn (n:Nat):H:=.a (.atom (.int .i64 ((n:Nat):Int)))
end Go.Own

namespace Go.Proofs
open Go.Shelf
def Tryz.so118_ren:Go.Shelf.Ren:=⟨fun|6=>118|15=>139|14=>138|28=>161|29=>162|20=>153|21=>154|22=>155|23=>156|24=>157|25=>158|26=>159|27=>160|46=>169|47=>170|48=>171|49=>172|50=>173|57=>174|n=>n,fun|22=>32|24=>40|25=>91|3=>3|39=>78|0=>0|53=>104|55=>106|4=>4|46=>180|45=>179|50=>184|5=>5|9=>9|66=>194|70=>198|76=>200|77=>201|n=>n,fun|n=>n⟩
theorem Tryz.so118:Go.Proofs.SlLaysF0.n6 Tryz.prog Tryz.so118_ren:={
 mixed:=by kernel_rfl
 f6:=⟨Tryz.f118.name,by decide,Tryz.func118.trans (congrArg some (by kernel_rfl))⟩
 f14:=⟨Tryz.f138.name,by decide,Tryz.func138.trans (congrArg some (by kernel_rfl))⟩
 f15:=Tryz.func139.trans (congrArg some (by kernel_rfl))
 f20:=⟨Tryz.f153.name,by decide,Tryz.func153.trans (congrArg some (by kernel_rfl))⟩
 f21:=⟨Tryz.f154.name,by decide,Tryz.func154.trans (congrArg some (by kernel_rfl))⟩
 f22:=⟨Tryz.f155.name,by decide,Tryz.func155.trans (congrArg some (by kernel_rfl))⟩
 f23:=⟨Tryz.f156.name,by decide,Tryz.func156.trans (congrArg some (by kernel_rfl))⟩
 f24:=⟨Tryz.f157.name,by decide,Tryz.func157.trans (congrArg some (by kernel_rfl))⟩
 f25:=⟨Tryz.f158.name,by decide,Tryz.func158.trans (congrArg some (by kernel_rfl))⟩
 f26:=⟨Tryz.f159.name,by decide,Tryz.func159.trans (congrArg some (by kernel_rfl))⟩
 f27:=⟨Tryz.f160.name,by decide,Tryz.func160.trans (congrArg some (by kernel_rfl))⟩
 f28:=Tryz.func161.trans (congrArg some (by kernel_rfl))
 f29:=Tryz.func162.trans (congrArg some (by kernel_rfl))
 f46:=⟨Tryz.f169.name,by decide,Tryz.func169.trans (congrArg some (by kernel_rfl))⟩
 f47:=Tryz.func170.trans (congrArg some (by kernel_rfl))
 f48:=Tryz.func171.trans (congrArg some (by kernel_rfl))
 f49:=⟨Tryz.f172.name,by decide,Tryz.func172.trans (congrArg some (by kernel_rfl))⟩
 f50:=⟨Tryz.f173.name,by decide,Tryz.func173.trans (congrArg some (by kernel_rfl))⟩
 f57:=⟨Tryz.f174.name,by decide,Tryz.func174.trans (congrArg some (by kernel_rfl))⟩
 t0:=Tryz.underlying0
 a0:=Tryz.isAgg0
 z0:=Tryz.sizeOf0
 v0:=Tryz.zeroValue0
 t3:=Tryz.underlying3
 a3:=Tryz.isAgg3
 z3:=Tryz.sizeOf3
 v3:=Tryz.zeroValue3
 t4:=Tryz.underlying4
 a4:=Tryz.isAgg4
 z4:=Tryz.sizeOf4
 v4:=Tryz.zeroValue4
 t5:=Tryz.underlying5
 a5:=Tryz.isAgg5
 z5:=Tryz.sizeOf5
 v5:=Tryz.zeroValue5
 t9:=Tryz.underlying9
 a9:=Tryz.isAgg9
 z9:=Tryz.sizeOf9
 v9:=Tryz.zeroValue9
 t22:=Tryz.underlying32
 a22:=Tryz.isAgg32
 z22:=Tryz.sizeOf32
 v22:=Tryz.zeroValue32
 t25:=Tryz.underlying91
 a25:=Tryz.isAgg91
 z25:=Tryz.sizeOf91
 v25:=Tryz.zeroValue91
 t39:=Tryz.underlying78
 a39:=Tryz.isAgg78
 z39:=Tryz.sizeOf78
 v39:=Tryz.zeroValue78
 t45:=Tryz.underlying179
 a45:=Tryz.isAgg179
 z45:=Tryz.sizeOf179
 v45:=Tryz.zeroValue179
 t46:=Tryz.underlying180
 a46:=Tryz.isAgg180
 z46:=Tryz.sizeOf180
 v46:=Tryz.zeroValue180
 t50:=Tryz.underlying184
 a50:=Tryz.isAgg184
 z50:=Tryz.sizeOf184
 v50:=Tryz.zeroValue184
 t53:=Tryz.underlying104
 a53:=Tryz.isAgg104
 z53:=Tryz.sizeOf104
 v53:=Tryz.zeroValue104
 t55:=Tryz.underlying106
 a55:=Tryz.isAgg106
 z55:=Tryz.sizeOf106
 v55:=Tryz.zeroValue106
 t66:=Tryz.underlying194
 a66:=Tryz.isAgg194
 z66:=Tryz.sizeOf194
 v66:=Tryz.zeroValue194
 t70:=Tryz.underlying198
 a70:=Tryz.isAgg198
 z70:=Tryz.sizeOf198
 v70:=Tryz.zeroValue198
 t76:=Tryz.underlying200
 a76:=Tryz.isAgg200
 z76:=Tryz.sizeOf200
 v76:=Tryz.zeroValue200
 t77:=Tryz.underlying201
 a77:=Tryz.isAgg201
 z77:=Tryz.sizeOf201
 v77:=Tryz.zeroValue201 }
end Go.Proofs
