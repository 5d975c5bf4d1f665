/- -/
import Derived.Test.YtcodjgfoodacaaaGreatDoorPartB
import Derived.Test.YtcodjgfoodacaaaGreatDoorProg
import Derived.Test.YtcodjgfoodacaaaGreatDoorPartD
import Derived.Test.YtcodjgfoodacaaaGreatDoorChecked
import Derived.Lib.AppendZerosOnto
import Derived.Lib.SliceRun
import Derived.WalkKit
import Derived.Lib.Walk
import Derived.Test.YtcodjgfoodacaaaGreatDoorPartC
import Derived.Shelf.SlSortCmp.NoneTotal
import Derived.Ground.SlsfProg
set_option linter.unusedVariables false
set_option linter.unusedSimpArgs false
namespace Go.Ex
open Go.Proofs
theorem q5:EqP Tryz.prog 5 [.int .u8 0] false 1:=zbf (k:=.int .u8) Tryz.underlying5 ⟨_,(by kernel_rfl:Tryz.prog.info? 5=some Tryz.t5),rfl⟩ rfl
theorem q49:EqP Tryz.prog 49 (zbX 3 [.int .u8 0]) true 2:=z1N Tryz.underlying49 q5 ⟨_,(by kernel_rfl:Tryz.prog.info? 49=some Tryz.t49),rfl⟩
def i49:EI:=⟨.array 3 5,3,3,some [.int .u8 0,.int .u8 0,.int .u8 0],true⟩
theorem zkz:zgT Tryz.prog 49 i49:=⟨⟨Tryz.t49,by kernel_rfl,rfl,rfl,fun z h=>by cases h;exact⟨_,rfl,rfl,z3P rfl,rfl,⟨_,rfl⟩⟩⟩,Tryz.underlying49,fun _=>Kp q49 rfl rfl (Nat.le_of_ble_eq_true (by kernel_rfl)) (by decide)⟩
def i64:EI:=⟨.func,1,8,some [.nilFunc],false⟩
theorem q3:EqP Tryz.prog 3 [.int .i64 0] false 1:=zbf (k:=.int .i64) Tryz.underlying3 ⟨_,(by kernel_rfl:Tryz.prog.info? 3=some Tryz.t3),rfl⟩ rfl
theorem q66:EqP Tryz.prog 66 (JA [([.int .i64 0],false),([.int .i64 0],false)]) true 2:=KW Tryz.underlying66 (by kernel_rfl) ⟨_,(by kernel_rfl:Tryz.prog.info? 66=some Tryz.t66),rfl⟩ (by decide) (yP.cons (by decide) rfl (q3.mono (by decide)) (yP.cons (by decide) rfl (q3.mono (by decide)) (yP.nil)))
def i66:EI:=⟨.struct [(0,3),(1,3)],2,16,some [.int .i64 0,.int .i64 0],true⟩
theorem zpq:zgT Tryz.prog 66 i66:=⟨⟨Tryz.t66,by kernel_rfl,rfl,rfl,fun z h=>by cases h;exact⟨_,rfl,rfl,z3P rfl,rfl,⟨_,rfl⟩⟩⟩,⟨_,Tryz.underlying66,by kernel_rfl,by
  intro f hf
  simp only [List.mem_cons,List.not_mem_nil,or_false]at hf
  rcases hf with rfl|rfl
  ·exact⟨Tryz.t3,by kernel_rfl⟩
  ·exact⟨Tryz.t3,by kernel_rfl⟩⟩,fun _=>Kp q66 rfl rfl (Nat.le_of_ble_eq_true (by kernel_rfl)) (by decide)⟩
theorem q67:EqP Tryz.prog 67 (JA [([.int .i64 0],false),([.int .i64 0],false)]) true 2:=KW Tryz.underlying67 (by kernel_rfl) ⟨_,(by kernel_rfl:Tryz.prog.info? 67=some Tryz.t67),rfl⟩ (by decide) (yP.cons (by decide) rfl (q3.mono (by decide)) (yP.cons (by decide) rfl (q3.mono (by decide)) (yP.nil)))
def i67:EI:=⟨.struct [(0,3),(1,3)],2,16,some [.int .i64 0,.int .i64 0],true⟩
theorem zky:zgT Tryz.prog 67 i67:=⟨⟨Tryz.t67,by kernel_rfl,rfl,rfl,fun z h=>by cases h;exact⟨_,rfl,rfl,z3P rfl,rfl,⟨_,rfl⟩⟩⟩,⟨_,Tryz.underlying67,by kernel_rfl,by
  intro f hf
  simp only [List.mem_cons,List.not_mem_nil,or_false]at hf
  rcases hf with rfl|rfl
  ·exact⟨Tryz.t3,by kernel_rfl⟩
  ·exact⟨Tryz.t3,by kernel_rfl⟩⟩,fun _=>Kp q67 rfl rfl (Nat.le_of_ble_eq_true (by kernel_rfl)) (by decide)⟩
theorem znt:EqP Tryz.prog 171 (zbX 2 [.int .i64 0]) true 2:=z1N Tryz.underlying171 q3 ⟨_,(by kernel_rfl:Tryz.prog.info? 171=some Tryz.t171),rfl⟩
def zqw:EI:=⟨.array 2 3,2,16,some [.int .i64 0,.int .i64 0],true⟩
theorem zij:zgT Tryz.prog 171 zqw:=⟨⟨Tryz.t171,by kernel_rfl,rfl,rfl,fun z h=>by cases h;exact⟨_,rfl,rfl,z3P rfl,rfl,⟨_,rfl⟩⟩⟩,Tryz.underlying171,fun _=>Kp znt rfl rfl (Nat.le_of_ble_eq_true (by kernel_rfl)) (by decide)⟩
theorem zqn:EqP Tryz.prog 189 (zbX 16 [.int .i64 0,.int .i64 0]) true 3:=z1N Tryz.underlying189 znt ⟨_,(by kernel_rfl:Tryz.prog.info? 189=some Tryz.t189),rfl⟩
def zqv:EI:=⟨.array 16 171,32,256,some [.int .i64 0,.int .i64 0,.int .i64 0,.int .i64 0,.int .i64 0,.int .i64 0,.int .i64 0,.int .i64 0,.int .i64 0,.int .i64 0,.int .i64 0,.int .i64 0,.int .i64 0,.int .i64 0,.int .i64 0,.int .i64 0,.int .i64 0,.int .i64 0,.int .i64 0,.int .i64 0,.int .i64 0,.int .i64 0,.int .i64 0,.int .i64 0,.int .i64 0,.int .i64 0,.int .i64 0,.int .i64 0,.int .i64 0,.int .i64 0,.int .i64 0,.int .i64 0],true⟩
theorem znH:zgT Tryz.prog 189 zqv:=⟨⟨Tryz.t189,by kernel_rfl,rfl,rfl,fun z h=>by cases h;exact⟨_,rfl,rfl,z3P rfl,rfl,⟨_,rfl⟩⟩⟩,Tryz.underlying189,fun _=>Kp zqn rfl rfl (Nat.le_of_ble_eq_true (by kernel_rfl)) (by decide)⟩
theorem zns:EqP Tryz.prog 190 (zbX 16 [.int .i64 0,.int .i64 0]) true 3:=z1N Tryz.underlying190 znt ⟨_,(by kernel_rfl:Tryz.prog.info? 190=some Tryz.t190),rfl⟩
def zqu:EI:=⟨.array 16 171,32,256,some [.int .i64 0,.int .i64 0,.int .i64 0,.int .i64 0,.int .i64 0,.int .i64 0,.int .i64 0,.int .i64 0,.int .i64 0,.int .i64 0,.int .i64 0,.int .i64 0,.int .i64 0,.int .i64 0,.int .i64 0,.int .i64 0,.int .i64 0,.int .i64 0,.int .i64 0,.int .i64 0,.int .i64 0,.int .i64 0,.int .i64 0,.int .i64 0,.int .i64 0,.int .i64 0,.int .i64 0,.int .i64 0,.int .i64 0,.int .i64 0,.int .i64 0,.int .i64 0],true⟩
theorem zii:zgT Tryz.prog 190 zqu:=⟨⟨Tryz.t190,by kernel_rfl,rfl,rfl,fun z h=>by cases h;exact⟨_,rfl,rfl,z3P rfl,rfl,⟨_,rfl⟩⟩⟩,Tryz.underlying190,fun _=>Kp zns rfl rfl (Nat.le_of_ble_eq_true (by kernel_rfl)) (by decide)⟩
theorem zqm:EqP Tryz.prog 192 (JA [([.int .i64 0],false),([.int .i64 0,.int .i64 0,.int .i64 0,.int .i64 0,.int .i64 0,.int .i64 0,.int .i64 0,.int .i64 0,.int .i64 0,.int .i64 0,.int .i64 0,.int .i64 0,.int .i64 0,.int .i64 0,.int .i64 0,.int .i64 0,.int .i64 0,.int .i64 0,.int .i64 0,.int .i64 0,.int .i64 0,.int .i64 0,.int .i64 0,.int .i64 0,.int .i64 0,.int .i64 0,.int .i64 0,.int .i64 0,.int .i64 0,.int .i64 0,.int .i64 0,.int .i64 0],true)]) true 4:=KW Tryz.underlying192 (by kernel_rfl) ⟨_,(by kernel_rfl:Tryz.prog.info? 192=some Tryz.t192),rfl⟩ (by decide) (yP.cons (by decide) rfl (q3.mono (by decide)) (yP.cons (by decide) rfl (zns.mono (by decide)) (yP.nil)))
def zqt:EI:=⟨.struct [(0,3),(1,190)],33,264,some [.int .i64 0,.int .i64 0,.int .i64 0,.int .i64 0,.int .i64 0,.int .i64 0,.int .i64 0,.int .i64 0,.int .i64 0,.int .i64 0,.int .i64 0,.int .i64 0,.int .i64 0,.int .i64 0,.int .i64 0,.int .i64 0,.int .i64 0,.int .i64 0,.int .i64 0,.int .i64 0,.int .i64 0,.int .i64 0,.int .i64 0,.int .i64 0,.int .i64 0,.int .i64 0,.int .i64 0,.int .i64 0,.int .i64 0,.int .i64 0,.int .i64 0,.int .i64 0,.int .i64 0],true⟩
theorem znG:zgT Tryz.prog 192 zqt:=⟨⟨Tryz.t192,by kernel_rfl,rfl,rfl,fun z h=>by cases h;exact⟨_,rfl,rfl,z3P rfl,rfl,⟨_,rfl⟩⟩⟩,⟨_,Tryz.underlying192,by kernel_rfl,by
  intro f hf
  simp only [List.mem_cons,List.not_mem_nil,or_false]at hf
  rcases hf with rfl|rfl
  ·exact⟨Tryz.t3,by kernel_rfl⟩
  ·exact⟨Tryz.t190,by kernel_rfl⟩⟩,fun _=>Kp zqm rfl rfl (Nat.le_of_ble_eq_true (by kernel_rfl)) (by decide)⟩
theorem zql:EqP Tryz.prog 193 (JA [([.int .i64 0],false),([.int .i64 0,.int .i64 0,.int .i64 0,.int .i64 0,.int .i64 0,.int .i64 0,.int .i64 0,.int .i64 0,.int .i64 0,.int .i64 0,.int .i64 0,.int .i64 0,.int .i64 0,.int .i64 0,.int .i64 0,.int .i64 0,.int .i64 0,.int .i64 0,.int .i64 0,.int .i64 0,.int .i64 0,.int .i64 0,.int .i64 0,.int .i64 0,.int .i64 0,.int .i64 0,.int .i64 0,.int .i64 0,.int .i64 0,.int .i64 0,.int .i64 0,.int .i64 0],true)]) true 4:=KW Tryz.underlying193 (by kernel_rfl) ⟨_,(by kernel_rfl:Tryz.prog.info? 193=some Tryz.t193),rfl⟩ (by decide) (yP.cons (by decide) rfl (q3.mono (by decide)) (yP.cons (by decide) rfl (zns.mono (by decide)) (yP.nil)))
def zqs:EI:=⟨.struct [(0,3),(1,190)],33,264,some [.int .i64 0,.int .i64 0,.int .i64 0,.int .i64 0,.int .i64 0,.int .i64 0,.int .i64 0,.int .i64 0,.int .i64 0,.int .i64 0,.int .i64 0,.int .i64 0,.int .i64 0,.int .i64 0,.int .i64 0,.int .i64 0,.int .i64 0,.int .i64 0,.int .i64 0,.int .i64 0,.int .i64 0,.int .i64 0,.int .i64 0,.int .i64 0,.int .i64 0,.int .i64 0,.int .i64 0,.int .i64 0,.int .i64 0,.int .i64 0,.int .i64 0,.int .i64 0,.int .i64 0],true⟩
theorem zdl:zgT Tryz.prog 193 zqs:=⟨⟨Tryz.t193,by kernel_rfl,rfl,rfl,fun z h=>by cases h;exact⟨_,rfl,rfl,z3P rfl,rfl,⟨_,rfl⟩⟩⟩,⟨_,Tryz.underlying193,by kernel_rfl,by
  intro f hf
  simp only [List.mem_cons,List.not_mem_nil,or_false]at hf
  rcases hf with rfl|rfl
  ·exact⟨Tryz.t3,by kernel_rfl⟩
  ·exact⟨Tryz.t190,by kernel_rfl⟩⟩,fun _=>Kp zql rfl rfl (Nat.le_of_ble_eq_true (by kernel_rfl)) (by decide)⟩
end Go.Ex

namespace Go.Own
open Go.Proofs
def znF:Value->Bool
 | .int _ _=>true
 | _=>false
theorem z9k:∀{z vs us:List Value} {r:Bool},z.all znF=true->z.length=vs.length->xp vs us=some r->Go.Ex.z8e z vs=true/\Go.Ex.xp vs us=some r
 | [],[],us,r,_,_,h=>by
  cases us with
  | nil=>simp only [xp,Option.some.injEq]at h;subst h;exact⟨rfl,rfl⟩
  | cons u us=>simp [xp]at h
 | a::z,v::vs,us,r,hz,hl,h=>by
  have q:∃k x u' k' y,v=.int k x/\us=.int k' y::u'/\k=k':=by
   cases us with
   | nil=>cases v <;> simp [xp]at h
   | cons u us=>
    cases v <;> cases u <;> simp [xp]at h
    exact⟨_,_,_,_,_,rfl,rfl,h.1⟩
  obtain⟨k,x,u',k',y,rfl,rfl,hk⟩:=q
  simp only [xp,hk,if_true,Option.map_eq_some_iff]at h
  obtain⟨r',e1,rfl⟩:=h
  simp only [List.all_cons,Bool.and_eq_true]at hz
  obtain⟨q1,q2⟩:=z9k hz.2 (by simpa using hl) e1
  refine⟨?_,by simp [Go.Ex.xp,hk,q2]⟩
  cases a <;> first|(simp [znF]at hz;done)|simpa [Go.Ex.z8e] using q1
 | [],_::_,_,_,_,hl,_=>by simp at hl
 | _::_,[],_,_,_,hl,_=>by simp at hl
variable {P:Program}
theorem z5z {t n:Nat}{i:Go.Ex.EI}(h:Go.Ex.zgS P t i){z:List Value}(hz:i.zero=some z)(hi:z.all znF=true)(hs:i.size=n)(hn:z.length=n):zgS P t n:={
 guard:=h.guard
 run:=fun vs us r w hv hu he=>by
  obtain⟨q1,q2⟩:=z9k hi (by rw [hn,hv]) he
  exact h.run vs us r w (by rw [hs];exact hv) (by rw [hs];exact hu) (by simpa only [Go.Ex.znI,hz] using q1) q2 }
variable {h:Array Obj}{S:zi}
theorem zf {v:Value}(hv:v.oneCell'=true):zG S h (.atom v) [v] []:=by simp only [zG,Rep];exact⟨⟨trivial,hv⟩,trivial⟩
theorem wy (sz:Nat):zG S h (.osl sz true []) [.slice none 0 0] []:=by
 simp only [zG]
 exact⟨none,0,rfl,(fun _=>rfl),Nat.le_refl _,Nat.zero_le _,by simp,.inl ⟨trivial,rfl,rfl,trivial⟩⟩
theorem zbh {sz:Nat}:zG S h (.dop (nlQ sz [])) [.slice none 0 0] []:=by
 simp only [zG,Rep]
 exact⟨⟨_,rfl,zd0.2 ⟨by simp [Rep],fun _=>rfl⟩⟩,trivial⟩
variable {a:A}
theorem Kq {c:List Value}(q:zG S h a c []):∀n,zL S h (List.replicate n a) (List.replicate n c).flatten []
 | 0=>by simp [zL]
 | n+1=>by
  rw [List.replicate_succ,List.replicate_succ,List.flatten_cons]
  simp only [zL]
  exact⟨c,_,[],[],rfl,rfl,q,Kq q n⟩
theorem zit {c c':List Value}(q:zG S h a c [])(e:c'=c):zG S h a c' []:=e ▸ q
variable {fs:List A}
theorem zI {cs:List Value}(q:zL S h fs cs []):zG S h (.agg fs) cs []:=by simpa only [zG] using q
theorem zA:zL S h [] [] []:=by simp [zL]
theorem ze {c1 c2:List Value}(q1:zG S h a c1 [])(q2:zL S h fs c2 []):zL S h (a::fs) (c1++c2) []:=by simp only [zL];exact⟨c1,c2,[],[],rfl,rfl,q1,q2⟩
def ti1:TI:=⟨.other,1,8,some (.atom .nilFunc),false⟩
theorem zjo:Zo Tryz.prog 1 ti1:=⟨⟨Tryz.t1,by kernel_rfl,rfl,rfl,fun z h=>by cases h;exact⟨_,rfl,rfl,fun S h=>zf rfl⟩⟩,⟨_,Tryz.underlying1,rfl⟩,by intro h;cases h⟩
def ti2:TI:=⟨.int .i64,1,8,some (.atom (.int .i64 0)),false⟩
theorem zjn:Zo Tryz.prog 2 ti2:=⟨⟨Tryz.t2,by kernel_rfl,rfl,rfl,fun z h=>by cases h;exact⟨_,rfl,rfl,fun S h=>zf rfl⟩⟩,Tryz.underlying2,by intro h;cases h⟩
def ti3:TI:=⟨.int .i64,1,8,some (.atom (.int .i64 0)),false⟩
theorem zjm:Zo Tryz.prog 3 ti3:=⟨⟨Tryz.t3,by kernel_rfl,rfl,rfl,fun z h=>by cases h;exact⟨_,rfl,rfl,fun S h=>zf rfl⟩⟩,Tryz.underlying3,by intro h;cases h⟩
def ti4:TI:=⟨.bool,1,1,some (.atom (.bool false)),false⟩
theorem zjl:Zo Tryz.prog 4 ti4:=⟨⟨Tryz.t4,by kernel_rfl,rfl,rfl,fun z h=>by cases h;exact⟨_,rfl,rfl,fun S h=>zf rfl⟩⟩,Tryz.underlying4,by intro h;cases h⟩
def ti5:TI:=⟨.int .u8,1,1,some (.atom (.int .u8 0)),false⟩
theorem zjk:Zo Tryz.prog 5 ti5:=⟨⟨Tryz.t5,by kernel_rfl,rfl,rfl,fun z h=>by cases h;exact⟨_,rfl,rfl,fun S h=>zf rfl⟩⟩,Tryz.underlying5,by intro h;cases h⟩
def ti9:TI:=⟨.str,1,16,none,false⟩
theorem zjj:Zo Tryz.prog 9 ti9:=⟨⟨Tryz.t9,by kernel_rfl,rfl,rfl,fun z h=>by cases h⟩,Tryz.underlying9,by intro h;cases h⟩
def zp4:TI:=⟨.other,1,16,some (.atom .nilIface),false⟩
theorem zht:Zo Tryz.prog 20 zp4:=⟨⟨Tryz.t20,by kernel_rfl,rfl,rfl,fun z h=>by cases h;exact⟨_,rfl,rfl,fun S h=>zf rfl⟩⟩,⟨_,Tryz.underlying20,rfl⟩,by intro h;cases h⟩
def zp3:TI:=⟨.slice 5,1,24,some (.osl 1 true []),false⟩
theorem zhs:Zo Tryz.prog 22 zp3:=⟨⟨Tryz.t22,by kernel_rfl,rfl,rfl,fun z h=>by cases h;exact⟨_,rfl,rfl,fun S h=>wy _⟩⟩,Tryz.underlying22,by intro h;cases h⟩
def zp2:TI:=⟨.slice 117,1,24,some (.osl 1 true []),false⟩
theorem zhr:Zo Tryz.prog 23 zp2:=⟨⟨Tryz.t23,by kernel_rfl,rfl,rfl,fun z h=>by cases h;exact⟨_,rfl,rfl,fun S h=>wy _⟩⟩,Tryz.underlying23,by intro h;cases h⟩
def zp1:TI:=⟨.struct [(0,1),(1,1),(2,1),(3,1),(4,1)],5,56,some (.agg [.atom (.int .u8 0),.atom (.int .u8 0),.atom (.int .u8 0),.osl 1 true [],.osl 1 true []]),false⟩
theorem zhq:Zo Tryz.prog 25 zp1:=⟨⟨Tryz.t25,by kernel_rfl,rfl,rfl,fun z h=>by cases h;exact⟨_,rfl,rfl,fun S h=>zI (ze (zf rfl) (ze (zf rfl) (ze (zf rfl) (ze (wy _) (ze (wy _) (zA))))))⟩⟩,⟨_,Tryz.underlying25,by kernel_rfl,by
  intro f hf
  simp only [List.mem_cons,List.not_mem_nil,or_false]at hf
  rcases hf with rfl|rfl|rfl|rfl|rfl
  ·exact⟨Tryz.t5,by kernel_rfl⟩
  ·exact⟨Tryz.t5,by kernel_rfl⟩
  ·exact⟨Tryz.t5,by kernel_rfl⟩
  ·exact⟨Tryz.t22,by kernel_rfl⟩
  ·exact⟨Tryz.t23,by kernel_rfl⟩⟩,by intro h;cases h⟩
def zp0:TI:=⟨.struct [(0,5)],5,56,some (.agg [.agg [.atom (.int .u8 0),.atom (.int .u8 0),.atom (.int .u8 0),.osl 1 true [],.osl 1 true []]]),false⟩
theorem zhp:Zo Tryz.prog 27 zp0:=⟨⟨Tryz.t27,by kernel_rfl,rfl,rfl,fun z h=>by cases h;exact⟨_,rfl,rfl,fun S h=>zI (ze (zI (ze (zf rfl) (ze (zf rfl) (ze (zf rfl) (ze (wy _) (ze (wy _) (zA))))))) (zA))⟩⟩,⟨_,Tryz.underlying27,by kernel_rfl,by
  intro f hf
  simp only [List.mem_cons,List.not_mem_nil,or_false]at hf
  rcases hf with rfl
  ·exact⟨Tryz.t25,by kernel_rfl⟩⟩,by intro h;cases h⟩
def zoZ:TI:=⟨.slice 68,1,24,some (.osl 1 true []),false⟩
theorem zho:Zo Tryz.prog 28 zoZ:=⟨⟨Tryz.t28,by kernel_rfl,rfl,rfl,fun z h=>by cases h;exact⟨_,rfl,rfl,fun S h=>wy _⟩⟩,Tryz.underlying28,by intro h;cases h⟩
def zoY:TI:=⟨.struct [(0,1),(1,1),(2,1)],3,40,some (.agg [.atom (.int .i64 0),.atom (.int .i64 0),.osl 1 true []]),false⟩
theorem zhn:Zo Tryz.prog 30 zoY:=⟨⟨Tryz.t30,by kernel_rfl,rfl,rfl,fun z h=>by cases h;exact⟨_,rfl,rfl,fun S h=>zI (ze (zf rfl) (ze (zf rfl) (ze (wy _) (zA))))⟩⟩,⟨_,Tryz.underlying30,by kernel_rfl,by
  intro f hf
  simp only [List.mem_cons,List.not_mem_nil,or_false]at hf
  rcases hf with rfl|rfl|rfl
  ·exact⟨Tryz.t3,by kernel_rfl⟩
  ·exact⟨Tryz.t3,by kernel_rfl⟩
  ·exact⟨Tryz.t28,by kernel_rfl⟩⟩,by intro h;cases h⟩
def zoX:TI:=⟨.slice 40,1,24,some (.osl 1 true []),false⟩
theorem zhm:Zo Tryz.prog 32 zoX:=⟨⟨Tryz.t32,by kernel_rfl,rfl,rfl,fun z h=>by cases h;exact⟨_,rfl,rfl,fun S h=>wy _⟩⟩,Tryz.underlying32,by intro h;cases h⟩
def zoW:TI:=⟨.int .i64,1,8,some (.atom (.int .i64 0)),false⟩
theorem zhl:Zo Tryz.prog 33 zoW:=⟨⟨Tryz.t33,by kernel_rfl,rfl,rfl,fun z h=>by cases h;exact⟨_,rfl,rfl,fun S h=>zf rfl⟩⟩,Tryz.underlying33,by intro h;cases h⟩
def zoV:TI:=⟨.slice 3,1,24,some (.osl 1 true []),false⟩
theorem zhk:Zo Tryz.prog 40 zoV:=⟨⟨Tryz.t40,by kernel_rfl,rfl,rfl,fun z h=>by cases h;exact⟨_,rfl,rfl,fun S h=>wy _⟩⟩,Tryz.underlying40,by intro h;cases h⟩
def zoU:TI:=⟨.other,1,8,some (.atom .nilFunc),false⟩
theorem zhj:Zo Tryz.prog 41 zoU:=⟨⟨Tryz.t41,by kernel_rfl,rfl,rfl,fun z h=>by cases h;exact⟨_,rfl,rfl,fun S h=>zf rfl⟩⟩,⟨_,Tryz.underlying41,rfl⟩,by intro h;cases h⟩
def zoT:TI:=⟨.other,1,8,some (.atom .nilFunc),false⟩
theorem zhi:Zo Tryz.prog 42 zoT:=⟨⟨Tryz.t42,by kernel_rfl,rfl,rfl,fun z h=>by cases h;exact⟨_,rfl,rfl,fun S h=>zf rfl⟩⟩,⟨_,Tryz.underlying42,rfl⟩,by intro h;cases h⟩
def zoS:TI:=⟨.slice 22,1,24,some (.osl 1 true []),false⟩
theorem zhh:Zo Tryz.prog 46 zoS:=⟨⟨Tryz.t46,by kernel_rfl,rfl,rfl,fun z h=>by cases h;exact⟨_,rfl,rfl,fun S h=>wy _⟩⟩,Tryz.underlying46,by intro h;cases h⟩
def zoR:TI:=⟨.struct [(0,1),(1,1)],2,32,some (.agg [.atom (.int .u8 0),.osl 1 true []]),false⟩
theorem zhg:Zo Tryz.prog 48 zoR:=⟨⟨Tryz.t48,by kernel_rfl,rfl,rfl,fun z h=>by cases h;exact⟨_,rfl,rfl,fun S h=>zI (ze (zf rfl) (ze (wy _) (zA)))⟩⟩,⟨_,Tryz.underlying48,by kernel_rfl,by
  intro f hf
  simp only [List.mem_cons,List.not_mem_nil,or_false]at hf
  rcases hf with rfl|rfl
  ·exact⟨Tryz.t5,by kernel_rfl⟩
  ·exact⟨Tryz.t46,by kernel_rfl⟩⟩,by intro h;cases h⟩
def zoQ:TI:=⟨.array 3 5,3,3,some (.agg [.atom (.int .u8 0),.atom (.int .u8 0),.atom (.int .u8 0)]),true⟩
theorem zhf:Zo Tryz.prog 49 zoQ:=⟨⟨Tryz.t49,by kernel_rfl,rfl,rfl,fun z h=>by cases h;exact⟨_,rfl,rfl,fun S h=>zI (ze (zf rfl) (ze (zf rfl) (ze (zf rfl) (zA))))⟩⟩,Tryz.underlying49,fun _=>z5z (Go.Ex.zkz.eqn rfl) rfl rfl rfl rfl⟩
def zoP:TI:=⟨.other,1,8,some (.atom .nilFunc),false⟩
theorem zhe:Zo Tryz.prog 57 zoP:=⟨⟨Tryz.t57,by kernel_rfl,rfl,rfl,fun z h=>by cases h;exact⟨_,rfl,rfl,fun S h=>zf rfl⟩⟩,⟨_,Tryz.underlying57,rfl⟩,by intro h;cases h⟩
def zoO:TI:=⟨.struct [(0,1),(1,1)],2,16,some (.agg [.atom (.int .i64 0),.atom (.int .i64 0)]),true⟩
theorem zhd:Zo Tryz.prog 67 zoO:=⟨⟨Tryz.t67,by kernel_rfl,rfl,rfl,fun z h=>by cases h;exact⟨_,rfl,rfl,fun S h=>zI (ze (zf rfl) (ze (zf rfl) (zA)))⟩⟩,⟨_,Tryz.underlying67,by kernel_rfl,by
  intro f hf
  simp only [List.mem_cons,List.not_mem_nil,or_false]at hf
  rcases hf with rfl|rfl
  ·exact⟨Tryz.t3,by kernel_rfl⟩
  ·exact⟨Tryz.t3,by kernel_rfl⟩⟩,fun _=>z5z (Go.Ex.zky.eqn rfl) rfl rfl rfl rfl⟩
def zoN:TI:=⟨.slice 67,1,24,some (.osl 2 true []),false⟩
theorem zhc:Zo Tryz.prog 68 zoN:=⟨⟨Tryz.t68,by kernel_rfl,rfl,rfl,fun z h=>by cases h;exact⟨_,rfl,rfl,fun S h=>wy _⟩⟩,Tryz.underlying68,by intro h;cases h⟩
def zoM:TI:=⟨.other,1,8,some (.atom .nilFunc),false⟩
theorem zhb:Zo Tryz.prog 73 zoM:=⟨⟨Tryz.t73,by kernel_rfl,rfl,rfl,fun z h=>by cases h;exact⟨_,rfl,rfl,fun S h=>zf rfl⟩⟩,⟨_,Tryz.underlying73,rfl⟩,by intro h;cases h⟩
def zoL:TI:=⟨.slice 78,1,24,some (.osl 1 true []),false⟩
theorem zha:Zo Tryz.prog 76 zoL:=⟨⟨Tryz.t76,by kernel_rfl,rfl,rfl,fun z h=>by cases h;exact⟨_,rfl,rfl,fun S h=>wy _⟩⟩,Tryz.underlying76,by intro h;cases h⟩
def zoK:TI:=⟨.int .u64,1,8,some (.atom (.int .u64 0)),false⟩
theorem zh9:Zo Tryz.prog 78 zoK:=⟨⟨Tryz.t78,by kernel_rfl,rfl,rfl,fun z h=>by cases h;exact⟨_,rfl,rfl,fun S h=>zf rfl⟩⟩,Tryz.underlying78,by intro h;cases h⟩
def zoJ:TI:=⟨.other,1,8,some (.atom .nilFunc),false⟩
theorem zh8:Zo Tryz.prog 80 zoJ:=⟨⟨Tryz.t80,by kernel_rfl,rfl,rfl,fun z h=>by cases h;exact⟨_,rfl,rfl,fun S h=>zf rfl⟩⟩,⟨_,Tryz.underlying80,rfl⟩,by intro h;cases h⟩
def zoI:TI:=⟨.slice 32,1,24,some (.osl 1 true []),false⟩
theorem zh7:Zo Tryz.prog 82 zoI:=⟨⟨Tryz.t82,by kernel_rfl,rfl,rfl,fun z h=>by cases h;exact⟨_,rfl,rfl,fun S h=>wy _⟩⟩,Tryz.underlying82,by intro h;cases h⟩
def zoH:TI:=⟨.other,1,8,some (.atom .nilFunc),false⟩
theorem zh6:Zo Tryz.prog 83 zoH:=⟨⟨Tryz.t83,by kernel_rfl,rfl,rfl,fun z h=>by cases h;exact⟨_,rfl,rfl,fun S h=>zf rfl⟩⟩,⟨_,Tryz.underlying83,rfl⟩,by intro h;cases h⟩
def zoG:TI:=⟨.other,1,8,some (.atom .nilFunc),false⟩
theorem zh5:Zo Tryz.prog 84 zoG:=⟨⟨Tryz.t84,by kernel_rfl,rfl,rfl,fun z h=>by cases h;exact⟨_,rfl,rfl,fun S h=>zf rfl⟩⟩,⟨_,Tryz.underlying84,rfl⟩,by intro h;cases h⟩
def zoF:TI:=⟨.other,1,8,some (.atom .nilFunc),false⟩
theorem zh4:Zo Tryz.prog 93 zoF:=⟨⟨Tryz.t93,by kernel_rfl,rfl,rfl,fun z h=>by cases h;exact⟨_,rfl,rfl,fun S h=>zf rfl⟩⟩,⟨_,Tryz.underlying93,rfl⟩,by intro h;cases h⟩
def zoE:TI:=⟨.struct [(0,1),(1,1)],2,16,some (.agg [.atom (.int .i64 0),.atom .nilFunc]),false⟩
theorem zh3:Zo Tryz.prog 95 zoE:=⟨⟨Tryz.t95,by kernel_rfl,rfl,rfl,fun z h=>by cases h;exact⟨_,rfl,rfl,fun S h=>zI (ze (zf rfl) (ze (zf rfl) (zA)))⟩⟩,⟨_,Tryz.underlying95,by kernel_rfl,by
  intro f hf
  simp only [List.mem_cons,List.not_mem_nil,or_false]at hf
  rcases hf with rfl|rfl
  ·exact⟨Tryz.t33,by kernel_rfl⟩
  ·exact⟨Tryz.t42,by kernel_rfl⟩⟩,by intro h;cases h⟩
def zoD:TI:=⟨.array 3 95,6,48,some (.agg [.agg [.atom (.int .i64 0),.atom .nilFunc],.agg [.atom (.int .i64 0),.atom .nilFunc],.agg [.atom (.int .i64 0),.atom .nilFunc]]),false⟩
theorem zh2:Zo Tryz.prog 96 zoD:=⟨⟨Tryz.t96,by kernel_rfl,rfl,rfl,fun z h=>by cases h;exact⟨_,rfl,rfl,fun S h=>zI (ze (zI (ze (zf rfl) (ze (zf rfl) (zA)))) (ze (zI (ze (zf rfl) (ze (zf rfl) (zA)))) (ze (zI (ze (zf rfl) (ze (zf rfl) (zA)))) (zA))))⟩⟩,Tryz.underlying96,by intro h;cases h⟩
def zoC:TI:=⟨.other,1,8,some (.atom .nilFunc),false⟩
theorem zh1:Zo Tryz.prog 97 zoC:=⟨⟨Tryz.t97,by kernel_rfl,rfl,rfl,fun z h=>by cases h;exact⟨_,rfl,rfl,fun S h=>zf rfl⟩⟩,⟨_,Tryz.underlying97,rfl⟩,by intro h;cases h⟩
def zoB:TI:=⟨.other,1,8,some (.atom .nilFunc),false⟩
theorem zh0:Zo Tryz.prog 99 zoB:=⟨⟨Tryz.t99,by kernel_rfl,rfl,rfl,fun z h=>by cases h;exact⟨_,rfl,rfl,fun S h=>zf rfl⟩⟩,⟨_,Tryz.underlying99,rfl⟩,by intro h;cases h⟩
def zjS:TI:=⟨.int .u32,1,4,some (.atom (.int .u32 0)),false⟩
theorem zeL:Zo Tryz.prog 104 zjS:=⟨⟨Tryz.t104,by kernel_rfl,rfl,rfl,fun z h=>by cases h;exact⟨_,rfl,rfl,fun S h=>zf rfl⟩⟩,Tryz.underlying104,by intro h;cases h⟩
def zjR:TI:=⟨.int .u64,1,8,some (.atom (.int .u64 0)),false⟩
theorem zeK:Zo Tryz.prog 106 zjR:=⟨⟨Tryz.t106,by kernel_rfl,rfl,rfl,fun z h=>by cases h;exact⟨_,rfl,rfl,fun S h=>zf rfl⟩⟩,Tryz.underlying106,by intro h;cases h⟩
def zjQ:TI:=⟨.slice 4,1,24,some (.osl 1 true []),false⟩
theorem zeJ:Zo Tryz.prog 111 zjQ:=⟨⟨Tryz.t111,by kernel_rfl,rfl,rfl,fun z h=>by cases h;exact⟨_,rfl,rfl,fun S h=>wy _⟩⟩,Tryz.underlying111,by intro h;cases h⟩
def zjP:TI:=⟨.int .u16,1,2,some (.atom (.int .u16 0)),false⟩
theorem zeI:Zo Tryz.prog 117 zjP:=⟨⟨Tryz.t117,by kernel_rfl,rfl,rfl,fun z h=>by cases h;exact⟨_,rfl,rfl,fun S h=>zf rfl⟩⟩,Tryz.underlying117,by intro h;cases h⟩
def zjO:TI:=⟨.other,1,8,some (.atom .nilFunc),false⟩
theorem zeH:Zo Tryz.prog 120 zjO:=⟨⟨Tryz.t120,by kernel_rfl,rfl,rfl,fun z h=>by cases h;exact⟨_,rfl,rfl,fun S h=>zf rfl⟩⟩,⟨_,Tryz.underlying120,rfl⟩,by intro h;cases h⟩
def zjN:TI:=⟨.array 64 40,64,1536,some (.agg (List.replicate 64 (.dop (nlQ 1 [])))),false⟩
theorem zeG:Zo Tryz.prog 125 zjN:=⟨⟨Tryz.t125,by kernel_rfl,rfl,rfl,fun z h=>by cases h;exact⟨_,rfl,by kernel_rfl,fun S h=>zit (zI (Kq (zbh) 64)) (by kernel_rfl)⟩⟩,Tryz.underlying125,by intro h;cases h⟩
def zjM:TI:=⟨.ptr 154,1,8,some (.atom (.pointer none)),false⟩
theorem zeF:Zo Tryz.prog 126 zjM:=⟨⟨Tryz.t126,by kernel_rfl,rfl,rfl,fun z h=>by cases h;exact⟨_,rfl,rfl,fun S h=>zf rfl⟩⟩,Tryz.underlying126,by intro h;cases h⟩
def zjL:TI:=⟨.other,1,8,some (.atom .nilFunc),false⟩
theorem zeE:Zo Tryz.prog 127 zjL:=⟨⟨Tryz.t127,by kernel_rfl,rfl,rfl,fun z h=>by cases h;exact⟨_,rfl,rfl,fun S h=>zf rfl⟩⟩,⟨_,Tryz.underlying127,rfl⟩,by intro h;cases h⟩
def zjK:TI:=⟨.other,1,8,some (.atom .nilFunc),false⟩
theorem zeD:Zo Tryz.prog 131 zjK:=⟨⟨Tryz.t131,by kernel_rfl,rfl,rfl,fun z h=>by cases h;exact⟨_,rfl,rfl,fun S h=>zf rfl⟩⟩,⟨_,Tryz.underlying131,rfl⟩,by intro h;cases h⟩
def zjJ:TI:=⟨.slice 111,1,24,some (.osl 1 true []),false⟩
theorem zeC:Zo Tryz.prog 136 zjJ:=⟨⟨Tryz.t136,by kernel_rfl,rfl,rfl,fun z h=>by cases h;exact⟨_,rfl,rfl,fun S h=>wy _⟩⟩,Tryz.underlying136,by intro h;cases h⟩
def zjI:TI:=⟨.slice 171,1,24,some (.osl 2 true []),false⟩
theorem zeB:Zo Tryz.prog 144 zjI:=⟨⟨Tryz.t144,by kernel_rfl,rfl,rfl,fun z h=>by cases h;exact⟨_,rfl,rfl,fun S h=>wy _⟩⟩,Tryz.underlying144,by intro h;cases h⟩
def zjH:TI:=⟨.other,1,8,some (.atom .nilFunc),false⟩
theorem zeA:Zo Tryz.prog 146 zjH:=⟨⟨Tryz.t146,by kernel_rfl,rfl,rfl,fun z h=>by cases h;exact⟨_,rfl,rfl,fun S h=>zf rfl⟩⟩,⟨_,Tryz.underlying146,rfl⟩,by intro h;cases h⟩
def zjG:TI:=⟨.other,1,8,some (.atom .nilFunc),false⟩
theorem zez:Zo Tryz.prog 147 zjG:=⟨⟨Tryz.t147,by kernel_rfl,rfl,rfl,fun z h=>by cases h;exact⟨_,rfl,rfl,fun S h=>zf rfl⟩⟩,⟨_,Tryz.underlying147,rfl⟩,by intro h;cases h⟩
def zjF:TI:=⟨.other,1,8,some (.atom .nilFunc),false⟩
theorem zey:Zo Tryz.prog 148 zjF:=⟨⟨Tryz.t148,by kernel_rfl,rfl,rfl,fun z h=>by cases h;exact⟨_,rfl,rfl,fun S h=>zf rfl⟩⟩,⟨_,Tryz.underlying148,rfl⟩,by intro h;cases h⟩
def zjE:TI:=⟨.other,1,8,some (.atom .nilFunc),false⟩
theorem zex:Zo Tryz.prog 149 zjE:=⟨⟨Tryz.t149,by kernel_rfl,rfl,rfl,fun z h=>by cases h;exact⟨_,rfl,rfl,fun S h=>zf rfl⟩⟩,⟨_,Tryz.underlying149,rfl⟩,by intro h;cases h⟩
def zjD:TI:=⟨.other,1,8,some (.atom .nilFunc),false⟩
theorem zew:Zo Tryz.prog 150 zjD:=⟨⟨Tryz.t150,by kernel_rfl,rfl,rfl,fun z h=>by cases h;exact⟨_,rfl,rfl,fun S h=>zf rfl⟩⟩,⟨_,Tryz.underlying150,rfl⟩,by intro h;cases h⟩
def zjC:TI:=⟨.other,1,8,some (.atom .nilFunc),false⟩
theorem zev:Zo Tryz.prog 152 zjC:=⟨⟨Tryz.t152,by kernel_rfl,rfl,rfl,fun z h=>by cases h;exact⟨_,rfl,rfl,fun S h=>zf rfl⟩⟩,⟨_,Tryz.underlying152,rfl⟩,by intro h;cases h⟩
def zjB:TI:=⟨.array 64 125,4096,98304,some (.agg (List.replicate 64 (.agg (List.replicate 64 (.dop (nlQ 1 [])))))),false⟩
theorem zeu:Zo Tryz.prog 154 zjB:=⟨⟨Tryz.t154,by kernel_rfl,rfl,rfl,fun z h=>by cases h;exact⟨_,rfl,by kernel_rfl,fun S h=>zit (zI (Kq (zI (Kq (zbh) 64)) 64)) (by kernel_rfl)⟩⟩,Tryz.underlying154,by intro h;cases h⟩
def zjA:TI:=⟨.slice 159,1,24,some (.osl 4 true []),false⟩
theorem zet:Zo Tryz.prog 155 zjA:=⟨⟨Tryz.t155,by kernel_rfl,rfl,rfl,fun z h=>by cases h;exact⟨_,rfl,rfl,fun S h=>wy _⟩⟩,Tryz.underlying155,by intro h;cases h⟩
def zjz:TI:=⟨.struct [(0,1),(1,1),(2,1),(3,1)],4,48,some (.agg [.atom (.int .i64 0),.atom (.int .i64 0),.osl 1 true [],.atom (.bool false)]),false⟩
theorem zes:Zo Tryz.prog 159 zjz:=⟨⟨Tryz.t159,by kernel_rfl,rfl,rfl,fun z h=>by cases h;exact⟨_,rfl,rfl,fun S h=>zI (ze (zf rfl) (ze (zf rfl) (ze (wy _) (ze (zf rfl) (zA)))))⟩⟩,⟨_,Tryz.underlying159,by kernel_rfl,by
  intro f hf
  simp only [List.mem_cons,List.not_mem_nil,or_false]at hf
  rcases hf with rfl|rfl|rfl|rfl
  ·exact⟨Tryz.t3,by kernel_rfl⟩
  ·exact⟨Tryz.t3,by kernel_rfl⟩
  ·exact⟨Tryz.t40,by kernel_rfl⟩
  ·exact⟨Tryz.t4,by kernel_rfl⟩⟩,by intro h;cases h⟩
def zjy:TI:=⟨.array 64 5,64,64,some (.agg (List.replicate 64 (.atom (.int .u8 0)))),false⟩
theorem zer:Zo Tryz.prog 162 zjy:=⟨⟨Tryz.t162,by kernel_rfl,rfl,rfl,fun z h=>by cases h;exact⟨_,rfl,by kernel_rfl,fun S h=>zit (zI (Kq (zf rfl) 64)) (by kernel_rfl)⟩⟩,Tryz.underlying162,by intro h;cases h⟩
def zjx:TI:=⟨.other,1,8,some (.atom .nilFunc),false⟩
theorem zeq:Zo Tryz.prog 166 zjx:=⟨⟨Tryz.t166,by kernel_rfl,rfl,rfl,fun z h=>by cases h;exact⟨_,rfl,rfl,fun S h=>zf rfl⟩⟩,⟨_,Tryz.underlying166,rfl⟩,by intro h;cases h⟩
def zjw:TI:=⟨.other,1,8,some (.atom .nilFunc),false⟩
theorem zep:Zo Tryz.prog 168 zjw:=⟨⟨Tryz.t168,by kernel_rfl,rfl,rfl,fun z h=>by cases h;exact⟨_,rfl,rfl,fun S h=>zf rfl⟩⟩,⟨_,Tryz.underlying168,rfl⟩,by intro h;cases h⟩
def zjv:TI:=⟨.other,1,8,some (.atom .nilFunc),false⟩
theorem zeo:Zo Tryz.prog 169 zjv:=⟨⟨Tryz.t169,by kernel_rfl,rfl,rfl,fun z h=>by cases h;exact⟨_,rfl,rfl,fun S h=>zf rfl⟩⟩,⟨_,Tryz.underlying169,rfl⟩,by intro h;cases h⟩
def zju:TI:=⟨.array 2 3,2,16,some (.agg [.atom (.int .i64 0),.atom (.int .i64 0)]),true⟩
theorem zen:Zo Tryz.prog 171 zju:=⟨⟨Tryz.t171,by kernel_rfl,rfl,rfl,fun z h=>by cases h;exact⟨_,rfl,rfl,fun S h=>zI (ze (zf rfl) (ze (zf rfl) (zA)))⟩⟩,Tryz.underlying171,fun _=>z5z (Go.Ex.zij.eqn rfl) rfl rfl rfl rfl⟩
def zjt:TI:=⟨.other,1,8,some (.atom .nilFunc),false⟩
theorem zem:Zo Tryz.prog 174 zjt:=⟨⟨Tryz.t174,by kernel_rfl,rfl,rfl,fun z h=>by cases h;exact⟨_,rfl,rfl,fun S h=>zf rfl⟩⟩,⟨_,Tryz.underlying174,rfl⟩,by intro h;cases h⟩
def zjs:TI:=⟨.other,1,8,some (.atom .nilFunc),false⟩
theorem zel:Zo Tryz.prog 187 zjs:=⟨⟨Tryz.t187,by kernel_rfl,rfl,rfl,fun z h=>by cases h;exact⟨_,rfl,rfl,fun S h=>zf rfl⟩⟩,⟨_,Tryz.underlying187,rfl⟩,by intro h;cases h⟩
def zjr:TI:=⟨.other,1,8,some (.atom (.map none)),false⟩
theorem zek:Zo Tryz.prog 188 zjr:=⟨⟨Tryz.t188,by kernel_rfl,rfl,rfl,fun z h=>by cases h;exact⟨_,rfl,rfl,fun S h=>zf rfl⟩⟩,⟨_,Tryz.underlying188,rfl⟩,by intro h;cases h⟩
def zjq:TI:=⟨.array 16 171,32,256,some (.agg [.agg [.atom (.int .i64 0),.atom (.int .i64 0)],.agg [.atom (.int .i64 0),.atom (.int .i64 0)],.agg [.atom (.int .i64 0),.atom (.int .i64 0)],.agg [.atom (.int .i64 0),.atom (.int .i64 0)],.agg [.atom (.int .i64 0),.atom (.int .i64 0)],.agg [.atom (.int .i64 0),.atom (.int .i64 0)],.agg [.atom (.int .i64 0),.atom (.int .i64 0)],.agg [.atom (.int .i64 0),.atom (.int .i64 0)],.agg [.atom (.int .i64 0),.atom (.int .i64 0)],.agg [.atom (.int .i64 0),.atom (.int .i64 0)],.agg [.atom (.int .i64 0),.atom (.int .i64 0)],.agg [.atom (.int .i64 0),.atom (.int .i64 0)],.agg [.atom (.int .i64 0),.atom (.int .i64 0)],.agg [.atom (.int .i64 0),.atom (.int .i64 0)],.agg [.atom (.int .i64 0),.atom (.int .i64 0)],.agg [.atom (.int .i64 0),.atom (.int .i64 0)]]),true⟩
theorem zej:Zo Tryz.prog 190 zjq:=⟨⟨Tryz.t190,by kernel_rfl,rfl,rfl,fun z h=>by cases h;exact⟨_,rfl,rfl,fun S h=>zI (ze (zI (ze (zf rfl) (ze (zf rfl) (zA)))) (ze (zI (ze (zf rfl) (ze (zf rfl) (zA)))) (ze (zI (ze (zf rfl) (ze (zf rfl) (zA)))) (ze (zI (ze (zf rfl) (ze (zf rfl) (zA)))) (ze (zI (ze (zf rfl) (ze (zf rfl) (zA)))) (ze (zI (ze (zf rfl) (ze (zf rfl) (zA)))) (ze (zI (ze (zf rfl) (ze (zf rfl) (zA)))) (ze (zI (ze (zf rfl) (ze (zf rfl) (zA)))) (ze (zI (ze (zf rfl) (ze (zf rfl) (zA)))) (ze (zI (ze (zf rfl) (ze (zf rfl) (zA)))) (ze (zI (ze (zf rfl) (ze (zf rfl) (zA)))) (ze (zI (ze (zf rfl) (ze (zf rfl) (zA)))) (ze (zI (ze (zf rfl) (ze (zf rfl) (zA)))) (ze (zI (ze (zf rfl) (ze (zf rfl) (zA)))) (ze (zI (ze (zf rfl) (ze (zf rfl) (zA)))) (ze (zI (ze (zf rfl) (ze (zf rfl) (zA)))) (zA)))))))))))))))))⟩⟩,Tryz.underlying190,fun _=>z5z (Go.Ex.zii.eqn rfl) rfl rfl rfl rfl⟩
def zjp:TI:=⟨.struct [(0,1),(1,32)],33,264,some (.agg [.atom (.int .i64 0),.agg [.agg [.atom (.int .i64 0),.atom (.int .i64 0)],.agg [.atom (.int .i64 0),.atom (.int .i64 0)],.agg [.atom (.int .i64 0),.atom (.int .i64 0)],.agg [.atom (.int .i64 0),.atom (.int .i64 0)],.agg [.atom (.int .i64 0),.atom (.int .i64 0)],.agg [.atom (.int .i64 0),.atom (.int .i64 0)],.agg [.atom (.int .i64 0),.atom (.int .i64 0)],.agg [.atom (.int .i64 0),.atom (.int .i64 0)],.agg [.atom (.int .i64 0),.atom (.int .i64 0)],.agg [.atom (.int .i64 0),.atom (.int .i64 0)],.agg [.atom (.int .i64 0),.atom (.int .i64 0)],.agg [.atom (.int .i64 0),.atom (.int .i64 0)],.agg [.atom (.int .i64 0),.atom (.int .i64 0)],.agg [.atom (.int .i64 0),.atom (.int .i64 0)],.agg [.atom (.int .i64 0),.atom (.int .i64 0)],.agg [.atom (.int .i64 0),.atom (.int .i64 0)]]]),true⟩
theorem zau:Zo Tryz.prog 193 zjp:=⟨⟨Tryz.t193,by kernel_rfl,rfl,rfl,fun z h=>by cases h;exact⟨_,rfl,rfl,fun S h=>zI (ze (zf rfl) (ze (zI (ze (zI (ze (zf rfl) (ze (zf rfl) (zA)))) (ze (zI (ze (zf rfl) (ze (zf rfl) (zA)))) (ze (zI (ze (zf rfl) (ze (zf rfl) (zA)))) (ze (zI (ze (zf rfl) (ze (zf rfl) (zA)))) (ze (zI (ze (zf rfl) (ze (zf rfl) (zA)))) (ze (zI (ze (zf rfl) (ze (zf rfl) (zA)))) (ze (zI (ze (zf rfl) (ze (zf rfl) (zA)))) (ze (zI (ze (zf rfl) (ze (zf rfl) (zA)))) (ze (zI (ze (zf rfl) (ze (zf rfl) (zA)))) (ze (zI (ze (zf rfl) (ze (zf rfl) (zA)))) (ze (zI (ze (zf rfl) (ze (zf rfl) (zA)))) (ze (zI (ze (zf rfl) (ze (zf rfl) (zA)))) (ze (zI (ze (zf rfl) (ze (zf rfl) (zA)))) (ze (zI (ze (zf rfl) (ze (zf rfl) (zA)))) (ze (zI (ze (zf rfl) (ze (zf rfl) (zA)))) (ze (zI (ze (zf rfl) (ze (zf rfl) (zA)))) (zA)))))))))))))))))) (zA)))⟩⟩,⟨_,Tryz.underlying193,by kernel_rfl,by
  intro f hf
  simp only [List.mem_cons,List.not_mem_nil,or_false]at hf
  rcases hf with rfl|rfl
  ·exact⟨Tryz.t3,by kernel_rfl⟩
  ·exact⟨Tryz.t190,by kernel_rfl⟩⟩,fun _=>z5z (Go.Ex.zdl.eqn rfl) rfl rfl rfl rfl⟩
def tiL:List (Nat×TI):=[(1,ti1),(2,ti2),(3,ti3),(4,ti4),(5,ti5),(9,ti9),(20,zp4),(22,zp3),(23,zp2),(25,zp1),(27,zp0),(28,zoZ),(30,zoY),(32,zoX),(33,zoW),(40,zoV),(41,zoU),(42,zoT),(46,zoS),(48,zoR),(49,zoQ),(57,zoP),(67,zoO),(68,zoN),(73,zoM),(76,zoL),(78,zoK),(80,zoJ),(82,zoI),(83,zoH),(84,zoG),(93,zoF),(95,zoE),(96,zoD),(97,zoC),(99,zoB),(104,zjS),(106,zjR),(111,zjQ),(117,zjP),(120,zjO),(125,zjN),(126,zjM),(127,zjL),(131,zjK),(136,zjJ),(144,zjI),(146,zjH),(147,zjG),(148,zjF),(149,zjE),(150,zjD),(152,zjC),(154,zjB),(155,zjA),(159,zjz),(162,zjy),(166,zjx),(168,zjw),(169,zjv),(171,zju),(174,zjt),(187,zjs),(188,zjr),(190,zjq),(193,zjp)]
def yb:TT:=fun t=>(tiL.find? fun p=>p.1==t).map (·.2)
def ze7 (P:Program):List (Nat×TI)->Prop
 | []=>True
 | p::l=>Zo P p.1 p.2/\ze7 P l
theorem ze7.mem:∀{l:List (Nat×TI)},ze7 P l->∀p∈l,Zo P p.1 p.2
 | p::_,h,q,hq=>by
  rcases List.mem_cons.1 hq with rfl|hq
  ·exact h.1
  ·exact ze7.mem h.2 q hq
 | [],_,_,hq=>by cases hq
theorem zji:ze7 Tryz.prog tiL:=⟨zjo,zjn,zjm,zjl,zjk,zjj,zht,zhs,zhr,zhq,zhp,zho,zhn,zhm,zhl,zhk,zhj,zhi,zhh,zhg,zhf,zhe,zhd,zhc,zhb,zha,zh9,zh8,zh7,zh6,zh5,zh4,zh3,zh2,zh1,zh0,zeL,zeK,zeJ,zeI,zeH,zeG,zeF,zeE,zeD,zeC,zeB,zeA,zez,zey,zex,zew,zev,zeu,zet,zes,zer,zeq,zep,zeo,zen,zem,zel,zek,zej,zau,trivial⟩
theorem zt:wH Tryz.prog yb:=by
 intro t i h
 unfold yb at h
 rw [Option.map_eq_some_iff]at h
 obtain⟨p,h1,rfl⟩:=h
 have h2:=List.find?_some h1
 have h3:=zji.mem p (List.mem_of_find?_eq_some h1)
 rw [beq_iff_eq.1 h2]at h3
 exact h3
theorem zqF:yb 1=some ⟨.other,1,8,some (.atom .nilFunc),false⟩:=rfl
theorem zqE:yb 2=some ⟨.int .i64,1,8,some (.atom (.int .i64 0)),false⟩:=rfl
theorem zqD:yb 3=some ⟨.int .i64,1,8,some (.atom (.int .i64 0)),false⟩:=rfl
theorem zqC:yb 4=some ⟨.bool,1,1,some (.atom (.bool false)),false⟩:=rfl
theorem zqB:yb 5=some ⟨.int .u8,1,1,some (.atom (.int .u8 0)),false⟩:=rfl
theorem zqA:yb 9=some ⟨.str,1,16,none,false⟩:=rfl
theorem zol:yb 20=some ⟨.other,1,16,some (.atom .nilIface),false⟩:=rfl
theorem zok:yb 22=some ⟨.slice 5,1,24,some (.osl 1 true []),false⟩:=rfl
theorem zoj:yb 23=some ⟨.slice 117,1,24,some (.osl 1 true []),false⟩:=rfl
theorem zoi:yb 25=some ⟨.struct [(0,1),(1,1),(2,1),(3,1),(4,1)],5,56,some (.agg [.atom (.int .u8 0),.atom (.int .u8 0),.atom (.int .u8 0),.osl 1 true [],.osl 1 true []]),false⟩:=rfl
theorem zoh:yb 27=some ⟨.struct [(0,5)],5,56,some (.agg [.agg [.atom (.int .u8 0),.atom (.int .u8 0),.atom (.int .u8 0),.osl 1 true [],.osl 1 true []]]),false⟩:=rfl
theorem zog:yb 28=some ⟨.slice 68,1,24,some (.osl 1 true []),false⟩:=rfl
theorem zof:yb 30=some ⟨.struct [(0,1),(1,1),(2,1)],3,40,some (.agg [.atom (.int .i64 0),.atom (.int .i64 0),.osl 1 true []]),false⟩:=rfl
theorem zoe:yb 32=some ⟨.slice 40,1,24,some (.osl 1 true []),false⟩:=rfl
theorem zod:yb 33=some ⟨.int .i64,1,8,some (.atom (.int .i64 0)),false⟩:=rfl
theorem zoc:yb 40=some ⟨.slice 3,1,24,some (.osl 1 true []),false⟩:=rfl
theorem zob:yb 41=some ⟨.other,1,8,some (.atom .nilFunc),false⟩:=rfl
theorem zoa:yb 42=some ⟨.other,1,8,some (.atom .nilFunc),false⟩:=rfl
theorem zo9:yb 46=some ⟨.slice 22,1,24,some (.osl 1 true []),false⟩:=rfl
theorem zo8:yb 48=some ⟨.struct [(0,1),(1,1)],2,32,some (.agg [.atom (.int .u8 0),.osl 1 true []]),false⟩:=rfl
theorem zo7:yb 49=some ⟨.array 3 5,3,3,some (.agg [.atom (.int .u8 0),.atom (.int .u8 0),.atom (.int .u8 0)]),true⟩:=rfl
theorem zo6:yb 57=some ⟨.other,1,8,some (.atom .nilFunc),false⟩:=rfl
theorem zo5:yb 67=some ⟨.struct [(0,1),(1,1)],2,16,some (.agg [.atom (.int .i64 0),.atom (.int .i64 0)]),true⟩:=rfl
theorem zo4:yb 68=some ⟨.slice 67,1,24,some (.osl 2 true []),false⟩:=rfl
theorem zo3:yb 73=some ⟨.other,1,8,some (.atom .nilFunc),false⟩:=rfl
theorem zo2:yb 76=some ⟨.slice 78,1,24,some (.osl 1 true []),false⟩:=rfl
theorem zo1:yb 78=some ⟨.int .u64,1,8,some (.atom (.int .u64 0)),false⟩:=rfl
theorem zo0:yb 80=some ⟨.other,1,8,some (.atom .nilFunc),false⟩:=rfl
theorem znZ:yb 82=some ⟨.slice 32,1,24,some (.osl 1 true []),false⟩:=rfl
theorem znY:yb 83=some ⟨.other,1,8,some (.atom .nilFunc),false⟩:=rfl
theorem znX:yb 84=some ⟨.other,1,8,some (.atom .nilFunc),false⟩:=rfl
theorem znW:yb 93=some ⟨.other,1,8,some (.atom .nilFunc),false⟩:=rfl
theorem znV:yb 95=some ⟨.struct [(0,1),(1,1)],2,16,some (.agg [.atom (.int .i64 0),.atom .nilFunc]),false⟩:=rfl
theorem znU:yb 96=some ⟨.array 3 95,6,48,some (.agg [.agg [.atom (.int .i64 0),.atom .nilFunc],.agg [.atom (.int .i64 0),.atom .nilFunc],.agg [.atom (.int .i64 0),.atom .nilFunc]]),false⟩:=rfl
theorem znT:yb 97=some ⟨.other,1,8,some (.atom .nilFunc),false⟩:=rfl
theorem znS:yb 99=some ⟨.other,1,8,some (.atom .nilFunc),false⟩:=rfl
theorem zlk:yb 104=some ⟨.int .u32,1,4,some (.atom (.int .u32 0)),false⟩:=rfl
theorem zlj:yb 106=some ⟨.int .u64,1,8,some (.atom (.int .u64 0)),false⟩:=rfl
theorem zli:yb 111=some ⟨.slice 4,1,24,some (.osl 1 true []),false⟩:=rfl
theorem zlh:yb 117=some ⟨.int .u16,1,2,some (.atom (.int .u16 0)),false⟩:=rfl
theorem zlg:yb 120=some ⟨.other,1,8,some (.atom .nilFunc),false⟩:=rfl
theorem zlf:yb 125=some ⟨.array 64 40,64,1536,some (.agg (List.replicate 64 (.dop (nlQ 1 [])))),false⟩:=rfl
theorem zle:yb 126=some ⟨.ptr 154,1,8,some (.atom (.pointer none)),false⟩:=rfl
theorem zld:yb 127=some ⟨.other,1,8,some (.atom .nilFunc),false⟩:=rfl
theorem zlc:yb 131=some ⟨.other,1,8,some (.atom .nilFunc),false⟩:=rfl
theorem zlb:yb 136=some ⟨.slice 111,1,24,some (.osl 1 true []),false⟩:=rfl
theorem zla:yb 144=some ⟨.slice 171,1,24,some (.osl 2 true []),false⟩:=rfl
theorem zl9:yb 146=some ⟨.other,1,8,some (.atom .nilFunc),false⟩:=rfl
theorem zl8:yb 147=some ⟨.other,1,8,some (.atom .nilFunc),false⟩:=rfl
theorem zl7:yb 148=some ⟨.other,1,8,some (.atom .nilFunc),false⟩:=rfl
theorem zl6:yb 149=some ⟨.other,1,8,some (.atom .nilFunc),false⟩:=rfl
theorem zl5:yb 150=some ⟨.other,1,8,some (.atom .nilFunc),false⟩:=rfl
theorem zl4:yb 152=some ⟨.other,1,8,some (.atom .nilFunc),false⟩:=rfl
theorem zl3:yb 154=some ⟨.array 64 125,4096,98304,some (.agg (List.replicate 64 (.agg (List.replicate 64 (.dop (nlQ 1 [])))))),false⟩:=rfl
theorem zl2:yb 155=some ⟨.slice 159,1,24,some (.osl 4 true []),false⟩:=rfl
theorem zl1:yb 159=some ⟨.struct [(0,1),(1,1),(2,1),(3,1)],4,48,some (.agg [.atom (.int .i64 0),.atom (.int .i64 0),.osl 1 true [],.atom (.bool false)]),false⟩:=rfl
theorem zl0:yb 162=some ⟨.array 64 5,64,64,some (.agg (List.replicate 64 (.atom (.int .u8 0)))),false⟩:=rfl
theorem zkZ:yb 166=some ⟨.other,1,8,some (.atom .nilFunc),false⟩:=rfl
theorem zkY:yb 168=some ⟨.other,1,8,some (.atom .nilFunc),false⟩:=rfl
theorem zkX:yb 169=some ⟨.other,1,8,some (.atom .nilFunc),false⟩:=rfl
theorem zkW:yb 171=some ⟨.array 2 3,2,16,some (.agg [.atom (.int .i64 0),.atom (.int .i64 0)]),true⟩:=rfl
theorem zkV:yb 174=some ⟨.other,1,8,some (.atom .nilFunc),false⟩:=rfl
theorem zkU:yb 187=some ⟨.other,1,8,some (.atom .nilFunc),false⟩:=rfl
theorem zkT:yb 188=some ⟨.other,1,8,some (.atom (.map none)),false⟩:=rfl
theorem zkS:yb 190=some ⟨.array 16 171,32,256,some (.agg [.agg [.atom (.int .i64 0),.atom (.int .i64 0)],.agg [.atom (.int .i64 0),.atom (.int .i64 0)],.agg [.atom (.int .i64 0),.atom (.int .i64 0)],.agg [.atom (.int .i64 0),.atom (.int .i64 0)],.agg [.atom (.int .i64 0),.atom (.int .i64 0)],.agg [.atom (.int .i64 0),.atom (.int .i64 0)],.agg [.atom (.int .i64 0),.atom (.int .i64 0)],.agg [.atom (.int .i64 0),.atom (.int .i64 0)],.agg [.atom (.int .i64 0),.atom (.int .i64 0)],.agg [.atom (.int .i64 0),.atom (.int .i64 0)],.agg [.atom (.int .i64 0),.atom (.int .i64 0)],.agg [.atom (.int .i64 0),.atom (.int .i64 0)],.agg [.atom (.int .i64 0),.atom (.int .i64 0)],.agg [.atom (.int .i64 0),.atom (.int .i64 0)],.agg [.atom (.int .i64 0),.atom (.int .i64 0)],.agg [.atom (.int .i64 0),.atom (.int .i64 0)]]),true⟩:=rfl
theorem zkR:yb 193=some ⟨.struct [(0,1),(1,32)],33,264,some (.agg [.atom (.int .i64 0),.agg [.agg [.atom (.int .i64 0),.atom (.int .i64 0)],.agg [.atom (.int .i64 0),.atom (.int .i64 0)],.agg [.atom (.int .i64 0),.atom (.int .i64 0)],.agg [.atom (.int .i64 0),.atom (.int .i64 0)],.agg [.atom (.int .i64 0),.atom (.int .i64 0)],.agg [.atom (.int .i64 0),.atom (.int .i64 0)],.agg [.atom (.int .i64 0),.atom (.int .i64 0)],.agg [.atom (.int .i64 0),.atom (.int .i64 0)],.agg [.atom (.int .i64 0),.atom (.int .i64 0)],.agg [.atom (.int .i64 0),.atom (.int .i64 0)],.agg [.atom (.int .i64 0),.atom (.int .i64 0)],.agg [.atom (.int .i64 0),.atom (.int .i64 0)],.agg [.atom (.int .i64 0),.atom (.int .i64 0)],.agg [.atom (.int .i64 0),.atom (.int .i64 0)],.agg [.atom (.int .i64 0),.atom (.int .i64 0)],.agg [.atom (.int .i64 0),.atom (.int .i64 0)]]]),true⟩:=rfl
attribute [go_sem] zqF zqE zqD zqC zqB zqA zol zok zoj zoi zoh zog zof zoe zod zoc zob zoa zo9 zo8 zo7 zo6 zo5 zo4 zo3 zo2 zo1 zo0 znZ znY znX znW znV znU znT znS zlk zlj zli zlh zlg zlf zle zld zlc zlb zla zl9 zl8 zl7 zl6 zl5 zl4 zl3 zl2 zl1 zl0 zkZ zkY zkX zkW zkV zkU zkT zkS zkR
end Go.Own

namespace Go.Proofs
open Go.RowKit Go.Lib
theorem Tryz.groI:(Tryz.prog.info? 3).map (fun i=>(i.size,i.bytes,i.zero))=some (1,8,some (.int .i64 0)):=by kernel_rfl
set_option maxHeartbeats 4000000 in
set_option maxRecDepth 100000 in
theorem Tryz.gro_run (p:Option Addr)(n:Nat)(w:World)(h0:0<n)(h1:n<=1000000) :
  Calls Tryz.prog 168 #[.slice p 0 0,.int .i64 n] w fun e w'=>
   e=.returned (.slice (some ⟨w.heap.size,0,none⟩) 0 (grownCap w n 0 3)) /\
   w'=w.drew.alloc (.cells (#[]++Builtin.zeroCells (Value.int .i64 0).cells n++Builtin.zeroCells (Value.int .i64 0).cells (grownCap w n 0 3 - n)) 3):=by
 obtain⟨i0,hi0,hi⟩:=Option.map_eq_some_iff.1 Tryz.groI
 obtain⟨hs0,hi⟩:=Prod.mk.inj hi
 obtain⟨hb0,hz0⟩:=Prod.mk.inj hi
 have mixed:Tryz.prog.follows .mixedOrders=true:=by kernel_rfl
 have h1':¬((n:Int)<0):=by omega
 have h3:wrap64 ((n:Int))=(n:Int):=by unfold wrap64;omega
 have h4:(n:Int) > 0:=by omega
 have hold:(Builtin.firstCells i0.size 0 (.slice p 0 0)).run Tryz.prog w.drew=.ok ([]:List Value).toArray w.drew:=by
  cases p with
  | none=>exact run_firstCells_none w.drew i0.size 0 0 0
  | some a=>exact run_firstCells_some w.drew i0.size 0 a 0 0 [] (by simp) (fun j v hj=>by simp at hj)
 have hrz:∀ty,(Builtin.append_ #[40,3] ty #[.slice p 0 0,.int .i64 (n:Int)]).run Tryz.prog w =
   .ok (.slice (some ⟨w.heap.size,0,none⟩) n (grownCap w n 0 3)) (w.drew.alloc (.cells (#[]++Builtin.zeroCells (Value.int .i64 0).cells n++Builtin.zeroCells (Value.int .i64 0).cells (grownCap w n 0 3 - n)) 3)):=fun ty=>by
  have h:=Lib.run_append_grow_zeros w 40 3 ty 3 i0 (.int .i64 0) .i64 .i64 Tryz.underlying40 Tryz.underlying3 hi0 hz0 p 0 0 [] hold n h0 (by omega) (by omega) (by omega)
   (by rw [hb0];omega)
   (by rw [Nat.zero_add];exact growslice_fits h0 (by rw [hb0];omega))
  rw [Nat.zero_add]at h
  exact h
 have hGn:n<=grownCap w n 0 3:=grownCap_ge w _ _ _
 obtain⟨G,hG⟩:∃G,G=grownCap w n 0 3:=⟨_,rfl⟩
 rw [<-hG]at hrz hGn ⊢
 have hG63:G<=9223372036854775807:=by
  have:=grownCap_le_maxLen w n 0 3 (by unfold maxLen;omega)
  rw [<-hG]at this
  unfold maxLen at this
  omega
 clear hold hG
 go_enter Tryz.func168,Tryz.ntmps168
 cases p with
 | none=>
  go_wp2_with (at_builtin;refine Lib.wpList_append_run _ rfl _ _ _ _ rfl _ _ rfl rfl _ _ (hrz _) ?_)
  all_goals (go_ret;exact⟨rfl,rfl⟩)
 | some a=>
  obtain⟨ab,ao,asp⟩:=a
  go_wp2_with (at_builtin;refine Lib.wpList_append_run _ rfl _ _ _ _ rfl _ _ rfl rfl _ _ (hrz _) ?_)
  all_goals (go_ret;exact⟨rfl,rfl⟩)
end Go.Proofs
namespace Go.Own
open Go.Proofs
theorem zdp (n:Int)(h0:0<n)(h1:n<=1000000):UV Tryz.prog 168 [.sl 1 true [],eI .i64 n] (.osl 1 false []):=by
 refine⟨⟨_,Tryz.func168,by kernel_rfl,by kernel_rfl⟩,?_⟩
 intro S w vs F hS hq hF
 obtain⟨m,rfl⟩:∃m:Nat,n=(m:Int):=⟨n.toNat,by omega⟩
 match vs,hq with
 | [u,v],q=>
  obtain⟨F1,F2,rfl,q1,F3,F4,rfl,q2,q3⟩:=q
  have e3:F4=[]:=q3
  subst e3
  have d:∀{x:A} {u:Value} {F:List Nat},x.isD=true->Has S w.heap x u F->vA S x u/\F=[]:=by
   intro x u F hx q
   rcases q with⟨q,rfl⟩|⟨cs,q1,q2,q3⟩
   ·exact⟨q.rep1 hx,rfl⟩
   ·obtain⟨r,rfl⟩:=q1.isD hx
    exact⟨⟨cs,r,q3⟩,rfl⟩
  obtain⟨⟨cs,r1,e1⟩,rfl⟩:=d rfl q1
  obtain⟨⟨ds,r2,e2⟩,rfl⟩:=d rfl q2
  simp only [Rep]at r1
  obtain⟨p,c,rfl,hc,_⟩:=r1
  obtain rfl:c=0:=by simpa using hc
  have hv:v=.int .i64 (m:Int):=by
   rw [e2]
   obtain⟨rfl,_⟩:ds=[.int .i64 (m:Int)]/\_:=by simpa only [eI,Rep] using r2
   rfl
  have hu:u=.slice p 0 0:=by rw [e1];rfl
  subst hv hu
  refine(Tryz.gro_run p m w (by omega) (by omega)).mono ?_
  rintro e' w' ⟨rfl,rfl⟩
  have hsz:∀k,(Builtin.zeroCells (Value.int .i64 0).cells k).size=k:=fun k=>by simp [Builtin.zeroCells,Value.cells]
  have hGn:m<=grownCap w m 0 3:=grownCap_ge w _ _ _
  have hGm:=grownCap_le_maxLen w m 0 3 (by unfold maxLen;omega)
  have hfr:∀o,S w.heap.size o=none:=fun o=>by
   cases hh:S w.heap.size o with
   | none=>rfl
   | some x=>have:=hS _ _ _ hh;simp [y8]at this
  generalize grownCap w m 0 3=G at hGn hGm ⊢
  refine⟨_,S,[w.heap.size],rfl,((Uo.refl _ _).drew).alloc (.inl (Nat.le_refl _)) _,fun _ _ _ h=>h,fun _ _ _ _=>rfl,⟨fun b o v h=>?_,hS.gok⟩,.inr ⟨[.slice (some ⟨w.heap.size,0,none⟩) 0 G],?_,by simp,rfl⟩,by simp,by simp⟩
  ·have h':=hS _ _ _ h
   have hne:b≠w.heap.size:=by rintro rfl;rw [hfr]at h;cases h
   show y8 (w.heap.push _) b o=some v
   unfold y8 at h' ⊢
   rw [Array.getElem?_push,if_neg hne]
   exact h'
  ·simp only [zG]
   refine⟨_,G,rfl,by simp,by simp,hGm,by simp,.inr ⟨w.heap.size,_,3,[],[],rfl,by show(w.heap.push _)[w.heap.size]?=_;rw [Array.getElem?_push,if_pos rfl],?_,by simp,⟨rfl,rfl⟩,rfl,hfr⟩⟩
   simp only [Array.size_append,hsz,Array.size_empty]
   omega
structure wq (α:Type) where
 e0:α
 e1:α
 deriving DecidableEq
instance {α:Type}[BEq α]:BEq (wq α):=⟨fun x y=>(x.e0==y.e0)&&(x.e1==y.e1)⟩
section
variable {α:Type}
def z1O (f:α->A)(x:wq α):A:=.agg [f x.e0,f x.e1]
instance (f:α->A)[h:z9w f]:z9w (z1O f):=⟨fun x=>by simp [z1O,A.isD,A.areD,h.isD]⟩
instance (f g:α->A)[h:z0t f g]:z0t (z1O f) (z1O g):=⟨fun x=>by simp [z1O,A.loose,A.looses,h.lo]⟩
instance (f g:α->A)[h:z00 f g]:z00 (z1O f) (z1O g):=⟨fun x=>by simp [z1O,A.live,A.lives,h.live],fun x=>by simp [z1O,A.shut,A.shuts,h.sh]⟩
instance (f:α->A)[h:Zw f]:Zw (z1O f):=⟨fun x y q=>by
 simp only [z1O,A.agg.injEq,List.cons.injEq,and_true]at q
 cases x;cases y
 simp only [wq.mk.injEq]
 exact⟨h.inj _ _ q.1,h.inj _ _ q.2⟩⟩
end
structure zj2 (α:Type) where
 e0:α
 e1:α
 e2:α
 deriving DecidableEq
section
variable {α:Type}
def zbP (f:α->A)(x:zj2 α):A:=.agg [f x.e0,f x.e1,f x.e2]
instance (f:α->A)[h:Zw f]:Zw (zbP f):=⟨fun x y q=>by
 simp only [zbP,A.agg.injEq,List.cons.injEq,and_true]at q
 cases x;cases y
 simp only [zj2.mk.injEq]
 exact⟨h.inj _ _ q.1,h.inj _ _ q.2.1,h.inj _ _ q.2.2⟩⟩
end
structure yQ (α:Type) where
 e0:α
 e1:α
 e2:α
 e3:α
 e4:α
 e5:α
 e6:α
 e7:α
 e8:α
 e9:α
 e10:α
 e11:α
 e12:α
 e13:α
 e14:α
 e15:α
 deriving DecidableEq
instance {α:Type}[BEq α]:BEq (yQ α):=⟨fun x y=>(x.e0==y.e0)&&(x.e1==y.e1)&&(x.e2==y.e2)&&(x.e3==y.e3)&&(x.e4==y.e4)&&(x.e5==y.e5)&&(x.e6==y.e6)&&(x.e7==y.e7)&&(x.e8==y.e8)&&(x.e9==y.e9)&&(x.e10==y.e10)&&(x.e11==y.e11)&&(x.e12==y.e12)&&(x.e13==y.e13)&&(x.e14==y.e14)&&(x.e15==y.e15)⟩
section
variable {α:Type}
def zdC (f:α->A)(x:yQ α):A:=.agg [f x.e0,f x.e1,f x.e2,f x.e3,f x.e4,f x.e5,f x.e6,f x.e7,f x.e8,f x.e9,f x.e10,f x.e11,f x.e12,f x.e13,f x.e14,f x.e15]
end
section
variable {α:Type}
def yQ.toL (x:yQ α):List α:=[x.e0,x.e1,x.e2,x.e3,x.e4,x.e5,x.e6,x.e7,x.e8,x.e9,x.e10,x.e11,x.e12,x.e13,x.e14,x.e15]
def yQ.ofL:List α->yQ α->yQ α
 | [x0,x1,x2,x3,x4,x5,x6,x7,x8,x9,co,ew,x12,cw,cg,x15],_=>⟨x0,x1,x2,x3,x4,x5,x6,x7,x8,x9,co,ew,x12,cw,cg,x15⟩
 | _,d=>d
theorem yQ.toL_ofL (l:List α)(d:yQ α)(h:l.length=16):(yQ.ofL l d).toL=l:=by
 match l,h with
 | [x0,x1,x2,x3,x4,x5,x6,x7,x8,x9,co,ew,x12,cw,cg,x15],_=>rfl
def yQ.setI (x:yQ α)(i:Int)(v:α):yQ α:=yQ.ofL (x.toL.set i.toNat v) x
theorem yQ.setL (f:α->A)(x:yQ α)(i:Int)(v:α):(x.toL.map f).set i.toNat (f v)=((yQ.setI x i v).toL).map f:=by
 unfold yQ.setI
 rw [yQ.toL_ofL _ _ (by simp [yQ.toL]),List.map_set]
end
structure zC where
 States:Int
 Inputs:Int
 Outputs:Int
 Tree:List Int
 Edges:List Int
def ZI (f0:Int->A)(f1:Int->A)(f2:Int->A)(f3:List Int->A)(f4:List Int->A)(x:zC):A:=.agg [f0 x.States,f1 x.Inputs,f2 x.Outputs,f3 x.Tree,f4 x.Edges]
instance (f0:Int->A)(f1:Int->A)(f2:Int->A)(f3:List Int->A)(f4:List Int->A)(g0:Int->A)(g1:Int->A)(g2:Int->A)(g3:List Int->A)(g4:List Int->A)[h0:z0t f0 g0][h1:z0t f1 g1][h2:z0t f2 g2][h3:z0t f3 g3][h4:z0t f4 g4]:z0t (ZI f0 f1 f2 f3 f4) (ZI g0 g1 g2 g3 g4):=⟨fun x=>by simp [ZI,A.loose,A.looses,h0.lo,h1.lo,h2.lo,h3.lo,h4.lo]⟩
instance (f0:Int->A)(f1:Int->A)(f2:Int->A)(f3:List Int->A)(f4:List Int->A)[h0:Zw f0][h1:Zw f1][h2:Zw f2][h3:Zw f3][h4:Zw f4]:Zw (ZI f0 f1 f2 f3 f4):=⟨fun x y h=>by
 simp only [ZI,A.agg.injEq,List.cons.injEq,and_true]at h
 cases x;cases y
 simp only [zC.mk.injEq]
 exact⟨h0.inj _ _ h.1,h1.inj _ _ h.2.1,h2.inj _ _ h.2.2.1,h3.inj _ _ h.2.2.2.1,h4.inj _ _ h.2.2.2.2⟩⟩
structure vT where
 C:zC
def ZH (f0:zC->A)(x:vT):A:=.agg [f0 x.C]
instance (f0:zC->A)(g0:zC->A)[h0:z0t f0 g0]:z0t (ZH f0) (ZH g0):=⟨fun x=>by simp [ZH,A.loose,A.looses,h0.lo]⟩
instance (f0:zC->A)[h0:Zw f0]:Zw (ZH f0):=⟨fun x y h=>by
 simp only [ZH,A.agg.injEq,List.cons.injEq,and_true]at h
 cases x;cases y
 simp only [vT.mk.injEq]
 exact h0.inj _ _ h⟩
structure yU where
 Inputs:Int
 Words:List (List Int)
def Wb (f0:Int->A)(f1:List (List Int)->A)(x:yU):A:=.agg [f0 x.Inputs,f1 x.Words]
instance (f0:Int->A)(f1:List (List Int)->A)(g0:Int->A)(g1:List (List Int)->A)[h0:z0t f0 g0][h1:z0t f1 g1]:z0t (Wb f0 f1) (Wb g0 g1):=⟨fun x=>by simp [Wb,A.loose,A.looses,h0.lo,h1.lo]⟩
instance (f0:Int->A)(f1:List (List Int)->A)[h0:Zw f0][h1:Zw f1]:Zw (Wb f0 f1):=⟨fun x y h=>by
 simp only [Wb,A.agg.injEq,List.cons.injEq,and_true]at h
 cases x;cases y
 simp only [yU.mk.injEq]
 exact⟨h0.inj _ _ h.1,h1.inj _ _ h.2⟩⟩
structure z8 where
 To:Int
 Out:Int
def vE (f0:Int->A)(f1:Int->A)(x:z8):A:=.agg [f0 x.To,f1 x.Out]
instance (f0:Int->A)(f1:Int->A)[h0:z9w f0][h1:z9w f1]:z9w (vE f0 f1):=⟨fun x=>by simp [vE,A.isD,A.areD,h0.isD,h1.isD]⟩
instance (f0:Int->A)(f1:Int->A)(g0:Int->A)(g1:Int->A)[h0:z0t f0 g0][h1:z0t f1 g1]:z0t (vE f0 f1) (vE g0 g1):=⟨fun x=>by simp [vE,A.loose,A.looses,h0.lo,h1.lo]⟩
instance (f0:Int->A)(f1:Int->A)(g0:Int->A)(g1:Int->A)[h0:z00 f0 g0][h1:z00 f1 g1]:z00 (vE f0 f1) (vE g0 g1):=⟨fun x=>by simp [vE,A.live,A.lives,h0.live,h1.live],fun x=>by simp [vE,A.shut,A.shuts,h0.sh,h1.sh]⟩
instance (f0:Int->A)(f1:Int->A)[h0:Zw f0][h1:Zw f1]:Zw (vE f0 f1):=⟨fun x y h=>by
 simp only [vE,A.agg.injEq,List.cons.injEq,and_true]at h
 cases x;cases y
 simp only [z8.mk.injEq]
 exact⟨h0.inj _ _ h.1,h1.inj _ _ h.2⟩⟩
structure z6 where
 Inputs:Int
 Outputs:Int
 Rows:List (List z8)
def w8 (f0:Int->A)(f1:Int->A)(f2:List (List z8)->A)(x:z6):A:=.agg [f0 x.Inputs,f1 x.Outputs,f2 x.Rows]
instance (f0:Int->A)(f1:Int->A)(f2:List (List z8)->A)(g0:Int->A)(g1:Int->A)(g2:List (List z8)->A)[h0:z0t f0 g0][h1:z0t f1 g1][h2:z0t f2 g2]:z0t (w8 f0 f1 f2) (w8 g0 g1 g2):=⟨fun x=>by simp [w8,A.loose,A.looses,h0.lo,h1.lo,h2.lo]⟩
instance (f0:Int->A)(f1:Int->A)(f2:List (List z8)->A)[h0:Zw f0][h1:Zw f1][h2:Zw f2]:Zw (w8 f0 f1 f2):=⟨fun x y h=>by
 simp only [w8,A.agg.injEq,List.cons.injEq,and_true]at h
 cases x;cases y
 simp only [z6.mk.injEq]
 exact⟨h0.inj _ _ h.1,h1.inj _ _ h.2.1,h2.inj _ _ h.2.2⟩⟩
instance (f0:Int->A)(f1:Int->A)(f2:List (List z8)->A)(g0:Int->A)(g1:Int->A)(g2:List (List z8)->A)(x:z6)[∀y,LeA (f0 y) (g0 y)][∀y,LeA (f1 y) (g1 y)][∀y,LeA (f2 y) (g2 y)][∀y,SzA (f0 y) (g0 y)][∀y,SzA (f1 y) (g1 y)][∀y,SzA (f2 y) (g2 y)]:LeA (w8 f0 f1 f2 x) (w8 g0 g1 g2 x):=by unfold w8;infer_instance
structure zz where
 block_:Int
 signature_:yQ (wq Int)
instance:BEq zz:=⟨fun x y=>(x.block_==y.block_)&&(x.signature_==y.signature_)⟩
def Je (f0:Int->A)(f1:yQ (wq Int)->A)(x:zz):A:=.agg [f0 x.block_,f1 x.signature_]
structure zO where
 S:Int
 T:Int
 Word:List Int
 Apart:Bool
def zR (f0:Int->A)(f1:Int->A)(f2:List Int->A)(f3:Bool->A)(x:zO):A:=.agg [f0 x.S,f1 x.T,f2 x.Word,f3 x.Apart]
instance (f0:Int->A)(f1:Int->A)(f2:List Int->A)(f3:Bool->A)[h0:z9w f0][h1:z9w f1][h2:z9w f2][h3:z9w f3]:z9w (zR f0 f1 f2 f3):=⟨fun x=>by simp [zR,A.isD,A.areD,h0.isD,h1.isD,h2.isD,h3.isD]⟩
instance (f0:Int->A)(f1:Int->A)(f2:List Int->A)(f3:Bool->A)(g0:Int->A)(g1:Int->A)(g2:List Int->A)(g3:Bool->A)[h0:z00 f0 g0][h1:z00 f1 g1][h2:z00 f2 g2][h3:z00 f3 g3]:z00 (zR f0 f1 f2 f3) (zR g0 g1 g2 g3):=⟨fun x=>by simp [zR,A.live,A.lives,h0.live,h1.live,h2.live,h3.live],fun x=>by simp [zR,A.shut,A.shuts,h0.sh,h1.sh,h2.sh,h3.sh]⟩
instance:zpO (K:=zz) (Je (eI .i64) (zdC (z1O (eI .i64)))):=⟨fun x y=>by
 obtain⟨_,⟨⟨_,_⟩,⟨_,_⟩,⟨_,_⟩,⟨_,_⟩,⟨_,_⟩,⟨_,_⟩,⟨_,_⟩,⟨_,_⟩,⟨_,_⟩,⟨_,_⟩,⟨_,_⟩,⟨_,_⟩,⟨_,_⟩,⟨_,_⟩,⟨_,_⟩,⟨_,_⟩⟩⟩:=x
 obtain⟨_,⟨⟨_,_⟩,⟨_,_⟩,⟨_,_⟩,⟨_,_⟩,⟨_,_⟩,⟨_,_⟩,⟨_,_⟩,⟨_,_⟩,⟨_,_⟩,⟨_,_⟩,⟨_,_⟩,⟨_,_⟩,⟨_,_⟩,⟨_,_⟩,⟨_,_⟩,⟨_,_⟩⟩⟩:=y
 simp only [zdC,z1O,Je,eI,z4y,z7O,z7O.keyLs,zV,BEq.beq,Option.map_some,Option.some.injEq,Value.agg.injEq,List.cons_append,List.nil_append,List.append_nil,Array.mk.injEq,List.cons.injEq,Value.int.injEq,true_and,and_true,Bool.and_eq_true,decide_eq_true_eq,and_assoc]⟩
def ziq:ArN 64 Int:=⟨znL,rfl⟩
def Yj (l_:List Int)(k_:Int):Option Int :=
 bif decide (k_<((l_.length:Nat):Int)) then(
  (idx l_ k_).bind fun bk=>
  some (w64 (bk)))
 else(
  some 0)
def WW (x_:zC)(gx:List (List z8)):Option z6 :=
 some (z6.mk (w64 (1+(w64 (Int.tmod x_.Inputs 3)))) (w64 (1+(w64 (Int.tmod x_.Outputs 3)))) gx)
def WV (s_:Int)(gy:List (List z8)):Option (LR (List (List z8)×Int) (List (List z8))) :=
 some (.next (gy,w64 (s_+1)))
def YX (i_:Int)(gz:List (List z8)):Option (LR (List (List z8)×Int) (List (List z8))) :=
 some (.next (gz,w64 (i_+1)))
def Ze (x_:zC)(s_:Int)(cn:List (List z8))(i_:Int):Option (LR (List (List z8)×Int) (List (List z8))) :=
 bif decide (i_<(w64 (1+(w64 (Int.tmod x_.Inputs 3))))) then(
  (idx cn s_).bind fun ki=>
  (idx ki i_).bind fun jo=>
  bif decide (jo.To<0) then(
   (idx cn s_).bind fun fk=>
   (Yj x_.Edges (w64 ((w64 (s_*(w64 (1+(w64 (Int.tmod x_.Inputs 3))))))+i_))).bind fun r_=>
   gd (((w64 (1+(w64 (Int.tmod x_.States 6)))):Int)≠0) <|
   (idx fk i_).bind fun fe=>
   YX i_ (cn.set s_.toNat (fk.set i_.toNat (z8.mk (Int.tmod r_ (w64 (1+(w64 (Int.tmod x_.States 6))))) fe.Out))))
  else(
   YX i_ cn))
 else(
  some (.done cn))
def Zf (x_:zC)(ez:List (List z8))(s_:Int):Option (LR (List (List z8)×Int) (List (List z8))) :=
 bif decide (s_<(w64 (1+(w64 (Int.tmod x_.States 6))))) then(
  (loop (fun s=>Ze x_ s_ s.1 s.2) (ez,0)).bind fun t6=>
  WV s_ t6)
 else(
  some (.done ez))
def WX (x_:zC)(gg:List (List z8)):Option z6 :=
 (loop (fun s=>Zf x_ s.1 s.2) (gg,0)).bind fun t4=>
 WW x_ t4
def WU (a6:Int)(ia:List (List z8)):Option (LR (List (List z8)×Int) (List (List z8))) :=
 some (.next (ia,w64 (a6+1)))
def u9 (x_:zC)(az:List (List z8))(a6:Int)(k_:Int):Option (LR (List (List z8)×Int) (List (List z8))) :=
 gd (((w64 (1+(w64 (Int.tmod x_.Inputs 3)))):Int)≠0) <|
 (idx az (w64 (Int.tdiv k_ (w64 (1+(w64 (Int.tmod x_.Inputs 3))))))).bind fun fl=>
 gd (((w64 (1+(w64 (Int.tmod x_.Inputs 3)))):Int)≠0) <|
 (idx fl (Int.tmod k_ (w64 (1+(w64 (Int.tmod x_.Inputs 3)))))).bind fun ff=>
 WU a6 (az.set (w64 (Int.tdiv k_ (w64 (1+(w64 (Int.tmod x_.Inputs 3)))))).toNat (fl.set (Int.tmod k_ (w64 (1+(w64 (Int.tmod x_.Inputs 3))))).toNat (z8.mk a6 ff.Out)))
def XW (x_:zC)(az:List (List z8))(a6:Int)(free:List Int):Option (LR (List (List z8)×Int) (List (List z8))) :=
 (idx free 0).bind fun i5=>
 bif decide ((w64 (a6 - 1))<((x_.Tree.length:Nat):Int)) then(
  (idx x_.Tree (w64 (a6 - 1))).bind fun kr=>
  gd ((((free.length:Nat):Int):Int)≠0) <|
  (idx free (Int.tmod (w64 (kr)) ((free.length:Nat):Int))).bind fun jn=>
  u9 x_ az a6 jn)
 else(
  u9 x_ az a6 i5)
def ZG (a9:Int)(i6:List Int):Option (LR (List Int×Int) (List Int)) :=
 some (.next (i6,w64 (a9+1)))
def qR (x_:zC)(az:List (List z8))(a6:Int)(d9:List Int)(a9:Int):Option (LR (List Int×Int) (List Int)) :=
 bif decide (a9<(w64 (a6*(w64 (1+(w64 (Int.tmod x_.Inputs 3))))))) then(
  gd (((w64 (1+(w64 (Int.tmod x_.Inputs 3)))):Int)≠0) <|
  (idx az (w64 (Int.tdiv a9 (w64 (1+(w64 (Int.tmod x_.Inputs 3))))))).bind fun j6=>
  gd (((w64 (1+(w64 (Int.tmod x_.Inputs 3)))):Int)≠0) <|
  (idx j6 (Int.tmod a9 (w64 (1+(w64 (Int.tmod x_.Inputs 3)))))).bind fun i7=>
  bif decide (i7.To<0) then(
   gd (d9.length+([a9]:List Int).length<=4294967296) <|
   ZG a9 (d9++([a9]:List Int)))
  else(
   ZG a9 d9))
 else(
  some (.done d9))
def Zd (x_:zC)(az:List (List z8))(a6:Int):Option (LR (List (List z8)×Int) (List (List z8))) :=
 bif decide (a6<(w64 (1+(w64 (Int.tmod x_.States 6))))) then(
  (loop (fun s=>qR x_ az a6 s.1 s.2) (([]:List Int),0)).bind fun t12=>
  XW x_ az a6 t12)
 else(
  some (.done az))
def WY (x_:zC)(ib:List (List z8)):Option z6 :=
 (loop (fun s=>Zd x_ s.1 s.2) (ib,1)).bind fun t8=>
 WX x_ t8
def XV (bh:Int)(gi:List (List z8)):Option (LR (List (List z8)×Int) (List (List z8))) :=
 some (.next (gi,w64 (bh+1)))
def XU (bn:List (List z8))(bh:Int)(row:List z8):Option (LR (List (List z8)×Int) (List (List z8))) :=
 gd (bn.length+([row]:List (List z8)).length<=4294967296) <|
 XV bh (bn++([row]:List (List z8)))
def qP (x_:zC)(bh:Int)(ca:List z8)(i8:Int):Option (LR (List z8×Int) (List z8)) :=
 bif decide (i8<(w64 (1+(w64 (Int.tmod x_.Inputs 3))))) then(
  (Yj x_.Edges (w64 ((w64 (bh*(w64 (1+(w64 (Int.tmod x_.Inputs 3))))))+i8))).bind fun ai=>
  gd (((w64 (1+(w64 (Int.tmod x_.States 6)))):Int)≠0) <|
  gd (((w64 (1+(w64 (Int.tmod x_.Outputs 3)))):Int)≠0) <|
  gd (ca.length+([(z8.mk (-1) (Int.tmod (w64 (Int.tdiv ai (w64 (1+(w64 (Int.tmod x_.States 6)))))) (w64 (1+(w64 (Int.tmod x_.Outputs 3))))))]:List z8).length<=4294967296) <|
  some (.next ((ca++([(z8.mk (-1) (Int.tmod (w64 (Int.tdiv ai (w64 (1+(w64 (Int.tmod x_.States 6)))))) (w64 (1+(w64 (Int.tmod x_.Outputs 3))))))]:List z8)),w64 (i8+1))))
 else(
  some (.done ca))
def qQ (x_:zC)(bn:List (List z8))(bh:Int):Option (LR (List (List z8)×Int) (List (List z8))) :=
 bif decide (bh<(w64 (1+(w64 (Int.tmod x_.States 6))))) then(
  (loop (fun s=>qP x_ bh s.1 s.2) (([]:List z8),0)).bind fun t17=>
  XU bn bh t17)
 else(
  some (.done bn))
def Qw (x_:zC):Option z6 :=
 gd ((6:Int)≠0) <|
 gd ((3:Int)≠0) <|
 gd ((3:Int)≠0) <|
 (loop (fun s=>qQ x_ s.1 s.2) (([]:List (List z8)),0)).bind fun mf=>
 WY x_ mf
def Qd:Option Int :=
 some 0
def qM (i_:Int)(lv:Int)(lw:Bool)(ly:Bool)(lz:Bool)(l4:Bool)(l5:Bool):Option (LR Int (Unit⊕Int)) :=
 some (.next (w64 (i_+1)))
def qL (m_:z6)(av:List (List Bool))(s_:Int)(t_:Int)(i_:Int):Option (LR Int (Unit⊕Int)) :=
 bif decide (i_<m_.Inputs) then(
  (idx m_.Rows s_).bind fun ap=>
  (idx ap i_).bind fun ak=>
  (idx m_.Rows t_).bind fun io=>
  (idx io i_).bind fun bj=>
  bif ak.Out != bj.Out then(
   some (.done (.inr 1)))
  else(
   bif decide (ak.To>=0) then(
    bif decide (bj.To>=0) then(
     (idx av ak.To).bind fun dn=>
     (idx dn bj.To).bind fun cd=>
     bif cd then(
      some (.done (.inr 1)))
     else(
      qM i_ ak.To (decide (ak.To>=0)) (decide (ak.To>=0)) (decide (bj.To>=0)) (decide (bj.To>=0)) cd))
    else(
     qM i_ ak.To (decide (ak.To>=0)) (decide (ak.To>=0)) (decide (bj.To>=0)) (decide (bj.To>=0)) false))
   else(
    qM i_ ak.To (decide (ak.To>=0)) (decide (ak.To>=0)) false false false)))
 else(
  some (.done (.inl ())))
def VG (m_:z6)(av:List (List Bool))(s_:Int)(t_:Int):Option Int :=
 (loop (fun s=>qL m_ av s_ t_ s) 0).bind fun t2=>
 match t2 with
 | .inl p=>Qd
 | .inr p=>some p
def YH (ir:List (List Bool)):Option (List (List Bool)) :=
 some ir
def YG (round:Int)(ic:List (List Bool)):Option (LR (List (List Bool)×Int) (List (List Bool))) :=
 some (.next (ic,w64 (round+1)))
def YF (round:Int)(next:List (List Bool)):Option (LR (List (List Bool)×Int) (List (List Bool))) :=
 YG round next
def YE (s_:Int)(i9:List (List Bool)):Option (LR (List (List Bool)×Int) (List (List Bool))) :=
 some (.next (i9,w64 (s_+1)))
def ve (m_:z6)(bc:List (List Bool))(s_:Int)(eb:List (List Bool))(t_:Int):Option (LR (List (List Bool)×Int) (List (List Bool))) :=
 bif decide (t_<((m_.Rows.length:Nat):Int)) then(
  (idx eb s_).bind fun dp=>
  (idx bc s_).bind fun dn=>
  (idx dn t_).bind fun cd=>
  bif cd then(
   (idx dp t_).bind fun lh=>
   some (.next ((eb.set s_.toNat (dp.set t_.toNat true)),w64 (t_+1))))
  else(
   (VG m_ bc s_ t_).bind fun r_=>
   (idx dp t_).bind fun ku=>
   some (.next ((eb.set s_.toNat (dp.set t_.toNat (r_==1))),w64 (t_+1)))))
 else(
  some (.done eb))
def vg (m_:z6)(bc:List (List Bool))(fw:List (List Bool))(s_:Int):Option (LR (List (List Bool)×Int) (List (List Bool))) :=
 bif decide (s_<((m_.Rows.length:Nat):Int)) then(
  gd ((0:Int)<=((m_.Rows.length:Nat):Int)/\(((m_.Rows.length:Nat):Int):Int)<=4294967296) <|
  gd (fw.length+([(List.replicate ((m_.Rows.length:Nat):Int).toNat false)]:List (List Bool)).length<=4294967296) <|
  (loop (fun s=>ve m_ bc s_ s.1 s.2) ((fw++([(List.replicate ((m_.Rows.length:Nat):Int).toNat false)]:List (List Bool))),0)).bind fun t8=>
  YE s_ t8)
 else(
  some (.done fw))
def vh (m_:z6)(k_:Int)(bc:List (List Bool))(round:Int):Option (LR (List (List Bool)×Int) (List (List Bool))) :=
 bif decide (round<k_) then(
  (loop (fun s=>vg m_ bc s.1 s.2) (([]:List (List Bool)),0)).bind fun t6=>
  YF round t6)
 else(
  some (.done bc))
def YI (m_:z6)(k_:Int)(av:List (List Bool)):Option (List (List Bool)) :=
 (loop (fun s=>vh m_ k_ s.1 s.2) (av,0)).bind fun t3=>
 YH t3
def vd (m_:z6)(dv:List (List Bool))(a6:Int):Option (LR (List (List Bool)×Int) (List (List Bool))) :=
 bif decide (a6<((m_.Rows.length:Nat):Int)) then(
  gd ((0:Int)<=((m_.Rows.length:Nat):Int)/\(((m_.Rows.length:Nat):Int):Int)<=4294967296) <|
  gd (dv.length+([(List.replicate ((m_.Rows.length:Nat):Int).toNat false)]:List (List Bool)).length<=4294967296) <|
  some (.next ((dv++([(List.replicate ((m_.Rows.length:Nat):Int).toNat false)]:List (List Bool))),w64 (a6+1))))
 else(
  some (.done dv))
def W3 (m_:z6)(k_:Int):Option (List (List Bool)) :=
 (loop (fun s=>vd m_ s.1 s.2) (([]:List (List Bool)),0)).bind fun t9=>
 YI m_ k_ t9
def YD (out:List Int):Option (List Int) :=
 some out
def jF (s_:Int)(ay:List Int)(dc:Int):Option (LR (List Int×Int×Int) (List Int)) :=
 some (.next (ay,dc,w64 (s_+1)))
def wx (ah:List Int)(s_:Int)(kw:Int)(ja:Int):Option (LR (List Int×Int×Int) (List Int)) :=
 gd (ah.length+([ja]:List Int).length<=4294967296) <|
 jF s_ (ah++([ja]:List Int)) kw
def jE (ah:List Int)(n_:Int)(s_:Int)(b_:Int):Option (LR (List Int×Int×Int) (List Int)) :=
 bif decide (b_<0) then(
  wx ah s_ (w64 (n_+1)) n_)
 else(
  wx ah s_ n_ b_)
def vO (t_:Int)(kx:Int):Option (LR (Int×Int) Int) :=
 some (.next (kx,w64 (t_+1)))
def vN (av:List (List Bool))(ah:List Int)(s_:Int)(jp:Int)(t_:Int):Option (LR (Int×Int) Int) :=
 bif decide (t_<s_) then(
  (idx av s_).bind fun dn=>
  (idx dn t_).bind fun cd=>
  bif !cd then(
   (idx ah t_).bind fun bz=>
   vO t_ bz)
  else(
   vO t_ jp))
 else(
  some (.done jp))
def jD (av:List (List Bool))(ah:List Int)(n_:Int)(s_:Int):Option (LR (List Int×Int×Int) (List Int)) :=
 bif decide (s_<((av.length:Nat):Int)) then(
  (loop (fun s=>vN av ah s_ s.1 s.2) ((-1),0)).bind fun t6=>
  jE ah n_ s_ t6)
 else(
  some (.done ah))
def kH (av:List (List Bool)):Option (List Int) :=
 (loop (fun s=>jD av s.1 s.2.1 s.2.2) (([]:List Int),0,0)).bind fun t2=>
 YD t2
def UR (m_:z6)(k_:Int):Option (List Int) :=
 (W3 m_ k_).bind fun r_=>
 (kH r_).bind fun ai=>
 some ai
def kY (m_:z6):Option (List Int) :=
 (UR m_ ((m_.Rows.length:Nat):Int)).bind fun r_=>
 some r_
def Vb (m_:z6)(s_:Int)(i_:Int):Option z8 :=
 bif decide (s_<0) then(
  some (z8.mk (-1) (-1)))
 else(
  (idx m_.Rows s_).bind fun ap=>
  (idx ap i_).bind fun ak=>
  some ak)
def kZ (ik:z6->Int->(List Int)->Option Int)(m_:z6)(s_:Int)(w_:List Int):Option Int :=
 bif ((w_.length:Nat):Int)==0 then(
  some s_)
 else(
  (idx w_ 0).bind fun fm=>
  (Vb m_ s_ fm).bind fun r_=>
  gd ((0:Int)<=1/\(1:Int)<=((w_.length:Nat):Int)/\(((w_.length:Nat):Int):Int)<=((w_.length:Nat):Int)) <|
  (ik m_ r_.To (w_.drop (1:Int).toNat)).bind fun ai=>
  some ai)
def YN (fu:Nat):z6->Int->(List Int)->Option Int:=Nat.rec (motive:=fun _=>z6->Int->(List Int)->Option Int) (fun _ _ _=>none) (fun _ ih=>kZ ih) fu
def QX (m_:z6)(s_:Int)(w_:List Int):Option Int:=YN (w_.length+1) m_ s_ w_
def YK (out:List Int):Option (List Int) :=
 gd (out.length+([0]:List Int).length<=4294967296) <|
 some (out++([0]:List Int))
def YJ (inputs:Int)(ah:List Int)(k_:Int):Option (LR (List Int×Int) (List Int⊕List Int)) :=
 bif decide (k_>=0) then(
  (idx ah k_).bind fun bz=>
  bif decide ((w64 (bz+1))<inputs) then(
   (idx ah k_).bind fun gj=>
   (idx ah k_).bind fun l6=>
   some (.done (.inr (ah.set k_.toNat (w64 (gj+1))))))
  else(
   (idx ah k_).bind fun l7=>
   some (.next ((ah.set k_.toNat 0),w64 (k_ - 1)))))
 else(
  some (.done (.inl ah)))
def Va (w_:List Int)(inputs:Int):Option (List Int) :=
 gd (([]:List Int).length+w_.length<=4294967296) <|
 (loop (fun s=>YJ inputs s.1 s.2) (w_,w64 (((w_.length:Nat):Int) - 1))).bind fun t2=>
 match t2 with
 | .inl p=>YK p
 | .inr p=>some p
def XO (l_:List (List Int))(is:List Bool):Option (List (List Int)×List Bool) :=
 some (l_,is)
def u6 (m_:z6)(w_:List Int)(ge:List (List Int))(ky:List Bool):Option (LR (List (List Int)×List Bool×List Int) ((List (List Int)×List Bool))) :=
 (Va w_ m_.Inputs).bind fun r_=>
 some (.next (ge,ky,r_))
def XN (m_:z6)(bw:Int)(d0:List (List Int))(gk:List Bool)(w_:List Int):Option (LR (List (List Int)×List Bool×List Int) ((List (List Int)×List Bool))) :=
 bif decide (((w_.length:Nat):Int)<((m_.Rows.length:Nat):Int)) then(
  (QX m_ bw w_).bind fun ai=>
  bif decide (ai>=0) then(
   (idx gk ai).bind fun l8=>
   bif !l8 then(
    (idx gk ai).bind fun mb=>
    (idx d0 ai).bind fun bk=>
    u6 m_ w_ (d0.set ai.toNat w_) (gk.set ai.toNat true))
   else(
    u6 m_ w_ d0 gk))
  else(
   u6 m_ w_ d0 gk))
 else(
  some (.done (d0,gk)))
def VH (m_:z6)(bw:Int):Option (List (List Int)×List Bool) :=
 gd ((0:Int)<=((m_.Rows.length:Nat):Int)/\(((m_.Rows.length:Nat):Int):Int)<=4294967296) <|
 gd ((0:Int)<=((m_.Rows.length:Nat):Int)/\(((m_.Rows.length:Nat):Int):Int)<=4294967296) <|
 (loop (fun s=>XN m_ bw s.1 s.2.1 s.2.2) ((List.replicate ((m_.Rows.length:Nat):Int).toNat ([]:List Int)),(List.replicate ((m_.Rows.length:Nat):Int).toNat false),([]:List Int))).bind fun t2=>
 XO t2.1 t2.2
def W4 (m_:z6):Option (List (List Int)×List Bool) :=
 (VH m_ 0).bind fun r_=>
 some (r_.1,r_.2)
def QV:Option Int :=
 some 0
def YL (a_:List Int)(b_:List Int)(i_:Int):Option (LR Int (Unit⊕Int)) :=
 bif decide (i_<((a_.length:Nat):Int)) then(
  (idx a_ i_).bind fun gv=>
  (idx b_ i_).bind fun gw=>
  bif gv != gw then(
   (idx a_ i_).bind fun jb=>
   (idx b_ i_).bind fun jd=>
   bif decide (jb<jd) then(
    some (.done (.inr 1)))
   else(
    some (.done (.inr 0))))
  else(
   some (.next (w64 (i_+1)))))
 else(
  some (.done (.inl ())))
def Qp (a_:List Int)(b_:List Int):Option Int :=
 bif ((a_.length:Nat):Int) !=((b_.length:Nat):Int) then(
  bif decide (((a_.length:Nat):Int)<((b_.length:Nat):Int)) then(
   some 1)
  else(
   some 0))
 else(
  (loop (fun s=>YL a_ b_ s) 0).bind fun t2=>
  match t2 with
  | .inl p=>QV
  | .inr p=>some p)
def Qe (out:List Int):Option (List Int) :=
 some out
def qN (s_:Int)(ay:List Int):Option (LR (List Int×Int) (List Int)) :=
 some (.next (ay,w64 (s_+1)))
def XP (ah:List Int)(s_:Int)(k_:Int):Option (LR (List Int×Int) (List Int)) :=
 gd ((0:Int)<=0/\(0:Int)<=k_/\(k_:Int)<=((ah.length:Nat):Int)) <|
 gd (([]:List Int).length+((ah.drop 0).take (k_.toNat - 0)).length<=4294967296) <|
 gd (((ah.drop 0).take (k_.toNat - 0)).length+([s_]:List Int).length<=4294967296) <|
 gd ((0:Int)<=k_/\(k_:Int)<=((ah.length:Nat):Int)/\(((ah.length:Nat):Int):Int)<=((ah.length:Nat):Int)) <|
 gd ((((ah.drop 0).take (k_.toNat - 0))++([s_]:List Int)).length+(ah.drop k_.toNat).length<=4294967296) <|
 qN s_ ((((ah.drop 0).take (k_.toNat - 0))++([s_]:List Int))++(ah.drop k_.toNat))
def ZA (r_:List (List Int)×List Bool)(ah:List Int)(s_:Int)(a9:Int):Option (LR Int Int) :=
 bif decide (a9<((ah.length:Nat):Int)) then(
  (idx ah a9).bind fun bz=>
  (idx r_.1 bz).bind fun il=>
  (idx r_.1 s_).bind fun gq=>
  (Qp il gq).bind fun ai=>
  bif ai==1 then(
   some (.next (w64 (a9+1))))
  else(
   some (.done a9)))
 else(
  some (.done a9))
def ZB (r_:List (List Int)×List Bool)(ah:List Int)(s_:Int):Option (LR (List Int×Int) (List Int)) :=
 bif decide (s_<((r_.1.length:Nat):Int)) then(
  (idx r_.2 s_).bind fun u_=>
  bif !u_ then(
   qN s_ ah)
  else(
   (loop (fun s=>ZA r_ ah s_ s) 0).bind fun t5=>
   XP ah s_ t5))
 else(
  some (.done ah))
def VI (m_:z6):Option (List Int) :=
 (W4 m_).bind fun r_=>
 (loop (fun s=>ZB r_ s.1 s.2) (([]:List Int),0)).bind fun t2=>
 Qe t2
def YC (out:List Int):Option (List Int) :=
 some out
def uu (k_:Int)(ay:List Int):Option (LR (List Int×Int) (List Int)) :=
 some (.next (ay,w64 (k_+1)))
def YB (ai:List Int)(ah:List Int)(k_:Int)(there:Int):Option (LR (List Int×Int) (List Int)) :=
 bif there==0 then(
  (idx ai k_).bind fun dx=>
  gd (ah.length+([dx]:List Int).length<=4294967296) <|
  uu k_ (ah++([dx]:List Int)))
 else(
  uu k_ ah)
def kF (n_:Int)(ip:Int):Option (LR (Int×Int) Int) :=
 some (.next (ip,w64 (n_+1)))
def kE (r_:List Int)(ai:List Int)(k_:Int)(fy:Int)(n_:Int):Option (LR (Int×Int) Int) :=
 bif decide (n_<k_) then(
  (idx ai n_).bind fun gf=>
  (idx r_ gf).bind fun je=>
  (idx ai k_).bind fun jf=>
  (idx r_ jf).bind fun ln=>
  bif je==ln then(
   kF n_ 1)
  else(
   kF n_ fy))
 else(
  some (.done fy))
def YA (r_:List Int)(ai:List Int)(ah:List Int)(k_:Int):Option (LR (List Int×Int) (List Int)) :=
 bif decide (k_<((ai.length:Nat):Int)) then(
  (loop (fun s=>kE r_ ai k_ s.1 s.2) (0,0)).bind fun t5=>
  YB ai ah k_ t5)
 else(
  some (.done ah))
def kG (m_:z6):Option (List Int) :=
 (kY m_).bind fun r_=>
 (VI m_).bind fun ai=>
 (loop (fun s=>YA r_ ai s.1 s.2) (([]:List Int),0)).bind fun t2=>
 YC t2
def ZV (out:List Bool):Option (List Bool) :=
 some out
def ZU (round:Int)(ay:List Bool):Option (LR (List Bool×Int) (List Bool)) :=
 some (.next (ay,w64 (round+1)))
def ZT (s_:Int)(j7:List Bool):Option (LR (List Bool×Int) (List Bool)) :=
 some (.next (j7,w64 (s_+1)))
def vC (i_:Int)(j8:List Bool):Option (LR (List Bool×Int) (List Bool)) :=
 some (.next (j8,w64 (i_+1)))
def qD (m_:z6)(s_:Int)(eh:List Bool)(i_:Int):Option (LR (List Bool×Int) (List Bool)) :=
 bif decide (i_<m_.Inputs) then(
  (idx m_.Rows s_).bind fun ap=>
  (idx ap i_).bind fun ak=>
  (idx eh s_).bind fun bz=>
  bif bz then(
   bif decide (ak.To>=0) then(
    (idx eh ak.To).bind fun gj=>
    vC i_ (eh.set ak.To.toNat true))
   else(
    vC i_ eh))
  else(
   vC i_ eh))
 else(
  some (.done eh))
def qE (m_:z6)(iq:List Bool)(s_:Int):Option (LR (List Bool×Int) (List Bool)) :=
 bif decide (s_<((m_.Rows.length:Nat):Int)) then(
  (loop (fun s=>qD m_ s_ s.1 s.2) (iq,0)).bind fun t6=>
  ZT s_ t6)
 else(
  some (.done iq))
def ZS (m_:z6)(ah:List Bool)(round:Int):Option (LR (List Bool×Int) (List Bool)) :=
 bif decide (round<((m_.Rows.length:Nat):Int)) then(
  (loop (fun s=>qE m_ s.1 s.2) (ah,0)).bind fun t4=>
  ZU round t4)
 else(
  some (.done ah))
def YM (m_:z6)(bw:Int):Option (List Bool) :=
 gd ((0:Int)<=((m_.Rows.length:Nat):Int)/\(((m_.Rows.length:Nat):Int):Int)<=4294967296) <|
 (idx (List.replicate ((m_.Rows.length:Nat):Int).toNat false) bw).bind fun mq=>
 (loop (fun s=>ZS m_ s.1 s.2) (((List.replicate ((m_.Rows.length:Nat):Int).toNat false).set bw.toNat true),0)).bind fun t2=>
 ZV t2
def UQ (out:List Int):Option (List Int) :=
 some out
def UP (s_:Int)(ay:List Int):Option (LR (List Int×Int) (List Int)) :=
 some (.next (ay,w64 (s_+1)))
def UO (ah:List Int)(s_:Int)(k_:Int):Option (LR (List Int×Int) (List Int)) :=
 gd (ah.length+([k_]:List Int).length<=4294967296) <|
 UP s_ (ah++([k_]:List Int))
def Yh (n_:Int)(fc:Int):Option (LR (Int×Int) Int) :=
 some (.next (fc,w64 (n_+1)))
def W2 (r_:List Int)(ai:List Int)(al:List Bool)(s_:Int)(a9:Int)(n_:Int):Option (LR (Int×Int) Int) :=
 bif decide (n_<((ai.length:Nat):Int)) then(
  (idx al s_).bind fun dx=>
  bif dx then(
   (idx ai n_).bind fun gf=>
   (idx r_ gf).bind fun je=>
   (idx r_ s_).bind fun jf=>
   bif je==jf then(
    Yh n_ n_)
   else(
    Yh n_ a9))
  else(
   Yh n_ a9))
 else(
  some (.done a9))
def UN (r_:List Int)(ai:List Int)(al:List Bool)(ah:List Int)(s_:Int):Option (LR (List Int×Int) (List Int)) :=
 bif decide (s_<((r_.length:Nat):Int)) then(
  (loop (fun s=>W2 r_ ai al s_ s.1 s.2) ((-1),0)).bind fun t5=>
  UO ah s_ t5)
 else(
  some (.done ah))
def Kc (m_:z6):Option (List Int) :=
 (kY m_).bind fun r_=>
 (kG m_).bind fun ai=>
 (YM m_ 0).bind fun al=>
 (loop (fun s=>UN r_ ai al s.1 s.2) (([]:List Int),0)).bind fun t2=>
 UQ t2
def ZR (m_:z6)(gl:List (List z8)):Option z6 :=
 some (z6.mk m_.Inputs m_.Outputs gl)
def ZQ (k_:Int)(fz:List (List z8)):Option (LR (List (List z8)×Int) (List (List z8))) :=
 some (.next (fz,w64 (k_+1)))
def ZP (a8:List (List z8))(k_:Int)(row:List z8):Option (LR (List (List z8)×Int) (List (List z8))) :=
 gd (a8.length+([row]:List (List z8)).length<=4294967296) <|
 ZQ k_ (a8++([row]:List (List z8)))
def vB (ca:List z8)(i_:Int)(ak:z8)(em:Int):Option (LR (List z8×Int) (List z8)) :=
 gd (ca.length+([(z8.mk em ak.Out)]:List z8).length<=4294967296) <|
 some (.next ((ca++([(z8.mk em ak.Out)]:List z8)),w64 (i_+1)))
def qB (m_:z6)(r_:List Int)(ai:List Int)(k_:Int)(ca:List z8)(i_:Int):Option (LR (List z8×Int) (List z8)) :=
 bif decide (i_<m_.Inputs) then(
  (idx r_ k_).bind fun dx=>
  (idx m_.Rows dx).bind fun ap=>
  (idx ap i_).bind fun ak=>
  bif decide (ak.To>=0) then(
   (idx ai ak.To).bind fun gf=>
   vB ca i_ ak gf)
  else(
   vB ca i_ ak ak.To))
 else(
  some (.done ca))
def qC (m_:z6)(r_:List Int)(ai:List Int)(a8:List (List z8))(k_:Int):Option (LR (List (List z8)×Int) (List (List z8))) :=
 bif decide (k_<((r_.length:Nat):Int)) then(
  (loop (fun s=>qB m_ r_ ai k_ s.1 s.2) (([]:List z8),0)).bind fun t5=>
  ZP a8 k_ t5)
 else(
  some (.done a8))
def Yz (m_:z6):Option z6 :=
 (kG m_).bind fun r_=>
 (Kc m_).bind fun ai=>
 (loop (fun s=>qC m_ r_ ai s.1 s.2) (([]:List (List z8)),0)).bind fun t2=>
 ZR m_ t2
def Qv (x_:vT):Option z6 :=
 gd ((5:Int)≠0) <|
 (Qw (zC.mk (Int.tmod x_.C.States 5) x_.C.Inputs x_.C.Outputs x_.C.Tree x_.C.Edges)).bind fun r_=>
 (Yz r_).bind fun ai=>
 some ai
def wB (x_:yU):Option Int :=
 gd ((3:Int)≠0) <|
 some (w64 (1+(w64 (Int.tmod x_.Inputs 3))))
def Qh (out:List (List Int)):Option (List (List Int)) :=
 some out
def XT (i_:Int)(ay:List (List Int)):Option (LR (List (List Int)×Int) (List (List Int))) :=
 some (.next (ay,w64 (i_+1)))
def XS (ah:List (List Int))(i_:Int)(w_:List Int):Option (LR (List (List Int)×Int) (List (List Int))) :=
 gd (ah.length+([w_]:List (List Int)).length<=4294967296) <|
 XT i_ (ah++([w_]:List (List Int)))
def qO (x_:yU)(i_:Int)(d6:List Int)(k_:Int):Option (LR (List Int×Int) (List Int)) :=
 (idx x_.Words i_).bind fun j9=>
 bif decide (k_<((j9.length:Nat):Int)) then(
  bif decide (k_<12) then(
   (idx x_.Words i_).bind fun kj=>
   (idx kj k_).bind fun ep=>
   (wB x_).bind fun r_=>
   gd ((r_:Int)≠0) <|
   gd (d6.length+([Int.tmod (w64 (ep)) r_]:List Int).length<=4294967296) <|
   some (.next ((d6++([Int.tmod (w64 (ep)) r_]:List Int)),w64 (k_+1))))
  else(
   some (.done d6)))
 else(
  some (.done d6))
def ZF (x_:yU)(ah:List (List Int))(i_:Int):Option (LR (List (List Int)×Int) (List (List Int))) :=
 bif decide (i_<((x_.Words.length:Nat):Int)) then(
  bif decide (i_<40) then(
   (loop (fun s=>qO x_ i_ s.1 s.2) (([]:List Int),0)).bind fun t5=>
   XS ah i_ t5)
  else(
   some (.done ah)))
 else(
  some (.done ah))
def VO (x_:yU):Option (List (List Int)) :=
 (loop (fun s=>ZF x_ s.1 s.2) (([]:List (List Int)),0)).bind fun t2=>
 Qh t2
def Wy:Option Int :=
 some 0
def qA (a_:List Int)(b_:List Int)(i_:Int):Option (LR Int (Unit⊕Int)) :=
 bif decide (i_<((a_.length:Nat):Int)) then(
  (idx a_ i_).bind fun gv=>
  (idx b_ i_).bind fun gw=>
  bif decide (gv<gw) then(
   some (.done (.inr (-1))))
  else(
   (idx a_ i_).bind fun jb=>
   (idx b_ i_).bind fun jd=>
   bif decide (jb > jd) then(
    some (.done (.inr 1)))
   else(
    some (.next (w64 (i_+1))))))
 else(
  some (.done (.inl ())))
def uX (a_:List Int)(b_:List Int):Option Int :=
 bif ((a_.length:Nat):Int) !=((b_.length:Nat):Int) then(
  bif decide (((a_.length:Nat):Int)<((b_.length:Nat):Int)) then(
   some (-1))
  else(
   some 1))
 else(
  (loop (fun s=>qA a_ b_ s) 0).bind fun t2=>
  match t2 with
  | .inl p=>Wy
  | .inr p=>some p)
def UL (w_:List Int)(cr:Int)(d0:List (List Int)):Option (List (List Int)) :=
 gd (([]:List Int).length+w_.length<=4294967296) <|
 (idx d0 cr).bind fun bk=>
 some (d0.set cr.toNat w_)
def W1 (cr:Int)(ge:List (List Int))(i_:Int):Option (LR (List (List Int)×Int) (List (List Int))) :=
 bif decide (i_ > cr) then(
  (idx ge (w64 (i_ - 1))).bind fun ee=>
  (idx ge i_).bind fun mc=>
  some (.next ((ge.set i_.toNat ee),w64 (i_ - 1))))
 else(
  some (.done ge))
def Yf (l_:List (List Int))(w_:List Int)(cr:Int):Option (List (List Int)) :=
 gd (l_.length+([[]]:List (List Int)).length<=4294967296) <|
 (loop (fun s=>W1 cr s.1 s.2) ((l_++([[]]:List (List Int))),w64 ((((l_++([[]]:List (List Int))).length:Nat):Int) - 1))).bind fun t4=>
 UL w_ cr t4
def UM (l_:List (List Int))(w_:List Int)(cr:Int):Option (List (List Int)) :=
 bif decide (cr<((l_.length:Nat):Int)) then(
  (idx l_ cr).bind fun jv=>
  (uX jv w_).bind fun r_=>
  bif r_==0 then(
   some l_)
  else(
   Yf l_ w_ cr))
 else(
  Yf l_ w_ cr)
def W0 (l_:List (List Int))(w_:List Int)(fp:Int)(gm:Int):Option (LR (Int×Int) Int) :=
 bif decide (fp<gm) then(
  gd ((2:Int)≠0) <|
  (idx l_ (w64 (Int.tdiv (w64 (fp+gm)) 2))).bind fun jw=>
  (uX jw w_).bind fun ai=>
  bif decide (ai<0) then(
   some (.next (w64 ((w64 (Int.tdiv (w64 (fp+gm)) 2))+1),gm)))
  else(
   some (.next (fp,w64 (Int.tdiv (w64 (fp+gm)) 2)))))
 else(
  some (.done fp))
def Kb (l_:List (List Int))(w_:List Int):Option (List (List Int)) :=
 (loop (fun s=>W0 l_ w_ s.1 s.2) (0,((l_.length:Nat):Int))).bind fun t5=>
 UM l_ w_ t5
def QU (out:List (List Int)):Option (List (List Int)) :=
 some out
def vM (l_:List (List Int))(ah:List (List Int))(i_:Int):Option (LR (List (List Int)×Int) (List (List Int))) :=
 bif decide (i_<((l_.length:Nat):Int)) then(
  (idx l_ i_).bind fun bk=>
  (Kb ah bk).bind fun r_=>
  some (.next (r_,w64 (i_+1))))
 else(
  some (.done ah))
def V9 (l_:List (List Int)):Option (List (List Int)) :=
 (loop (fun s=>vM l_ s.1 s.2) (([]:List (List Int)),0)).bind fun t2=>
 QU t2
def Qu (x_:yU):Option (List (List Int)) :=
 (VO x_).bind fun r_=>
 (V9 r_).bind fun ai=>
 some ai
def YW (out:List (List Int)):Option (List (List Int)) :=
 (V9 out).bind fun r_=>
 some r_
def YV (i_:Int)(ay:List (List Int)):Option (LR (List (List Int)×Int) (List (List Int))) :=
 some (.next (ay,w64 (i_+1)))
def YU (ah:List (List Int))(i_:Int)(w_:List Int):Option (LR (List (List Int)×Int) (List (List Int))) :=
 gd (ah.length+([w_]:List (List Int)).length<=4294967296) <|
 YV i_ (ah++([w_]:List (List Int)))
def uF (l_:List (List Int))(inputs:Int)(i_:Int)(d6:List Int)(k_:Int):Option (LR (List Int×Int) (List Int)) :=
 (idx l_ i_).bind fun bk=>
 bif decide (k_<((bk.length:Nat):Int)) then(
  (idx l_ i_).bind fun ee=>
  (idx ee k_).bind fun gn=>
  gd ((inputs:Int)≠0) <|
  gd (d6.length+([Int.tmod gn inputs]:List Int).length<=4294967296) <|
  some (.next ((d6++([Int.tmod gn inputs]:List Int)),w64 (k_+1))))
 else(
  some (.done d6))
def uG (l_:List (List Int))(inputs:Int)(ah:List (List Int))(i_:Int):Option (LR (List (List Int)×Int) (List (List Int))) :=
 bif decide (i_<((l_.length:Nat):Int)) then(
  (loop (fun s=>uF l_ inputs i_ s.1 s.2) (([]:List Int),0)).bind fun t5=>
  YU ah i_ t5)
 else(
  some (.done ah))
def W8 (l_:List (List Int))(inputs:Int):Option (List (List Int)) :=
 (loop (fun s=>uG l_ inputs s.1 s.2) (([]:List (List Int)),0)).bind fun t2=>
 YW t2
def vQ:Option z8 :=
 some (z8.mk (-1) (-1))
def YT (m_:z6)(x_:z8):Option Bool :=
 (vQ).bind fun r_=>
 bif (x_.To==r_.To)&&((x_.Out==r_.Out)&&true) then(
  some true)
 else(
  bif decide (x_.To>=0) then(
   bif decide (x_.To<((m_.Rows.length:Nat):Int)) then(
    bif decide (x_.Out>=0) then(
     some (decide (x_.Out<m_.Outputs)))
    else(
     some false))
   else(
    some false))
  else(
   some false))
def ZX (x_:z8)(x1:z6):Option Bool :=
 (YT x1 x_).bind fun r_=>
 some (!r_)
def yW:Option Int :=
 some (-1)
def zP (s_:List z8)(f_:z6)(x8:Int):Option (LR Int (Unit⊕Int)) :=
 bif decide (x8<((s_.length:Nat):Int)) then(
  (idx s_ x8).bind fun ct=>
  (ZX ct f_).bind fun r_=>
  bif r_ then(
   some (.done (.inr x8)))
  else(
   some (.next (w64 (x8+1)))))
 else(
  some (.done (.inl ())))
def yl (s_:List z8)(f_:z6):Option Int :=
 (loop (fun s=>zP s_ f_ s) 0).bind fun t2=>
 match t2 with
 | .inl p=>yW
 | .inr p=>some p
def zZ (s_:List z8)(f_:z6):Option Bool :=
 (yl s_ f_).bind fun r_=>
 some (decide (r_>=0))
def Xx:Option Int :=
 some 0
def wW (m_:z6)(im:Int):Option (LR Int (Unit⊕Int)) :=
 bif decide (im<((m_.Rows.length:Nat):Int)) then(
  (idx m_.Rows im).bind fun ap=>
  bif ((ap.length:Nat):Int) != m_.Inputs then(
   some (.done (.inr 1)))
  else(
   (zZ ap m_).bind fun r_=>
   bif r_ then(
    some (.done (.inr 1)))
   else(
    some (.next (w64 (im+1))))))
 else(
  some (.done (.inl ())))
def xD (m_:z6):Option Int :=
 bif decide (m_.Inputs > 16) then(
  some 3)
 else(
  bif decide (m_.Outputs > 16) then(
   some 3)
  else(
   bif decide (((m_.Rows.length:Nat):Int) > 64) then(
    some 3)
   else(
    bif decide (m_.Inputs<1) then(
     some 1)
    else(
     bif decide (m_.Outputs<1) then(
      some 1)
     else(
      bif decide (((m_.Rows.length:Nat):Int)<1) then(
       some 1)
      else(
       (loop (fun s=>wW m_ s) 0).bind fun t2=>
       match t2 with
       | .inl p=>Xx
       | .inr p=>some p))))))
def YO (m_:z6):Option ((Int×z6)×(Int×z6)×(Int×z6)) :=
 some ((9,m_),(11,m_),(12,m_))
def XQ (m_:z6):Option z6 :=
 some m_
variable {σ:Type}
def qb (co:Int)(ga:σ):Option (LR (σ×Int) σ) :=
 some (.next (ga,w64 (co+1)))
def xY (yy:σ->(wq Int×z8)->Option (σ×Bool))(co:Int)(ap:List z8)(cx:σ)(ar:Int):Option (LR (σ×Int) (σ⊕σ)) :=
 bif decide (ar<((ap.length:Nat):Int)) then(
  (idx ap ar).bind fun ak=>
  (yy cx ((wq.mk co ar),ak)).bind fun yr=>
  bif !yr.2 then(
   some (.done (.inr yr.1)))
  else(
   some (.next (yr.1,w64 (ar+1)))))
 else(
  some (.done (.inl cx)))
def vj (x0:z6)(yy:σ->(wq Int×z8)->Option (σ×Bool))(ce:σ)(co:Int):Option (LR (σ×Int) σ) :=
 bif decide (co<((x0.Rows.length:Nat):Int)) then(
  (idx x0.Rows co).bind fun ap=>
  (loop (fun s=>xY yy co ap s.1 s.2) (ce,0)).bind fun t3=>
  match t3 with
  | .inl p=>qb co p
  | .inr p=>some (.done p))
 else(
  some (.done ce))
def qG (x0:z6){σ:Type}(yy:σ->(wq Int×z8)->Option (σ×Bool))(sg:σ):Option σ :=
 (loop (fun s=>vj x0 yy s.1 s.2) (sg,0)).bind fun t1=>
 some t1
def wQ (s_:List (wq Int)):Option (List (wq Int)) :=
 gd ((0:Int)<=0/\(0:Int)<=((s_.length:Nat):Int)/\(((s_.length:Nat):Int):Int)<=((s_.length:Nat):Int)/\(((s_.length:Nat):Int):Int)<=((s_.length:Nat):Int)) <|
 some ((s_.drop 0).take (((s_.length:Nat):Int).toNat - 0))
def vP (out:List (wq Int)):Option (List (wq Int)) :=
 (wQ out).bind fun r_=>
 some r_
def yi (ah:List (wq Int))(x8:wq Int)(x9:z8):Option (LR (List (wq Int)) Empty) :=
 (vQ).bind fun al=>
 bif (x9.To==al.To)&&((x9.Out==al.Out)&&true) then(
  gd (ah.length+([x8]:List (wq Int)).length<=4294967296) <|
  some (.next (ah++([x8]:List (wq Int)))))
 else(
  some (.next ah))
def jG (m_:z6):Option (List (wq Int)) :=
 (XQ m_).bind fun ai=>
 (qG ai (yOf (fun s x=>yi s x.1 x.2)) (.next ([]:List (wq Int)))).bind fun t2=>
 match t2 with
 | .next ah=>(
  vP ah)
 | .done z=>nomatch z
def uD (m_:z6):Option (Bool×Int) :=
 (xD m_).bind fun r_=>
 bif r_ != 0 then(
  some (false,r_))
 else(
  (jG m_).bind fun ai=>
  some (((ai.length:Nat):Int)==0,0))
def Zc (x0:z6):Option Bool :=
 (uD x0).bind fun r_=>
 some r_.1
def yM (ik:Int->(List Bool)->z6->Option (List Bool×z6))(ap:List z8)(x1:List Bool)(dr:Int)(dg:Int)(fq:List (List z8))(bg:Int):Option (LR (List Bool×Int×Int×List (List z8)×Int) ((List Bool×z6))) :=
 bif decide (bg<((ap.length:Nat):Int)) then(
  (idx ap bg).bind fun ak=>
  (ik ak.To x1 (z6.mk dr dg fq)).bind fun r_=>
  some (.next (r_.1,r_.2.Inputs,r_.2.Outputs,r_.2.Rows,w64 (bg+1))))
 else(
  some (.done (x1,(z6.mk dr dg fq))))
def xR (ik:Int->(List Bool)->z6->Option (List Bool×z6))(s_:Int)(y0:List Bool)(y1:z6):Option (List Bool×z6) :=
 bif s_==(-1) then(
  some (y0,y1))
 else(
  (idx y0 s_).bind fun mg=>
  bif mg then(
   some (y0,y1))
  else(
   (idx y0 s_).bind fun mi=>
   (idx y1.Rows s_).bind fun ap=>
   (loop (fun s=>yM ik ap s.1 s.2.1 s.2.2.1 s.2.2.2.1 s.2.2.2.2) ((y0.set s_.toNat true),y1.Inputs,y1.Outputs,y1.Rows,0)).bind fun t1=>
   some t1))
def yc (fu:Nat):Int->(List Bool)->z6->Option (List Bool×z6):=Nat.rec (motive:=fun _=>Int->(List Bool)->z6->Option (List Bool×z6)) (fun _ _ _=>none) (fun _ ih=>xR ih) fu
def vZ:Option Int :=
 some (-1)
def ym (s_:List Bool)(v_:Bool)(x8:Int):Option (LR Int (Unit⊕Int)) :=
 bif decide (x8<((s_.length:Nat):Int)) then(
  (idx s_ x8).bind fun ct=>
  bif v_==ct then(
   some (.done (.inr x8)))
  else(
   some (.next (w64 (x8+1)))))
 else(
  some (.done (.inl ())))
def vq (s_:List Bool)(v_:Bool):Option Int :=
 (loop (fun s=>ym s_ v_ s) 0).bind fun t2=>
 match t2 with
 | .inl p=>vZ
 | .inr p=>some p
def xm (s_:List Bool)(v_:Bool):Option Bool :=
 (vq s_ v_).bind fun r_=>
 some (decide (r_>=0))
def vR (m_:z6):Option (Bool×Int) :=
 (xD m_).bind fun r_=>
 bif r_ != 0 then(
  some (false,r_))
 else(
  gd ((0:Int)<=((m_.Rows.length:Nat):Int)/\(((m_.Rows.length:Nat):Int):Int)<=4294967296) <|
  (yc fuel 0 (List.replicate ((m_.Rows.length:Nat):Int).toNat false) m_).bind fun ai=>
  (xm ai.1 false).bind fun al=>
  some (!al,0))
def Zb (x0:z6):Option Bool :=
 (vR x0).bind fun r_=>
 some r_.1
def XK (m_:z6):Option z6 :=
 some m_
def Yy (out:yQ (wq Int)):Option (yQ (wq Int)) :=
 some out
def kA (bq:Int)(ay:yQ (wq Int)):Option (LR (yQ (wq Int)×Int) (yQ (wq Int))) :=
 some (.next (ay,w64 (bq+1)))
def k8 (p_:List Int)(ap:List z8)(ah:yQ (wq Int))(bq:Int):Option (LR (yQ (wq Int)×Int) (yQ (wq Int))) :=
 bif decide (bq<((ap.length:Nat):Int)) then(
  (idx ap bq).bind fun ak=>
  (idx (yQ.toL ah) bq).bind fun cell=>
  (some (yQ.setI ah bq (wq.mk ak.Out (-1)))).bind fun arr=>
  bif ak.To !=(-1) then(
   (idx p_ ak.To).bind fun bu=>
   (idx (yQ.toL arr) bq).bind fun a7=>
   (some (yQ.setI arr bq (wq.mk a7.e0 bu))).bind fun arr1=>
   kA bq arr1)
  else(
   kA bq arr))
 else(
  some (.done ah))
def kB (m_:z6)(p_:List Int)(s_:Int):Option (yQ (wq Int)) :=
 (idx m_.Rows s_).bind fun ap=>
 (loop (fun s=>k8 p_ ap s.1 s.2) ((yQ.mk (wq.mk 0 0) (wq.mk 0 0) (wq.mk 0 0) (wq.mk 0 0) (wq.mk 0 0) (wq.mk 0 0) (wq.mk 0 0) (wq.mk 0 0) (wq.mk 0 0) (wq.mk 0 0) (wq.mk 0 0) (wq.mk 0 0) (wq.mk 0 0) (wq.mk 0 0) (wq.mk 0 0) (wq.mk 0 0)),0)).bind fun t2=>
 Yy t2
def jA (out:List Int):Option (List Int) :=
 some out
def wv (ah:List Int)(dl:Int)(bu:Int)(r_:yQ (wq Int))(dh:List (zz×Int)):Option (LR ((List (zz×Int))×List Int×Int) (List Int)) :=
 (some ((z3F dh (zz.mk bu r_)).getD 0)).bind fun val=>
 (idx ah dl).bind fun bz=>
 some (.next (dh,(ah.set dl.toNat val),w64 (dl+1)))
def vL (m_:z6)(p_:List Int)(names:List (zz×Int))(ah:List Int)(dl:Int):Option (LR ((List (zz×Int))×List Int×Int) (List Int)) :=
 bif decide (dl<((p_.length:Nat):Int)) then(
  (idx p_ dl).bind fun bu=>
  (kB m_ p_ dl).bind fun r_=>
  (some ((z3F names (zz.mk bu r_)).getD 0)).bind fun l9=>
  bif !((z3F names (zz.mk bu r_)).isSome) then(
   wv ah dl bu r_ (zbG names (zz.mk bu r_) ((names.length:Nat):Int)))
  else(
   wv ah dl bu r_ names))
 else(
  some (.done ah))
def kC (m_:z6)(p_:List Int):Option (List Int) :=
 gd ((0:Int)<=((p_.length:Nat):Int)/\(((p_.length:Nat):Int):Int)<=4294967296) <|
 (loop (fun s=>vL m_ p_ s.1 s.2.1 s.2.2) (([]:List (zz×Int)),(List.replicate ((p_.length:Nat):Int).toNat (0:Int)),0)).bind fun t2=>
 jA t2
def wP:Option Bool :=
 some true
def yK (s1:List Int)(s2:List Int)(cw:Int):Option (LR Int (Unit⊕Bool)) :=
 bif decide (cw<((s1.length:Nat):Int)) then(
  (idx s1 cw).bind fun gb=>
  (idx s2 cw).bind fun dt=>
  bif gb != dt then(
   some (.done (.inr false)))
  else(
   some (.next (w64 (cw+1)))))
 else(
  some (.done (.inl ())))
def xK (s1:List Int)(s2:List Int):Option Bool :=
 bif ((s1.length:Nat):Int) !=((s2.length:Nat):Int) then(
  some false)
 else(
  (loop (fun s=>yK s1 s2 s) 0).bind fun t2=>
  match t2 with
  | .inl p=>wP
  | .inr p=>some p)
def vb (x0:z6)(yy:σ->(List Int)->Option (σ×Bool))(ce:σ)(p_:List Int):Option (LR (σ×List Int) σ) :=
 (yy ce p_).bind fun yr=>
 bif yr.2 then(
  (kC x0 p_).bind fun r_=>
  (xK p_ r_).bind fun ai=>
  bif ai then(
   some (.done yr.1))
  else(
   some (.next (yr.1,r_))))
 else(
  some (.done yr.1))
def qz (x0:z6){σ:Type}(yy:σ->(List Int)->Option (σ×Bool))(sg:σ):Option σ :=
 gd ((0:Int)<=((x0.Rows.length:Nat):Int)/\(((x0.Rows.length:Nat):Int):Int)<=4294967296) <|
 (loop (fun s=>vb x0 yy s.1 s.2) (sg,(List.replicate ((x0.Rows.length:Nat):Int).toNat (0:Int)))).bind fun t1=>
 some t1
def jB (p_:List Int)(n_:Int):Option (List Int×Int×Int) :=
 some (p_,n_,0)
def ww (iv:List Int)(dc:Int)(cg:List Int):Option (LR (List Int×Int) Empty) :=
 some (.next (cg,w64 (dc+1)))
def kD (m_:z6):Option (List Int×Int×Int) :=
 (xD m_).bind fun r_=>
 bif r_ != 0 then(
  some (([]:List Int),0,r_))
 else(
  (XK m_).bind fun ai=>
  (qz ai (yOf (fun s x=>ww s.1 s.2 x)) (.next (([]:List Int),(-1)))).bind fun t2=>
  match t2 with
  | .next (iv,dc)=>(
   jB iv dc)
  | .done z=>nomatch z)
def vJ (m_:Int):Option Int :=
 some m_
def wc (x_:List Int)(ka:Int)(i_:Int):Option (LR (Int×Int) Int) :=
 bif decide (i_<((x_.length:Nat):Int)) then(
  (idx x_ i_).bind fun kn=>
  some (.next ((mx ka kn),w64 (i_+1))))
 else(
  some (.done ka))
def vK (x_:List Int):Option Int :=
 bif decide (((x_.length:Nat):Int)<1) then(
  none)
 else(
  (idx x_ 0).bind fun ko=>
  (loop (fun s=>wc x_ s.1 s.2) (ko,1)).bind fun t2=>
  vJ t2)
def Za (x0:z6):Option Bool :=
 (kD x0).bind fun r_=>
 (vK r_.1).bind fun ai=>
 some (ai==(w64 (((r_.1.length:Nat):Int) - 1)))
def uY:Option Int :=
 some 0
def xM (m_:z6):Option Int :=
 (xD m_).bind fun r_=>
 bif r_ != 0 then(
  some r_)
 else(
  (YO m_).bind fun ai=>
  (Zc ai.1.2).bind fun al=>
  bif !al then(
   some ai.1.1)
  else(
   (Zb ai.2.1.2).bind fun am=>
   bif !am then(
    some ai.2.1.1)
   else(
    (Za ai.2.2.2).bind fun bm=>
    bif !bm then(
     some ai.2.2.1)
    else(
     uY))))
def WO (c_:Int)(x1:Int):Option Bool :=
 bif decide (c_<0) then(
  some true)
 else(
  some (decide (c_>=x1)))
def v7:Option Int :=
 some (-1)
def ye (s_:List Int)(f_:Int)(x8:Int):Option (LR Int (Unit⊕Int)) :=
 bif decide (x8<((s_.length:Nat):Int)) then(
  (idx s_ x8).bind fun ct=>
  (WO ct f_).bind fun r_=>
  bif r_ then(
   some (.done (.inr x8)))
  else(
   some (.next (w64 (x8+1)))))
 else(
  some (.done (.inl ())))
def ws (s_:List Int)(f_:Int):Option Int :=
 (loop (fun s=>ye s_ f_ s) 0).bind fun t2=>
 match t2 with
 | .inl p=>v7
 | .inr p=>some p
def xH (s_:List Int)(f_:Int):Option Bool :=
 (ws s_ f_).bind fun r_=>
 some (decide (r_>=0))
def jQ (w_:List Int)(inputs:Int):Option Int :=
 bif decide (inputs > 16) then(
  some 3)
 else(
  bif decide (((w_.length:Nat):Int) > 256) then(
   some 3)
  else(
   bif decide (inputs<1) then(
    some 1)
   else(
    (xH w_ inputs).bind fun r_=>
    bif r_ then(
     some 1)
    else(
     some 0))))
def Q1:Option Int :=
 some 0
def qI (l_:List (List Int))(inputs:Int)(kb:Int):Option (LR Int (Unit⊕Int)) :=
 bif decide (kb<((l_.length:Nat):Int)) then(
  (idx l_ kb).bind fun bk=>
  (jQ bk inputs).bind fun r_=>
  bif r_ != 0 then(
   some (.done (.inr r_)))
  else(
   some (.next (w64 (kb+1)))))
 else(
  some (.done (.inl ())))
def Xk (l_:List (List Int))(inputs:Int):Option Int :=
 bif decide (inputs > 16) then(
  some 3)
 else(
  bif decide (((l_.length:Nat):Int) > 4096) then(
   some 3)
  else(
   bif decide (inputs<1) then(
    some 1)
   else(
    (loop (fun s=>qI l_ inputs s) 0).bind fun t2=>
    match t2 with
    | .inl p=>Q1
    | .inr p=>some p)))
def X4 (x_:Int):Option Bool :=
 some (x_ != x_)
def uM (x_:Int)(y_:Int):Option Int :=
 (X4 x_).bind fun r_=>
 (X4 y_).bind fun ai=>
 bif r_ then(
  bif ai then(
   some 0)
  else(
   some (-1)))
 else(
  bif ai then(
   some 1)
  else(
   bif decide (x_<y_) then(
    some (-1))
   else(
    bif decide (x_ > y_) then(
     some 1)
    else(
     some 0))))
def w7 (s1:List Int)(s2:List Int):Option Int :=
 bif decide (((s1.length:Nat):Int)<((s2.length:Nat):Int)) then(
  some (-1))
 else(
  some 0)
def yn (s1:List Int)(s2:List Int)(ew:Int):Option (LR Int (Unit⊕Int)) :=
 bif decide (ew<((s1.length:Nat):Int)) then(
  (idx s1 ew).bind fun gb=>
  bif decide (ew>=((s2.length:Nat):Int)) then(
   some (.done (.inr 1)))
  else(
   (idx s2 ew).bind fun dt=>
   (uM gb dt).bind fun r_=>
   bif r_ != 0 then(
    some (.done (.inr r_)))
   else(
    some (.next (w64 (ew+1))))))
 else(
  some (.done (.inl ())))
def xQ (s1:List Int)(s2:List Int):Option Int :=
 (loop (fun s=>yn s1 s2 s) 0).bind fun t2=>
 match t2 with
 | .inl p=>w7 s1 s2
 | .inr p=>some p
def WZ:Option Int :=
 some 0
def Zk (vals:List Int)(x8:Int):Option (LR Int (Unit⊕Int)) :=
 bif decide (x8<((vals.length:Nat):Int)) then(
  (idx vals x8).bind fun kp=>
  bif kp != 0 then(
   some (.done (.inr kp)))
  else(
   some (.next (w64 (x8+1)))))
 else(
  some (.done (.inl ())))
def QB (vals:List Int):Option Int :=
 (loop (fun s=>Zk vals s) 0).bind fun t2=>
 match t2 with
 | .inl p=>WZ
 | .inr p=>some p
def uT (a_:List Int)(b_:List Int):Option Int :=
 (uM ((a_.length:Nat):Int) ((b_.length:Nat):Int)).bind fun r_=>
 (xQ a_ b_).bind fun ai=>
 (QB ([r_,ai])).bind fun al=>
 some al
def XD:Option Bool :=
 some true
def qJ (l_:List (List Int))(i_:Int):Option (LR Int (Unit⊕Bool)) :=
 bif decide (i_<((l_.length:Nat):Int)) then(
  (idx l_ (w64 (i_ - 1))).bind fun bk=>
  (idx l_ i_).bind fun ee=>
  (uT bk ee).bind fun r_=>
  bif decide (r_>=0) then(
   some (.done (.inr false)))
  else(
   some (.next (w64 (i_+1)))))
 else(
  some (.done (.inl ())))
def Vk (l_:List (List Int)):Option Bool :=
 (loop (fun s=>qJ l_ s) 1).bind fun t2=>
 match t2 with
 | .inl p=>XD
 | .inr p=>some p
def Q0 (n_:Int):Option Int :=
 some n_
def qH (l_:List (List Int))(dc:Int)(x7:Int):Option (LR (Int×Int) Int) :=
 bif decide (x7<((l_.length:Nat):Int)) then(
  (idx l_ x7).bind fun bk=>
  some (.next (w64 (dc+((bk.length:Nat):Int)),w64 (x7+1))))
 else(
  some (.done dc))
def Xj (l_:List (List Int)):Option Int :=
 (loop (fun s=>qH l_ s.1 s.2) (0,0)).bind fun t2=>
 Q0 t2
def Vl (l_:List (List Int))(inputs:Int):Option Int :=
 (Xk l_ inputs).bind fun r_=>
 bif r_ != 0 then(
  some r_)
 else(
  (Vk l_).bind fun ai=>
  bif !ai then(
   some 1)
  else(
   (Xj l_).bind fun al=>
   bif decide (al > 65536) then(
    some 3)
   else(
    some 0)))
def kK (m_:z6)(l_:List (List Int)):Option Int :=
 (xM m_).bind fun r_=>
 bif r_ != 0 then(
  some r_)
 else(
  (Vl l_ m_.Inputs).bind fun ai=>
  some ai)
def ZD (m_:z6)(s_:Int):Option Int :=
 (xD m_).bind fun r_=>
 bif r_ != 0 then(
  some r_)
 else(
  bif decide (s_<0) then(
   some 1)
  else(
   bif decide (s_>=((m_.Rows.length:Nat):Int)) then(
    some 1)
   else(
    some 0)))
def YS (a6:Int)(out:List Int):Option (List Int×Int) :=
 some (out,a6)
def kJ (ah:List Int)(ar:Int)(em:Int)(iu:Int):Option (LR (Int×List Int×Int) ((Int×List Int))) :=
 (idx ah ar).bind fun bz=>
 some (.next (em,(ah.set ar.toNat iu),w64 (ar+1)))
def YR (m_:z6)(w_:List Int)(bh:Int)(ah:List Int)(ar:Int):Option (LR (Int×List Int×Int) ((Int×List Int))) :=
 bif decide (ar<((w_.length:Nat):Int)) then(
  (idx w_ ar).bind fun fm=>
  (vQ).bind fun r_=>
  bif bh !=(-1) then(
   (idx m_.Rows bh).bind fun ap=>
   (idx ap fm).bind fun ak=>
   kJ ah ar ak.To ak.Out)
  else(
   kJ ah ar r_.To r_.Out))
 else(
  some (.done (bh,ah)))
def W6 (m_:z6)(s_:Int)(w_:List Int):Option (List Int×Int) :=
 gd ((0:Int)<=((w_.length:Nat):Int)/\(((w_.length:Nat):Int):Int)<=4294967296) <|
 (loop (fun s=>YR m_ w_ s.1 s.2.1 s.2.2) (s_,(List.replicate ((w_.length:Nat):Int).toNat (0:Int)),0)).bind fun t2=>
 YS t2.1 t2.2
def W7 (m_:z6)(s_:Int)(w_:List Int):Option (List Int×Int) :=
 (ZD m_ s_).bind fun r_=>
 bif r_ != 0 then(
  some (([]:List Int),r_))
 else(
  (jQ w_ m_.Inputs).bind fun ai=>
  bif ai != 0 then(
   some (([]:List Int),ai))
  else(
   (W6 m_ s_ w_).bind fun al=>
   some (al.1,0)))
def xx (s_:List (List Int)):Option (List (List Int)) :=
 some s_
def qe (out:List (List Int)):Option (List (List Int)) :=
 (xx out).bind fun r_=>
 some r_
def yD (m_:z6)(l_:List (List Int))(s_:Int)(ah:List (List Int))(cg:Int):Option (LR (List (List Int)×Int) (List (List Int))) :=
 bif decide (cg<((l_.length:Nat):Int)) then(
  (idx l_ cg).bind fun bk=>
  (W7 m_ s_ bk).bind fun ai=>
  gd (ah.length+([ai.1]:List (List Int)).length<=4294967296) <|
  some (.next ((ah++([ai.1]:List (List Int))),w64 (cg+1))))
 else(
  some (.done ah))
def xv (m_:z6)(l_:List (List Int))(s_:Int):Option (List (List Int)) :=
 (loop (fun s=>yD m_ l_ s_ s.1 s.2) (([]:List (List Int)),0)).bind fun t2=>
 qe t2
def vD (m_:z6)(l_:List (List Int))(s_:Int):Option (List (List Int)×Int) :=
 (kK m_ l_).bind fun r_=>
 bif r_ != 0 then(
  some (([]:List (List Int)),r_))
 else(
  bif decide (s_<0) then(
   some (([]:List (List Int)),1))
  else(
   bif decide (s_>=((m_.Rows.length:Nat):Int)) then(
    some (([]:List (List Int)),1))
   else(
    (xv m_ l_ s_).bind fun ai=>
    some (ai,0))))
def kL (n_:Int):Option Int :=
 some n_
def Zi (x6:Int)(ga:σ):Option (LR (σ×Int) σ) :=
 some (.next (ga,w64 (x6+1)))
def uJ (x0:Int)(yy:σ->(Int×Int)->Option (σ×Bool))(x6:Int)(cx:σ)(b_:Int):Option (LR (σ×Int) (σ⊕σ)) :=
 bif decide (b_<x0) then(
  (yy cx (x6,b_)).bind fun yr=>
  bif !yr.2 then(
   some (.done (.inr yr.1)))
  else(
   some (.next (yr.1,w64 (b_+1)))))
 else(
  some (.done (.inl cx)))
def Zh (x0:Int)(yy:σ->(Int×Int)->Option (σ×Bool))(ce:σ)(x6:Int):Option (LR (σ×Int) σ) :=
 bif decide (x6<x0) then(
  (loop (fun s=>uJ x0 yy x6 s.1 s.2) (ce,w64 (x6+1))).bind fun t3=>
  match t3 with
  | .inl p=>Zi x6 p
  | .inr p=>some (.done p))
 else(
  some (.done ce))
def yG (x0:Int){σ:Type}(yy:σ->(Int×Int)->Option (σ×Bool))(sg:σ):Option σ :=
 (loop (fun s=>Zh x0 yy s.1 s.2) (sg,0)).bind fun t1=>
 some t1
def jI (x_:List Int)(y_:List Int):Option Bool :=
 (xK x_ y_).bind fun r_=>
 some r_
def xk:Option Bool :=
 some true
def zQ (s1:List (List Int))(s2:List (List Int))(ar:Int):Option (LR Int (Unit⊕Bool)) :=
 bif decide (ar<((s1.length:Nat):Int)) then(
  (idx s1 ar).bind fun gb=>
  (idx s2 ar).bind fun dt=>
  (jI gb dt).bind fun r_=>
  bif !r_ then(
   some (.done (.inr false)))
  else(
   some (.next (w64 (ar+1)))))
 else(
  some (.done (.inl ())))
def yp (s1:List (List Int))(s2:List (List Int))(eq:Unit):Option Bool :=
 bif ((s1.length:Nat):Int) !=((s2.length:Nat):Int) then(
  some false)
 else(
  (loop (fun s=>zQ s1 s2 s) 0).bind fun t2=>
  match t2 with
  | .inl p=>xk
  | .inr p=>some p)
def wC (a_:List (List Int))(b_:List (List Int)):Option Bool :=
 (yp a_ b_ ()).bind fun r_=>
 some r_
def X1:Option (Bool×Int) :=
 some (true,0)
def uK (all:List (List (List Int)))(lp:Int)(im:Int):Option (LR Unit Unit) :=
 (idx all lp).bind fun jx=>
 (idx all im).bind fun jg=>
 (wC jx jg).bind fun al=>
 bif al then(
  some (.done ()))
 else(
  some (.next ()))
def X2 (m_:z6)(all:List (List (List Int))):Option (Bool×Int) :=
 (kL ((m_.Rows.length:Nat):Int)).bind fun ai=>
 (yG ai (yOf (fun s x=>uK all x.1 x.2)) (.next ())).bind fun t3=>
 match t3 with
 | .next _=>(
  X1)
 | .done _=>(
  some (false,0))
def wo (m_:z6)(l_:List (List Int))(ie:List (List (List Int)))(jh:Int):Option (LR (List (List (List Int))×Int) (List (List (List Int)))) :=
 bif decide (jh<((m_.Rows.length:Nat):Int)) then(
  (xv m_ l_ jh).bind fun am=>
  gd (ie.length+([am]:List (List (List Int))).length<=4294967296) <|
  some (.next ((ie++([am]:List (List (List Int)))),w64 (jh+1))))
 else(
  some (.done ie))
def kM (m_:z6)(l_:List (List Int)):Option (Bool×Int) :=
 (kK m_ l_).bind fun r_=>
 bif r_ != 0 then(
  some (false,r_))
 else(
  (loop (fun s=>wo m_ l_ s.1 s.2) (([]:List (List (List Int))),0)).bind fun t4=>
  X2 m_ t4)
def US (out:List Int):Option (List Int) :=
 some out
def W5 (m_:z6)(w_:List Int)(a6:Int)(ah:List Int)(k_:Int):Option (LR (Int×List Int×Int) (List Int)) :=
 bif decide (k_<((w_.length:Nat):Int)) then(
  (idx w_ k_).bind fun fm=>
  (Vb m_ a6 fm).bind fun r_=>
  gd (ah.length+([r_.Out]:List Int).length<=4294967296) <|
  some (.next (r_.To,(ah++([r_.Out]:List Int)),w64 (k_+1))))
 else(
  some (.done ah))
def Kd (m_:z6)(s_:Int)(w_:List Int):Option (List Int) :=
 (loop (fun s=>W5 m_ w_ s.1 s.2.1 s.2.2) (s_,([]:List Int),0)).bind fun t2=>
 US t2
def jC (out:List (List Int)):Option (List (List Int)) :=
 some out
def yZ (m_:z6)(l_:List (List Int))(s_:Int)(ah:List (List Int))(i_:Int):Option (LR (List (List Int)×Int) (List (List Int))) :=
 bif decide (i_<((l_.length:Nat):Int)) then(
  (idx l_ i_).bind fun bk=>
  (Kd m_ s_ bk).bind fun r_=>
  gd (ah.length+([r_]:List (List Int)).length<=4294967296) <|
  some (.next ((ah++([r_]:List (List Int))),w64 (i_+1))))
 else(
  some (.done ah))
def wn (m_:z6)(l_:List (List Int))(s_:Int):Option (List (List Int)) :=
 (loop (fun s=>yZ m_ l_ s_ s.1 s.2) (([]:List (List Int)),0)).bind fun t2=>
 jC t2
def WT:Option Bool :=
 some true
def kX (a_:List (List Int))(b_:List (List Int))(i_:Int):Option (LR Int (Unit⊕Bool)) :=
 bif decide (i_<((a_.length:Nat):Int)) then(
  (idx a_ i_).bind fun gv=>
  (idx b_ i_).bind fun gw=>
  (uX gv gw).bind fun r_=>
  bif r_ != 0 then(
   some (.done (.inr false)))
  else(
   some (.next (w64 (i_+1)))))
 else(
  some (.done (.inl ())))
def Yg (a_:List (List Int))(b_:List (List Int)):Option Bool :=
 bif ((a_.length:Nat):Int) !=((b_.length:Nat):Int) then(
  some false)
 else(
  (loop (fun s=>kX a_ b_ s) 0).bind fun t2=>
  match t2 with
  | .inl p=>WT
  | .inr p=>some p)
def uH (a_:List (List Int))(b_:List (List Int)):Option Bool :=
 (Yg a_ b_).bind fun r_=>
 bif r_ then(
  some (((a_.length:Nat):Int)==((a_.length:Nat):Int)))
 else(
  some false)
def Qc:Option Bool :=
 some true
def XM (a_:Int):Option (LR Int (Unit⊕Bool)) :=
 some (.next (w64 (a_+1)))
def Zz (m_:z6)(l_:List (List Int))(a_:Int)(b_:Int):Option (LR Int (Unit⊕Bool)) :=
 bif decide (b_<a_) then(
  (wn m_ l_ a_).bind fun r_=>
  (wn m_ l_ b_).bind fun ai=>
  (Yg r_ ai).bind fun al=>
  bif al then(
   some (.done (.inr false)))
  else(
   some (.next (w64 (b_+1)))))
 else(
  some (.done (.inl ())))
def XL (m_:z6)(l_:List (List Int))(a_:Int):Option (LR Int (Unit⊕Bool)) :=
 bif decide (a_<((m_.Rows.length:Nat):Int)) then(
  (loop (fun s=>Zz m_ l_ a_ s) 0).bind fun t4=>
  match t4 with
  | .inl p=>XM a_
  | .inr p=>some (.done (.inr p)))
 else(
  some (.done (.inl ())))
def VF (m_:z6)(l_:List (List Int)):Option Bool :=
 (loop (fun s=>XL m_ l_ s) 0).bind fun t2=>
 match t2 with
 | .inl p=>Qc
 | .inr p=>some p
def Zj (a_:List Int)(b_:List Int):Option Bool :=
 some (((a_.length:Nat):Int)==((b_.length:Nat):Int))
def yu:Option Bool :=
 some true
def zJ (s1:List (List Int))(s2:List (List Int))(ar:Int):Option (LR Int (Unit⊕Bool)) :=
 bif decide (ar<((s1.length:Nat):Int)) then(
  (idx s1 ar).bind fun gb=>
  (idx s2 ar).bind fun dt=>
  (Zj gb dt).bind fun r_=>
  bif !r_ then(
   some (.done (.inr false)))
  else(
   some (.next (w64 (ar+1)))))
 else(
  some (.done (.inl ())))
def zY (s1:List (List Int))(s2:List (List Int))(eq:Unit):Option Bool :=
 bif ((s1.length:Nat):Int) !=((s2.length:Nat):Int) then(
  some false)
 else(
  (loop (fun s=>zJ s1 s2 s) 0).bind fun t2=>
  match t2 with
  | .inl p=>yu
  | .inr p=>some p)
def xI (s_:List Int):Option (List Int) :=
 some s_
def jJ (out:List Int):Option (List Int×Int) :=
 (xI out).bind fun al=>
 some (al,0)
def vS (bg:Int)(ay:List Int):Option (LR (List Int×Int) (List Int)) :=
 some (.next (ay,w64 (bg+1)))
def xa (m_:z6)(l_:List (List Int))(aw:List (List Int))(ah:List Int)(bg:Int):Option (LR (List Int×Int) (List Int)) :=
 bif decide (bg<((m_.Rows.length:Nat):Int)) then(
  (xv m_ l_ bg).bind fun am=>
  (wC am aw).bind fun bm=>
  bif bm then(
   gd (ah.length+([bg]:List Int).length<=4294967296) <|
   vS bg (ah++([bg]:List Int)))
  else(
   vS bg ah))
 else(
  some (.done ah))
def xo (m_:z6)(l_:List (List Int))(aw:List (List Int)):Option (List Int×Int) :=
 (kK m_ l_).bind fun r_=>
 bif r_ != 0 then(
  some (([]:List Int),r_))
 else(
  (zY l_ aw ()).bind fun ai=>
  bif !ai then(
   some (([]:List Int),16))
  else(
   (loop (fun s=>xa m_ l_ aw s.1 s.2) (([]:List Int),0)).bind fun t2=>
   jJ t2))
def Xw (out:List Int):Option (List Int) :=
 some out
def ut (s_:Int)(ay:List Int):Option (LR (List Int×Int) (List Int)) :=
 some (.next (ay,w64 (s_+1)))
def xy (m_:z6)(l_:List (List Int))(aw:List (List Int))(ah:List Int)(s_:Int):Option (LR (List Int×Int) (List Int)) :=
 bif decide (s_<((m_.Rows.length:Nat):Int)) then(
  (wn m_ l_ s_).bind fun r_=>
  (Yg r_ aw).bind fun ai=>
  bif ai then(
   gd (ah.length+([s_]:List Int).length<=4294967296) <|
   ut s_ (ah++([s_]:List Int)))
  else(
   ut s_ ah))
 else(
  some (.done ah))
def qK (m_:z6)(l_:List (List Int))(aw:List (List Int)):Option (List Int) :=
 (loop (fun s=>xy m_ l_ aw s.1 s.2) (([]:List Int),0)).bind fun t2=>
 Xw t2
def Yi (a_:List Int)(b_:List Int):Option Bool :=
 (Yg ([a_]) ([b_])).bind fun r_=>
 bif r_ then(
  some (((a_.length:Nat):Int)==((a_.length:Nat):Int)))
 else(
  some false)
def J0:Option z6 :=
 some (z6.mk 2 2 ([[(z8.mk 1 0),(z8.mk 0 0)],[(z8.mk 2 0),(z8.mk 1 1)],[(z8.mk 0 1),(z8.mk 2 0)]]))
def Xy (l_:List (List Int)):Option (List (List Int)) :=
 some l_
def Km (a_:Int)(b_:Int):Option Bool :=
 some true
def Q2 (s_:Int)(x1:z6):Option Bool :=
 bif decide (s_<0) then(
  some true)
 else(
  some (decide (s_>=((x1.Rows.length:Nat):Int))))
def xV:Option Int :=
 some (-1)
def xU (s_:List Int)(f_:z6)(x8:Int):Option (LR Int (Unit⊕Int)) :=
 bif decide (x8<((s_.length:Nat):Int)) then(
  (idx s_ x8).bind fun ct=>
  (Q2 ct f_).bind fun r_=>
  bif r_ then(
   some (.done (.inr x8)))
  else(
   some (.next (w64 (x8+1)))))
 else(
  some (.done (.inl ())))
def wN (s_:List Int)(f_:z6):Option Int :=
 (loop (fun s=>xU s_ f_ s) 0).bind fun t2=>
 match t2 with
 | .inl p=>xV
 | .inr p=>some p
def xW (s_:List Int)(f_:z6):Option Bool :=
 (wN s_ f_).bind fun r_=>
 some (decide (r_>=0))
def K0 (m_:z6)(l_:List Int):Option Int :=
 (xD m_).bind fun r_=>
 bif r_ != 0 then(
  some r_)
 else(
  (xW l_ m_).bind fun ai=>
  bif ai then(
   some 1)
  else(
   some 0))
def K1 (m_:z6):Option z6 :=
 some m_
def Xo (x8:Int)(ga:σ):Option (LR (σ×Int) σ) :=
 some (.next (ga,w64 (x8+1)))
def Xm (x0:z6)(yy:σ->(Int×Int)->Option (σ×Bool))(x8:Int)(cx:σ)(t_:Int):Option (LR (σ×Int) (σ⊕σ)) :=
 bif decide (t_<((x0.Rows.length:Nat):Int)) then(
  (yy cx (x8,t_)).bind fun yr=>
  bif !yr.2 then(
   some (.done (.inr yr.1)))
  else(
   some (.next (yr.1,w64 (t_+1)))))
 else(
  some (.done (.inl cx)))
def Xn (x0:z6)(yy:σ->(Int×Int)->Option (σ×Bool))(ce:σ)(x8:Int):Option (LR (σ×Int) σ) :=
 bif decide (x8<((x0.Rows.length:Nat):Int)) then(
  (loop (fun s=>Xm x0 yy x8 s.1 s.2) (ce,w64 (x8+1))).bind fun t3=>
  match t3 with
  | .inl p=>Xo x8 p
  | .inr p=>some (.done p))
 else(
  some (.done ce))
def XE (x0:z6){σ:Type}(yy:σ->(Int×Int)->Option (σ×Bool))(sg:σ):Option σ :=
 (loop (fun s=>Xn x0 yy s.1 s.2) (sg,0)).bind fun t1=>
 some t1
def wO (l:List Int)(n:Int):Option (List Int):=bif l.isEmpty&&(decide (0<n)&&decide (n<=1000000)) then some [] else none
def um (ig:List Int):Option (List Int) :=
 some ig
def ul (slices:List (List Int))(da:List Int)(kc:Int):Option (LR (List Int×Int) (List Int)) :=
 bif decide (kc<((slices.length:Nat):Int)) then(
  (idx slices kc).bind fun gh=>
  gd (da.length+gh.length<=4294967296) <|
  some (.next ((da++gh),w64 (kc+1))))
 else(
  some (.done da))
def uo (slices:List (List Int))(size:Int):Option (List Int) :=
 (wO [] size).bind fun r_=>
 (loop (fun s=>ul slices s.1 s.2) (r_,0)).bind fun t3=>
 um t3
def uk (slices:List (List Int))(gr:Int)(ew:Int):Option (LR (Int×Int) Int) :=
 bif decide (ew<((slices.length:Nat):Int)) then(
  (idx slices ew).bind fun gp=>
  bif decide ((w64 (gr+((gp.length:Nat):Int)))<0) then(
   none)
  else(
   some (.next (w64 (gr+((gp.length:Nat):Int)),w64 (ew+1)))))
 else(
  some (.done gr))
def jY (slices:List (List Int)):Option (List Int) :=
 (loop (fun s=>uk slices s.1 s.2) (0,0)).bind fun t4=>
 uo slices t4
def va (s_:List Int):Option (List Int) :=
 gd ((0:Int)<=0/\(0:Int)<=((s_.length:Nat):Int)/\(((s_.length:Nat):Int):Int)<=((s_.length:Nat):Int)/\(((s_.length:Nat):Int):Int)<=((s_.length:Nat):Int)) <|
 some ((s_.drop 0).take (((s_.length:Nat):Int).toNat - 0))
def Zr (n_:Int)(f_:ArN 64 (ArN 64 (List Int)))(out:List Int):Option (List Int×ArN 64 (ArN 64 (List Int))) :=
 bif ((out.length:Nat):Int) != n_ then(
  some ([],f_))
 else(
  (va out).bind fun r_=>
  gd (r_≠[]) <|
  some (r_,f_))
def wJ (de:Int):Option (LR Int (List Int)) :=
 some (.next (w64 (de+1)))
def Zq (m_:z6)(t_:Int)(n_:Int)(f_:ArN 64 (ArN 64 (List Int)))(ap:List z8)(de:Int):Option (LR Int (List Int)) :=
 bif decide (de<((ap.length:Nat):Int)) then(
  (idx ap de).bind fun ak=>
  (idx m_.Rows t_).bind fun io=>
  (idx io de).bind fun bj=>
  bif ak.Out != bj.Out then(
   some (.done ([de]:List Int)))
  else(
   bif decide (n_ > 1) then(
    bif ak.To !=(-1) then(
     (idx (f_.l) ak.To).bind fun cell=>
     (idx (cell.l) bj.To).bind fun a7=>
     bif ((a7.length:Nat):Int)==(w64 (n_ - 1)) then(
      (idx (f_.l) ak.To).bind fun dw=>
      (idx (dw.l) bj.To).bind fun eg=>
      (jY ([[de],eg])).bind fun ai=>
      some (.done ai))
     else(
      wJ de))
    else(
     wJ de))
   else(
    wJ de)))
 else(
  some (.done ([]:List Int)))
def Xp (m_:z6)(s_:Int)(t_:Int)(n_:Int)(f_:ArN 64 (ArN 64 (List Int))):Option (List Int×ArN 64 (ArN 64 (List Int))) :=
 (idx m_.Rows s_).bind fun ap=>
 (loop (fun s=>Zq m_ t_ n_ f_ ap s) 0).bind fun t2=>
 Zr n_ f_ t2
def Wo (s_:Int)(t_:Int)(w_:List Int)(f_:ArN 64 (ArN 64 (List Int))):Option (ArN 64 (ArN 64 (List Int))) :=
 (idx (f_.l) s_).bind fun cell=>
 (idx (cell.l) t_).bind fun a7=>
 (some (ArN.setI cell t_ w_)).bind fun arr=>
 (some (ArN.setI f_ s_ arr)).bind fun arr1=>
 (idx (arr1.l) t_).bind fun dw=>
 (idx (dw.l) s_).bind fun eg=>
 (some (ArN.setI dw s_ w_)).bind fun arr2=>
 (some (ArN.setI arr1 t_ arr2)).bind fun kq=>
 some kq
def Y5 (f_:ArN 64 (ArN 64 (List Int))):Option (ArN 64 (ArN 64 (List Int))) :=
 some f_
def Y4 (n_:Int)(kz:ArN 64 (ArN 64 (List Int))):Option (LR (ArN 64 (ArN 64 (List Int))×Int) (ArN 64 (ArN 64 (List Int)))) :=
 some (.next (kz,w64 (n_+1)))
def Y1 (now:List zO)(ji:ArN 64 (ArN 64 (List Int)))(ke:Int):Option (LR (ArN 64 (ArN 64 (List Int))×Int) (ArN 64 (ArN 64 (List Int)))) :=
 bif decide (ke<((now.length:Nat):Int)) then(
  (idx now ke).bind fun cm=>
  (Wo cm.S cm.T cm.Word ji).bind fun r_=>
  some (.next (r_,w64 (ke+1))))
 else(
  some (.done ji))
def Y3 (n_:Int)(k0:ArN 64 (ArN 64 (List Int)))(now:List zO):Option (LR (ArN 64 (ArN 64 (List Int))×Int) (ArN 64 (ArN 64 (List Int)))) :=
 (loop (fun s=>Y1 now s.1 s.2) (k0,0)).bind fun t5=>
 Y4 n_ t5
def uU (m_:z6)(n_:Int)(d7:ArN 64 (ArN 64 (List Int)))(dj:List zO)(fg:Int)(bg:Int):Option (LR (ArN 64 (ArN 64 (List Int))×List zO) Empty) :=
 (idx (d7.l) fg).bind fun cell=>
 (idx (cell.l) bg).bind fun a7=>
 bif !a7.isEmpty then(
  some (.next (d7,dj)))
 else(
  (Xp m_ fg bg n_ d7).bind fun al=>
  bif !al.1.isEmpty then(
   gd (dj.length+([(zO.mk fg bg al.1 false)]:List zO).length<=4294967296) <|
   some (.next (al.2,(dj++([(zO.mk fg bg al.1 false)]:List zO)))))
  else(
   some (.next (al.2,dj))))
def Y2 (m_:z6)(iw:ArN 64 (ArN 64 (List Int)))(n_:Int):Option (LR (ArN 64 (ArN 64 (List Int))×Int) (ArN 64 (ArN 64 (List Int)))) :=
 bif decide (n_<(mx ((m_.Rows.length:Nat):Int) 2)) then(
  (K1 m_).bind fun ai=>
  (XE ai (yOf (fun s x=>uU m_ n_ s.1 s.2 x.1 x.2)) (.next (iw,([]:List zO)))).bind fun t6=>
  match t6 with
  | .next (d7,dj)=>(
   Y3 n_ d7 dj)
  | .done z=>nomatch z)
 else(
  some (.done iw))
def Wn (m_:z6):Option (ArN 64 (ArN 64 (List Int))) :=
 (loop (fun s=>Y2 m_ s.1 s.2) ((ArN.rep 64 (ArN.rep 64 ([]:List Int))),1)).bind fun t2=>
 Y5 t2
def ue (s_:List Int):Option (List Int) :=
 gd (([]:List Int).length+s_.length<=4294967296) <|
 some s_
def Yq (m_:z6)(s_:Int)(t_:Int):Option (List Int×Bool×Int) :=
 (K0 m_ ([s_,t_])).bind fun r_=>
 bif r_ != 0 then(
  some (([]:List Int),false,r_))
 else(
  (Wn m_).bind fun ai=>
  (idx (ai.l) s_).bind fun cell=>
  (idx (cell.l) t_).bind fun a7=>
  (ue a7).bind fun al=>
  (va al).bind fun am=>
  some (am,decide (((am.length:Nat):Int) > 0),0))
def jZ (s_:List (List Int)):Option (List (List Int)) :=
 gd (([]:List (List Int)).length+s_.length<=4294967296) <|
 some s_
def XC (a_:List Int)(b_:List Int):Option Bool :=
 (uT a_ b_).bind fun r_=>
 some (r_==0)
def wk (s_:List (List Int)):Option (List (List Int)) :=
 some s_
def wj (k_:Int):Option (LR Int (Unit⊕List (List Int))) :=
 some (.next (w64 (k_+1)))
def wh (a6:List (List Int))(a9:Int):Option (LR Int (Unit⊕List (List Int))) :=
 gd ((0:Int)<=a9/\(a9:Int)<=((a6.length:Nat):Int)) <|
 gd ((0:Int)<=a9/\(a9:Int)<=((a6.length:Nat):Int)) <|
 gd ((0:Int)<=a9/\(a9:Int)<=(((a6.take a9.toNat++List.replicate (a6.length - a9.toNat) []).length:Nat):Int)) <|
 some (.done (.inr ((a6.take a9.toNat++List.replicate (a6.length - a9.toNat) []).take a9.toNat)))
def yY (k2:Int)(k9:List (List Int))(la:Int):Option (LR (List (List Int)×Int×Int) ((List (List Int)×Int))) :=
 some (.next (k9,la,w64 (k2+1)))
def we (k_:Int)(bh:List (List Int))(fc:Int)(k2:Int):Option (LR (List (List Int)×Int×Int) ((List (List Int)×Int))) :=
 bif decide (k2<((bh.length - k_.toNat:Nat):Int)) then(
  gd ((0:Int)<=k_/\(0:Int)<=k2) <|
  (idx bh (k_+k2)).bind fun jy=>
  gd ((0:Int)<=k_/\(0:Int)<=w64 (k2 - 1)) <|
  (idx bh (k_+(w64 (k2 - 1)))).bind fun jz=>
  (XC jy jz).bind fun ai=>
  bif !ai then(
   gd ((0:Int)<=k_/\(0:Int)<=k2) <|
   (idx bh (k_+k2)).bind fun j4=>
   (idx bh fc).bind fun md=>
   yY k2 (bh.set fc.toNat j4) (w64 (fc+1)))
  else(
   yY k2 bh fc))
 else(
  some (.done (bh,fc)))
def wg (s_:List (List Int))(k_:Int):Option (LR Int (Unit⊕List (List Int))) :=
 bif decide (k_<((s_.length:Nat):Int)) then(
  (idx s_ k_).bind fun ct=>
  (idx s_ (w64 (k_ - 1))).bind fun j5=>
  (XC ct j5).bind fun r_=>
  bif r_ then(
   gd ((0:Int)<=k_/\(k_:Int)<=((s_.length:Nat):Int)) <|
   (loop (fun s=>we k_ s.1 s.2.1 s.2.2) (s_,k_,1)).bind fun t5=>
   wh t5.1 t5.2)
  else(
   wj k_))
 else(
  some (.done (.inl ())))
def v8 (s_:List (List Int))(eq:Unit):Option (List (List Int)) :=
 bif decide (((s_.length:Nat):Int)<2) then(
  some s_)
 else(
  (loop (fun s=>wg s_ s) 1).bind fun t2=>
  match t2 with
  | .inl p=>wk s_
  | .inr p=>some p)
def wR (s_:List (List Int)):Option (List (List Int)) :=
 some s_
def Vj (out:List (List Int×Bool)):Option (List (List Int)×Int) :=
 gd (∀q∈out,q.2=true) <|
 some ((out.map (·.1)),0)
def Vi (al:List (List Int))(ay:List (List Int×Bool))(bg:Int):Option (LR ((List (List Int×Bool))×Int) ((List (List Int×Bool)))) :=
 bif decide (bg<((al.length - (0:Int).toNat:Nat):Int)) then(
  gd ((0:Int)<=0/\(0:Int)<=bg) <|
  (idx ay (0+bg)).bind fun bz=>
  (ue bz.1).bind fun bm=>
  (va bm).bind fun ck=>
  (idx ay bg).bind fun gj=>
  some (.next ((ay.set bg.toNat (ck,true)),w64 (bg+1))))
 else(
  some (.done ay))
def JZ (l_:List (List Int)):Option (List (List Int)×Int) :=
 (jZ l_).bind fun r_=>
 (zhz (fun x y=>uT x y) r_).bind fun sorted=>
 (v8 sorted ()).bind fun ai=>
 (wR ai).bind fun al=>
 bif decide (((al.length:Nat):Int) > 4096) then(
  some (([]:List (List Int)),3))
 else(
  (Xj al).bind fun am=>
  bif decide (am > 65536) then(
   some (([]:List (List Int)),3))
  else(
   (loop (fun s=>Vi al s.1 s.2) ((al.map fun q=>(q,false)),0)).bind fun t2=>
   Vj t2))
def KN (l_:List (List Int))(inputs:Int):Option (List (List Int)×Int) :=
 (Xk l_ inputs).bind fun r_=>
 bif r_ != 0 then(
  some (([]:List (List Int)),r_))
 else(
  (JZ l_).bind fun ai=>
  some (ai.1,ai.2))
def VQ (m_:z6)(x5:Int)(out:List (List Int)):Option (List (List Int)×Int) :=
 (KN out m_.Inputs).bind fun r_=>
 some (r_.1,r_.2)
def YZ (m_:z6)(bt:Int)(ah:List (List Int))(bq:Int)(ar:Int):Option (LR (Int×List (List Int)) ((Int×List (List Int)))) :=
 (Km bq ar).bind fun al=>
 bif !al then(
  some (.next (bt,ah)))
 else(
  (Yq m_ bq ar).bind fun am=>
  bif am.2.2 != 0 then(
   some (.done (am.2.2,ah)))
  else(
   gd (ah.length+([am.1]:List (List Int)).length<=4294967296) <|
   some (.next (bt,(ah++([am.1]:List (List Int)))))))
def Kj (m_:z6)(is:Unit):Option (List (List Int)×Int) :=
 (kL ((m_.Rows.length:Nat):Int)).bind fun ai=>
 (yG ai (yOf (fun s x=>YZ m_ s.1 s.2 x.1 x.2)) (.next (0,([]:List (List Int))))).bind fun t2=>
 match t2 with
 | .next (bt,ah)=>(
  VQ m_ bt ah)
 | .done (bt,ah)=>(
  some (([]:List (List Int)),bt))
def KV (m_:z6):Option (List (List Int)×Int) :=
 (xM m_).bind fun r_=>
 bif r_ != 0 then(
  some (([]:List (List Int)),r_))
 else(
  (Kj m_ ()).bind fun ai=>
  some (ai.1,ai.2))
def z0L (a_:Int)(b_:Int)(x2:Int):Option Bool :=
 bif a_==x2 then(
  some true)
 else(
  some (b_==x2))
def Ya (m_:z6)(x5:Int)(out:List (List Int)):Option (List (List Int)×Int) :=
 (KN out m_.Inputs).bind fun r_=>
 some (r_.1,r_.2)
def qd (m_:z6)(is:Int)(bt:Int)(ah:List (List Int))(bq:Int)(ar:Int):Option (LR (Int×List (List Int)) ((Int×List (List Int)))) :=
 (z0L bq ar is).bind fun al=>
 bif !al then(
  some (.next (bt,ah)))
 else(
  (Yq m_ bq ar).bind fun am=>
  bif am.2.2 != 0 then(
   some (.done (am.2.2,ah)))
  else(
   gd (ah.length+([am.1]:List (List Int)).length<=4294967296) <|
   some (.next (bt,(ah++([am.1]:List (List Int)))))))
def WA (m_:z6)(is:Int):Option (List (List Int)×Int) :=
 (kL ((m_.Rows.length:Nat):Int)).bind fun ai=>
 (yG ai (yOf (fun s x=>qd m_ is s.1 s.2 x.1 x.2)) (.next (0,([]:List (List Int))))).bind fun t2=>
 match t2 with
 | .next (bt,ah)=>(
  Ya m_ bt ah)
 | .done (bt,ah)=>(
  some (([]:List (List Int)),bt))
def Kl (m_:z6)(s_:Int):Option (List (List Int)×Int) :=
 (xM m_).bind fun r_=>
 bif r_ != 0 then(
  some (([]:List (List Int)),r_))
 else(
  bif decide (s_<0) then(
   some (([]:List (List Int)),1))
  else(
   bif decide (s_>=((m_.Rows.length:Nat):Int)) then(
    some (([]:List (List Int)),1))
   else(
    (WA m_ s_).bind fun ai=>
    some (ai.1,ai.2))))
def Yd (out:List Int):Option (List Int) :=
 some out
def Yc (ah:List Int)(ii:Int):Option (LR (List Int) Empty) :=
 gd (ah.length+([ii]:List Int).length<=4294967296) <|
 some (.next (ah++([ii]:List Int)))
def qg (ar:Int)(jj:Int):Option (LR (Int×Int) Int) :=
 some (.next (jj,w64 (ar+1)))
def Yb (m_:z6)(w_:List (List Int))(cw:Int)(cg:Int)(fx:Int)(ar:Int):Option (LR (Int×Int) Int) :=
 bif decide (ar<((w_.length:Nat):Int)) then(
  gd ((0:Int)<=ar/\(ar:Int)<=w64 (ar+1)/\(w64 (ar+1):Int)<=((w_.length:Nat):Int)) <|
  (xv m_ ((w_.drop ar.toNat).take ((w64 (ar+1)).toNat - ar.toNat)) cw).bind fun ai=>
  gd ((0:Int)<=ar/\(ar:Int)<=w64 (ar+1)/\(w64 (ar+1):Int)<=((w_.length:Nat):Int)) <|
  (xv m_ ((w_.drop ar.toNat).take ((w64 (ar+1)).toNat - ar.toNat)) cg).bind fun al=>
  (wC ai al).bind fun am=>
  bif !am then(
   gd ((0:Int)<=ar) <|
   qg ar (orK .u64 fx (z7y .u64 1 ar)))
  else(
   qg ar fx))
 else(
  some (.done fx))
def qh (m_:z6)(w_:List (List Int))(ah:List Int)(cw:Int)(cg:Int):Option (LR (List Int) Empty) :=
 (loop (fun s=>Yb m_ w_ cw cg s.1 s.2) (0,0)).bind fun t4=>
 Yc ah t4
def WB (m_:z6)(w_:List (List Int)):Option (List Int) :=
 (kL ((m_.Rows.length:Nat):Int)).bind fun r_=>
 (yG r_ (yOf (fun s x=>qh m_ w_ s x.1 x.2)) (.next ([]:List Int))).bind fun t2=>
 match t2 with
 | .next ah=>(
  Yd ah)
 | .done z=>nomatch z
def uv (lq:Int):Option Int :=
 some (z8f .i64 (w64 (lq)) 127)
def uw (jq:Int):Option Int :=
 uv (IntKind.u64.wrap (jq+(Int.fdiv jq (2 ^ 32))))
def uz (jr:Int):Option Int :=
 uw (IntKind.u64.wrap (jr+(Int.fdiv jr (2 ^ 16))))
def uA (js:Int):Option Int :=
 uz (IntKind.u64.wrap (js+(Int.fdiv js (2 ^ 8))))
def uB (jt:Int):Option Int :=
 uA (z8f .u64 (IntKind.u64.wrap ((Int.fdiv jt (2 ^ 4))+jt)) 1085102592571150095)
def uC (ju:Int):Option Int :=
 uB (IntKind.u64.wrap ((z8f .u64 (Int.fdiv ju (2 ^ 2)) 3689348814741910323)+(z8f .u64 ju 3689348814741910323)))
def kI (x_:Int):Option Int :=
 uC (IntKind.u64.wrap ((z8f .u64 (Int.fdiv x_ (2 ^ 1)) 6148914691236517205)+(z8f .u64 x_ 6148914691236517205)))
def qa (x_:Int):Option Int :=
 (kI x_).bind fun r_=>
 some r_
def u7 (x_:Int):Option Int :=
 bif x_==0 then(
  some 64)
 else(
  (idx (ziq.l) (Int.fdiv (IntKind.u64.wrap ((z8f .u64 x_ (IntKind.u64.wrap (0 - x_)))*285870213051353865)) (2 ^ 58))).bind fun cell=>
  some (w64 (cell)))
def q9 (x_:Int):Option Int :=
 (u7 x_).bind fun r_=>
 some r_
def Kk (a_:Int)(b_:Int):Option Bool :=
 (q9 (zjd .u64 a_ b_)).bind fun r_=>
 gd ((0:Int)<=r_) <|
 some ((z8f .u64 (Int.fdiv a_ (2 ^ (min (r_).toNat 64))) 1)==1)
def wt (s_:List (List Int)):Option (List (List Int)) :=
 some s_
def WG (out:List (List Int)):Option (List (List Int)×Int) :=
 (wt out).bind fun al=>
 some (al,0)
def ZZ (gc:Int)(ay:List (List Int)):Option (LR (List (List Int)×Int) (List (List Int))) :=
 some (.next (ay,w64 (gc+1)))
def WE (r_:List (List Int)×Int)(dy:Int)(ah:List (List Int))(gc:Int):Option (LR (List (List Int)×Int) (List (List Int))) :=
 bif decide (gc<((r_.1.length:Nat):Int)) then(
  (idx r_.1 gc).bind fun u_=>
  gd ((0:Int)<=gc) <|
  bif (z8f .u64 (Int.fdiv dy (2 ^ (min (gc).toNat 64))) 1)==1 then(
   gd (ah.length+([u_]:List (List Int)).length<=4294967296) <|
   ZZ gc (ah++([u_]:List (List Int))))
  else(
   ZZ gc ah))
 else(
  some (.done ah))
def WH (r_:List (List Int)×Int)(dy:Int):Option (List (List Int)×Int) :=
 (loop (fun s=>WE r_ dy s.1 s.2) (([]:List (List Int)),0)).bind fun t3=>
 WG t3
def wD (bl:Int)(jk:Int):Option (LR (Int×Int) Int) :=
 some (.next (jk,IntKind.u64.wrap (bl+1)))
def WF (bl:Int):Option (LR (Int×Int) Int) :=
 wD bl bl
def WC (ai:List Int)(bi:Int)(bl:Int)(kg:Int):Option (LR Int (Unit⊕Int)) :=
 bif decide (kg<((ai.length:Nat):Int)) then(
  (idx ai kg).bind fun dx=>
  bif (z8f .u64 dx bl)==0 then(
   some (.done (.inr bi)))
  else(
   some (.next (w64 (kg+1)))))
 else(
  some (.done (.inl ())))
def ZY (ai:List Int)(bi:Int)(bl:Int)(ix:Bool):Option (LR (Int×Int) Int) :=
 (loop (fun s=>WC ai bi bl s) 0).bind fun t9=>
 match t9 with
 | .inl p=>WF bl
 | .inr p=>wD bl p
def WD (r_:List (List Int)×Int)(ai:List Int)(bi:Int)(bl:Int):Option (LR (Int×Int) Int) :=
 bif decide (bl<(z7y .u64 1 ((r_.1.length:Nat):Int))) then(
  (qa bl).bind fun am=>
  (qa bi).bind fun bm=>
  bif decide (am > bm) then(
   wD bl bi)
  else(
   bif am==bm then(
    bif bl==bi then(
     wD bl bi)
    else(
     (Kk bl bi).bind fun ck=>
     bif !ck then(
      wD bl bi)
     else(
      ZY ai bi bl (!ck))))
   else(
    ZY ai bi bl false)))
 else(
  some (.done bi))
def Ja (m_:z6):Option (List (List Int)×Int) :=
 (KV m_).bind fun r_=>
 bif r_.2 != 0 then(
  some (([]:List (List Int)),r_.2))
 else(
  bif decide (((r_.1.length:Nat):Int) > 12) then(
   some (([]:List (List Int)),3))
  else(
   (WB m_ r_.1).bind fun ai=>
   gd ((0:Int)<=((r_.1.length:Nat):Int)) <|
   gd ((0:Int)<=((r_.1.length:Nat):Int)) <|
   (loop (fun s=>WD r_ ai s.1 s.2) (IntKind.u64.wrap ((z7y .u64 1 ((r_.1.length:Nat):Int)) - 1),0)).bind fun t5=>
   WH r_ t5))
def QZ:Option Bool :=
 (J0).bind fun r_=>
 (Xy ([[0],[1]])).bind fun ai=>
 (KV r_).bind fun al=>
 (Kl r_ 0).bind fun am=>
 (Kl r_ 1).bind fun bm=>
 (Kl r_ 2).bind fun ck=>
 (Ja r_).bind fun du=>
 bif al.2 != 0 then(
  some false)
 else(
  bif am.2 != 0 then(
   some false)
  else(
   bif bm.2 != 0 then(
    some false)
   else(
    bif ck.2 != 0 then(
     some false)
    else(
     bif du.2 != 0 then(
      some false)
     else(
      (uH al.1 ai).bind fun kl=>
      bif !kl then(
       some false)
      else(
       (uH am.1 ai).bind fun bo=>
       bif !bo then(
        some false)
       else(
        (uH bm.1 ai).bind fun fj=>
        bif !fj then(
         some false)
        else(
         gd ((0:Int)<=0/\(0:Int)<=1/\(1:Int)<=((ai.length:Nat):Int)) <|
         (uH ck.1 ((ai.drop 0).take ((1:Int).toNat - 0))).bind fun iy=>
         bif !iy then(
          some false)
         else(
          (uH du.1 ai).bind fun eu=>
          bif !eu then(
           some false)
          else(
           gd ((0:Int)<=0/\(0:Int)<=1/\(1:Int)<=((ai.length:Nat):Int)) <|
           (kM r_ ((ai.drop 0).take ((1:Int).toNat - 0))).bind fun br=>
           (Xy ([[0,0]])).bind fun fh=>
           (kM r_ fh).bind fun ij=>
           (vD r_ ai 1).bind fun cb=>
           (Xy ([[0],[0]])).bind fun iz=>
           (xo r_ ai iz).bind fun cp=>
           gd ((0:Int)<=0/\(0:Int)<=1/\(1:Int)<=((ai.length:Nat):Int)) <|
           (Xy ([[0]])).bind fun i3=>
           (xo r_ ((ai.drop 0).take ((1:Int).toNat - 0)) i3).bind fun cu=>
           gd ((0:Int)<=0/\(0:Int)<=1/\(1:Int)<=((ai.length:Nat):Int)) <|
           (Xy ([[7]])).bind fun i4=>
           (xo r_ ((ai.drop 0).take ((1:Int).toNat - 0)) i4).bind fun dz=>
           gd ((0:Int)<=0/\(0:Int)<=1/\(1:Int)<=((ai.length:Nat):Int)) <|
           (xo r_ ((ai.drop 0).take ((1:Int).toNat - 0)) ([]:List (List Int))).bind fun ft=>
           bif br.2==0 then(
            bif ij.2==0 then(
             bif cb.2==0 then(
              bif cp.2==0 then(
               bif cu.2==0 then(
                bif dz.2==0 then(
                 bif !br.1 then(
                  bif ij.1 then(
                   (uH cb.1 ai).bind fun lk=>
                   bif lk then(
                    (Yi cp.1 ([0])).bind fun ll=>
                    bif ll then(
                     (Yi cu.1 ([0,1])).bind fun lm=>
                     bif lm then(
                      bif ((dz.1.length:Nat):Int)==0 then(
                       some (ft.2==16))
                      else(
                       some false))
                     else(
                      some false))
                    else(
                     some false))
                   else(
                    some false))
                  else(
                   some false))
                 else(
                  some false))
                else(
                 some false))
               else(
                some false))
              else(
               some false))
             else(
              some false))
            else(
             some false))
           else(
            some false)))))))))))
def yj (r_:z6)(al:List (List Int))(eu:List (List Int)):Option Bool :=
 (xo r_ al eu).bind fun br=>
 bif br.2==0 then(
  (qK r_ al eu).bind fun fh=>
  (Yi br.1 fh).bind fun ij=>
  bif ij then(
   (QZ).bind fun cb=>
   some cb)
  else(
   some false))
 else(
  some false)
def uf (x_:vT)(y_:yU)(z_:zj2 Int):Option Bool :=
 (Qv (vT.mk x_.C)).bind fun r_=>
 (Qu y_).bind fun ai=>
 (W8 ai r_.Inputs).bind fun al=>
 gd ((((r_.Rows.length:Nat):Int):Int)≠0) <|
 (vD r_ al (Int.tmod (w64 (z_.e0)) ((r_.Rows.length:Nat):Int))).bind fun am=>
 (kM r_ al).bind fun bm=>
 bif am.2 != 0 then(
  some false)
 else(
  bif bm.2 != 0 then(
   some false)
  else(
   (wn r_ al (Int.tmod (w64 (z_.e0)) ((r_.Rows.length:Nat):Int))).bind fun ck=>
   (uH am.1 ck).bind fun du=>
   bif !du then(
    some false)
   else(
    (VF r_ al).bind fun kl=>
    bif !(bm.1==kl) then(
     some false)
    else(
     (xo r_ al am.1).bind fun bo=>
     bif bo.2 != 0 then(
      some false)
     else(
      (qK r_ al am.1).bind fun fj=>
      (Yi bo.1 fj).bind fun iy=>
      bif !iy then(
       some false)
      else(
       bif decide (((am.1.length:Nat):Int) > 0) then(
        gd ((((am.1.length:Nat):Int):Int)≠0) <|
        (idx am.1 (Int.tmod (w64 (z_.e1)) ((am.1.length:Nat):Int))).bind fun u_=>
        bif decide (((u_.length:Nat):Int) > 0) then(
         (idx am.1 (Int.tmod (w64 (z_.e1)) ((am.1.length:Nat):Int))).bind fun il=>
         (idx am.1 (Int.tmod (w64 (z_.e1)) ((am.1.length:Nat):Int))).bind fun gq=>
         gd ((((gq.length:Nat):Int):Int)≠0) <|
         (idx il (Int.tmod (w64 (z_.e2)) ((gq.length:Nat):Int))).bind fun kh=>
         (idx il (Int.tmod (w64 (z_.e2)) ((gq.length:Nat):Int))).bind fun me=>
         yj r_ al (am.1.set (Int.tmod (w64 (z_.e1)) ((am.1.length:Nat):Int)).toNat (il.set (Int.tmod (w64 (z_.e2)) ((gq.length:Nat):Int)).toNat (w64 (kh+1)))))
        else(
         yj r_ al am.1))
       else(
        yj r_ al am.1)))))))
abbrev F0_:=z1O (eI .i64)
abbrev F1_:=eSl 1 false (eI .u8)
abbrev F2_:=eSl 1 true (eI .i64)
abbrev F3_:=eOs 1 true (eI .i64)
abbrev F4_:=eSl 1 false (eI .u16)
abbrev F5_:=eOs 1 false (eI .i64)
abbrev F6_:=eSl 1 false (eI .i64)
abbrev F7_:=zdC F0_
abbrev F8_:=vE (eI .i64) (eI .i64)
abbrev F9_:=eOs 1 true F3_
abbrev kS:=eSl 1 true F2_
abbrev zj0:=eSl 1 true F6_
abbrev zqJ:=eSl 1 false F1_
abbrev zbU:=eOs 1 false F6_
abbrev yx:=eSl 1 false F6_
abbrev zpN:=eSl 2 true F8_
abbrev yI:=eSl 2 false F8_
abbrev qW:=eOs 2 false F8_
abbrev z2y:=Je (eI .i64) F7_
abbrev z9y:=Wb (eI .u8) zqJ
abbrev zqI:=eSl 1 true zpN
abbrev zqH:=eSl 1 false yI
abbrev KK:=ZI (eI .u8) (eI .u8) (eI .u8) F1_ F4_
abbrev z9v:=w8 (eI .i64) (eI .i64) zqI
abbrev zD:=w8 (eI .i64) (eI .i64) zqH
abbrev z2x:=eSp zD
def rpN {α:Type _}(n:Nat)(a:α)(l:List α):List α:=Nat.rec l (fun _ r=>a::r) n
abbrev aLn (n:Nat):H:=.a (.atom (.int .i64 ((n:Nat):Int)))
end Go.Own

namespace Go.Proofs
open Go.Shelf
def Tryz.so118_ren:Go.Shelf.Ren:=⟨fun|6=>118|15=>139|14=>138|28=>161|29=>162|20=>153|21=>154|22=>155|23=>156|24=>157|25=>158|26=>159|27=>160|46=>169|47=>170|48=>171|49=>172|50=>173|57=>174|n=>n,fun|22=>32|24=>40|25=>91|3=>3|39=>78|0=>0|53=>104|55=>106|4=>4|46=>180|45=>179|50=>184|5=>5|9=>9|66=>194|70=>198|76=>200|77=>201|n=>n,fun|n=>n⟩
theorem Tryz.so118:Go.Proofs.SlLaysF0.n6 Tryz.prog Tryz.so118_ren:={
 mixed:=by kernel_rfl
 f6:=⟨Tryz.f118.name,by decide,Tryz.func118.trans (congrArg some (by kernel_rfl))⟩
 f14:=⟨Tryz.f138.name,by decide,Tryz.func138.trans (congrArg some (by kernel_rfl))⟩
 f15:=Tryz.func139.trans (congrArg some (by kernel_rfl))
 f20:=⟨Tryz.f153.name,by decide,Tryz.func153.trans (congrArg some (by kernel_rfl))⟩
 f21:=⟨Tryz.f154.name,by decide,Tryz.func154.trans (congrArg some (by kernel_rfl))⟩
 f22:=⟨Tryz.f155.name,by decide,Tryz.func155.trans (congrArg some (by kernel_rfl))⟩
 f23:=⟨Tryz.f156.name,by decide,Tryz.func156.trans (congrArg some (by kernel_rfl))⟩
 f24:=⟨Tryz.f157.name,by decide,Tryz.func157.trans (congrArg some (by kernel_rfl))⟩
 f25:=⟨Tryz.f158.name,by decide,Tryz.func158.trans (congrArg some (by kernel_rfl))⟩
 f26:=⟨Tryz.f159.name,by decide,Tryz.func159.trans (congrArg some (by kernel_rfl))⟩
 f27:=⟨Tryz.f160.name,by decide,Tryz.func160.trans (congrArg some (by kernel_rfl))⟩
 f28:=Tryz.func161.trans (congrArg some (by kernel_rfl))
 f29:=Tryz.func162.trans (congrArg some (by kernel_rfl))
 f46:=⟨Tryz.f169.name,by decide,Tryz.func169.trans (congrArg some (by kernel_rfl))⟩
 f47:=Tryz.func170.trans (congrArg some (by kernel_rfl))
 f48:=Tryz.func171.trans (congrArg some (by kernel_rfl))
 f49:=⟨Tryz.f172.name,by decide,Tryz.func172.trans (congrArg some (by kernel_rfl))⟩
 f50:=⟨Tryz.f173.name,by decide,Tryz.func173.trans (congrArg some (by kernel_rfl))⟩
 f57:=⟨Tryz.f174.name,by decide,Tryz.func174.trans (congrArg some (by kernel_rfl))⟩
 t0:=Tryz.underlying0
 a0:=Tryz.isAgg0
 z0:=Tryz.sizeOf0
 v0:=Tryz.zeroValue0
 t3:=Tryz.underlying3
 a3:=Tryz.isAgg3
 z3:=Tryz.sizeOf3
 v3:=Tryz.zeroValue3
 t4:=Tryz.underlying4
 a4:=Tryz.isAgg4
 z4:=Tryz.sizeOf4
 v4:=Tryz.zeroValue4
 t5:=Tryz.underlying5
 a5:=Tryz.isAgg5
 z5:=Tryz.sizeOf5
 v5:=Tryz.zeroValue5
 t9:=Tryz.underlying9
 a9:=Tryz.isAgg9
 z9:=Tryz.sizeOf9
 v9:=Tryz.zeroValue9
 t22:=Tryz.underlying32
 a22:=Tryz.isAgg32
 z22:=Tryz.sizeOf32
 v22:=Tryz.zeroValue32
 t25:=Tryz.underlying91
 a25:=Tryz.isAgg91
 z25:=Tryz.sizeOf91
 v25:=Tryz.zeroValue91
 t39:=Tryz.underlying78
 a39:=Tryz.isAgg78
 z39:=Tryz.sizeOf78
 v39:=Tryz.zeroValue78
 t45:=Tryz.underlying179
 a45:=Tryz.isAgg179
 z45:=Tryz.sizeOf179
 v45:=Tryz.zeroValue179
 t46:=Tryz.underlying180
 a46:=Tryz.isAgg180
 z46:=Tryz.sizeOf180
 v46:=Tryz.zeroValue180
 t50:=Tryz.underlying184
 a50:=Tryz.isAgg184
 z50:=Tryz.sizeOf184
 v50:=Tryz.zeroValue184
 t53:=Tryz.underlying104
 a53:=Tryz.isAgg104
 z53:=Tryz.sizeOf104
 v53:=Tryz.zeroValue104
 t55:=Tryz.underlying106
 a55:=Tryz.isAgg106
 z55:=Tryz.sizeOf106
 v55:=Tryz.zeroValue106
 t66:=Tryz.underlying194
 a66:=Tryz.isAgg194
 z66:=Tryz.sizeOf194
 v66:=Tryz.zeroValue194
 t70:=Tryz.underlying198
 a70:=Tryz.isAgg198
 z70:=Tryz.sizeOf198
 v70:=Tryz.zeroValue198
 t76:=Tryz.underlying200
 a76:=Tryz.isAgg200
 z76:=Tryz.sizeOf200
 v76:=Tryz.zeroValue200
 t77:=Tryz.underlying201
 a77:=Tryz.isAgg201
 z77:=Tryz.sizeOf201
 v77:=Tryz.zeroValue201 }
end Go.Proofs
