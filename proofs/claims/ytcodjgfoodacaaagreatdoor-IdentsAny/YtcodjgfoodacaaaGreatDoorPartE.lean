/- -/
import Derived.Test.YtcodjgfoodacaaaGreatDoorPartB
import Derived.Test.YtcodjgfoodacaaaGreatDoorProg
import Derived.Test.YtcodjgfoodacaaaGreatDoorPartD
import Derived.Test.YtcodjgfoodacaaaGreatDoorChecked
import Derived.Lib.AppendZerosOnto
import Derived.Lib.SliceRun
import Derived.WalkKit
import Derived.Lib.Walk
import Derived.Test.YtcodjgfoodacaaaGreatDoorPartC
import Derived.Shelf.SlSortCmp.NoneTotal
import Derived.Ground.SlsfProg
set_option linter.unusedVariables false
set_option linter.unusedSimpArgs false
namespace Go.Ex
open Go.Proofs
theorem q5:EqP Tryz.prog 5 [.int .u8 0] false 1:=z8f (k:=.int .u8) Tryz.underlying5 ⟨_,(by kernel_rfl:Tryz.prog.info? 5 = some Tryz.t5),rfl⟩ rfl
theorem q49:EqP Tryz.prog 49 (z8S 3 [.int .u8 0]) true 2:=KB Tryz.underlying49 q5 ⟨_,(by kernel_rfl:Tryz.prog.info? 49 = some Tryz.t49),rfl⟩
def i49:EI:=⟨.array 3 5,3,3,some [.int .u8 0,.int .u8 0,.int .u8 0],true⟩
theorem zlK:zdD Tryz.prog 49 i49:=⟨⟨Tryz.t49,by kernel_rfl,rfl,rfl,fun z h => by cases h; exact ⟨_,rfl,rfl,z1l rfl,rfl,⟨_,rfl⟩⟩⟩,Tryz.underlying49,fun _ => UY q49 rfl rfl (Nat.le_of_ble_eq_true (by kernel_rfl)) (by decide)⟩
def i64:EI:=⟨.func,1,8,some [.nilFunc],false⟩
theorem q3:EqP Tryz.prog 3 [.int .i64 0] false 1:=z8f (k:=.int .i64) Tryz.underlying3 ⟨_,(by kernel_rfl:Tryz.prog.info? 3 = some Tryz.t3),rfl⟩ rfl
theorem q66:EqP Tryz.prog 66 (Uk [([.int .i64 0],false),([.int .i64 0],false)]) true 2:=QA Tryz.underlying66 (by kernel_rfl) ⟨_,(by kernel_rfl:Tryz.prog.info? 66 = some Tryz.t66),rfl⟩ (by decide) (xg.cons (by decide) rfl (q3.mono (by decide)) (xg.cons (by decide) rfl (q3.mono (by decide)) (xg.nil)))
def i66:EI:=⟨.struct [(0,3),(1,3)],2,16,some [.int .i64 0,.int .i64 0],true⟩
theorem zlJ:zdD Tryz.prog 66 i66:=⟨⟨Tryz.t66,by kernel_rfl,rfl,rfl,fun z h => by cases h; exact ⟨_,rfl,rfl,z1l rfl,rfl,⟨_,rfl⟩⟩⟩,⟨_,Tryz.underlying66,by kernel_rfl,by
  intro f hf
  simp only [List.mem_cons,List.not_mem_nil,or_false] at hf
  rcases hf with rfl | rfl
  ·exact ⟨Tryz.t3,by kernel_rfl⟩
  ·exact ⟨Tryz.t3,by kernel_rfl⟩⟩,fun _ => UY q66 rfl rfl (Nat.le_of_ble_eq_true (by kernel_rfl)) (by decide)⟩
theorem q67:EqP Tryz.prog 67 (Uk [([.int .i64 0],false),([.int .i64 0],false)]) true 2:=QA Tryz.underlying67 (by kernel_rfl) ⟨_,(by kernel_rfl:Tryz.prog.info? 67 = some Tryz.t67),rfl⟩ (by decide) (xg.cons (by decide) rfl (q3.mono (by decide)) (xg.cons (by decide) rfl (q3.mono (by decide)) (xg.nil)))
def i67:EI:=⟨.struct [(0,3),(1,3)],2,16,some [.int .i64 0,.int .i64 0],true⟩
theorem zh4:zdD Tryz.prog 67 i67:=⟨⟨Tryz.t67,by kernel_rfl,rfl,rfl,fun z h => by cases h; exact ⟨_,rfl,rfl,z1l rfl,rfl,⟨_,rfl⟩⟩⟩,⟨_,Tryz.underlying67,by kernel_rfl,by
  intro f hf
  simp only [List.mem_cons,List.not_mem_nil,or_false] at hf
  rcases hf with rfl | rfl
  ·exact ⟨Tryz.t3,by kernel_rfl⟩
  ·exact ⟨Tryz.t3,by kernel_rfl⟩⟩,fun _ => UY q67 rfl rfl (Nat.le_of_ble_eq_true (by kernel_rfl)) (by decide)⟩
theorem zjV:EqP Tryz.prog 171 (z8S 2 [.int .i64 0]) true 2:=KB Tryz.underlying171 q3 ⟨_,(by kernel_rfl:Tryz.prog.info? 171 = some Tryz.t171),rfl⟩
def zmE:EI:=⟨.array 2 3,2,16,some [.int .i64 0,.int .i64 0],true⟩
theorem zeX:zdD Tryz.prog 171 zmE:=⟨⟨Tryz.t171,by kernel_rfl,rfl,rfl,fun z h => by cases h; exact ⟨_,rfl,rfl,z1l rfl,rfl,⟨_,rfl⟩⟩⟩,Tryz.underlying171,fun _ => UY zjV rfl rfl (Nat.le_of_ble_eq_true (by kernel_rfl)) (by decide)⟩
theorem zmv:EqP Tryz.prog 189 (z8S 16 [.int .i64 0,.int .i64 0]) true 3:=KB Tryz.underlying189 zjV ⟨_,(by kernel_rfl:Tryz.prog.info? 189 = some Tryz.t189),rfl⟩
def zmD:EI:=⟨.array 16 171,32,256,some [.int .i64 0,.int .i64 0,.int .i64 0,.int .i64 0,.int .i64 0,.int .i64 0,.int .i64 0,.int .i64 0,.int .i64 0,.int .i64 0,.int .i64 0,.int .i64 0,.int .i64 0,.int .i64 0,.int .i64 0,.int .i64 0,.int .i64 0,.int .i64 0,.int .i64 0,.int .i64 0,.int .i64 0,.int .i64 0,.int .i64 0,.int .i64 0,.int .i64 0,.int .i64 0,.int .i64 0,.int .i64 0,.int .i64 0,.int .i64 0,.int .i64 0,.int .i64 0],true⟩
theorem zk9:zdD Tryz.prog 189 zmD:=⟨⟨Tryz.t189,by kernel_rfl,rfl,rfl,fun z h => by cases h; exact ⟨_,rfl,rfl,z1l rfl,rfl,⟨_,rfl⟩⟩⟩,Tryz.underlying189,fun _ => UY zmv rfl rfl (Nat.le_of_ble_eq_true (by kernel_rfl)) (by decide)⟩
theorem zjU:EqP Tryz.prog 190 (z8S 16 [.int .i64 0,.int .i64 0]) true 3:=KB Tryz.underlying190 zjV ⟨_,(by kernel_rfl:Tryz.prog.info? 190 = some Tryz.t190),rfl⟩
def zmC:EI:=⟨.array 16 171,32,256,some [.int .i64 0,.int .i64 0,.int .i64 0,.int .i64 0,.int .i64 0,.int .i64 0,.int .i64 0,.int .i64 0,.int .i64 0,.int .i64 0,.int .i64 0,.int .i64 0,.int .i64 0,.int .i64 0,.int .i64 0,.int .i64 0,.int .i64 0,.int .i64 0,.int .i64 0,.int .i64 0,.int .i64 0,.int .i64 0,.int .i64 0,.int .i64 0,.int .i64 0,.int .i64 0,.int .i64 0,.int .i64 0,.int .i64 0,.int .i64 0,.int .i64 0,.int .i64 0],true⟩
theorem zeW:zdD Tryz.prog 190 zmC:=⟨⟨Tryz.t190,by kernel_rfl,rfl,rfl,fun z h => by cases h; exact ⟨_,rfl,rfl,z1l rfl,rfl,⟨_,rfl⟩⟩⟩,Tryz.underlying190,fun _ => UY zjU rfl rfl (Nat.le_of_ble_eq_true (by kernel_rfl)) (by decide)⟩
theorem zmu:EqP Tryz.prog 192 (Uk [([.int .i64 0],false),([.int .i64 0,.int .i64 0,.int .i64 0,.int .i64 0,.int .i64 0,.int .i64 0,.int .i64 0,.int .i64 0,.int .i64 0,.int .i64 0,.int .i64 0,.int .i64 0,.int .i64 0,.int .i64 0,.int .i64 0,.int .i64 0,.int .i64 0,.int .i64 0,.int .i64 0,.int .i64 0,.int .i64 0,.int .i64 0,.int .i64 0,.int .i64 0,.int .i64 0,.int .i64 0,.int .i64 0,.int .i64 0,.int .i64 0,.int .i64 0,.int .i64 0,.int .i64 0],true)]) true 4:=QA Tryz.underlying192 (by kernel_rfl) ⟨_,(by kernel_rfl:Tryz.prog.info? 192 = some Tryz.t192),rfl⟩ (by decide) (xg.cons (by decide) rfl (q3.mono (by decide)) (xg.cons (by decide) rfl (zjU.mono (by decide)) (xg.nil)))
def zmB:EI:=⟨.struct [(0,3),(1,190)],33,264,some [.int .i64 0,.int .i64 0,.int .i64 0,.int .i64 0,.int .i64 0,.int .i64 0,.int .i64 0,.int .i64 0,.int .i64 0,.int .i64 0,.int .i64 0,.int .i64 0,.int .i64 0,.int .i64 0,.int .i64 0,.int .i64 0,.int .i64 0,.int .i64 0,.int .i64 0,.int .i64 0,.int .i64 0,.int .i64 0,.int .i64 0,.int .i64 0,.int .i64 0,.int .i64 0,.int .i64 0,.int .i64 0,.int .i64 0,.int .i64 0,.int .i64 0,.int .i64 0,.int .i64 0],true⟩
theorem zk8:zdD Tryz.prog 192 zmB:=⟨⟨Tryz.t192,by kernel_rfl,rfl,rfl,fun z h => by cases h; exact ⟨_,rfl,rfl,z1l rfl,rfl,⟨_,rfl⟩⟩⟩,⟨_,Tryz.underlying192,by kernel_rfl,by
  intro f hf
  simp only [List.mem_cons,List.not_mem_nil,or_false] at hf
  rcases hf with rfl | rfl
  ·exact ⟨Tryz.t3,by kernel_rfl⟩
  ·exact ⟨Tryz.t190,by kernel_rfl⟩⟩,fun _ => UY zmu rfl rfl (Nat.le_of_ble_eq_true (by kernel_rfl)) (by decide)⟩
theorem zmt:EqP Tryz.prog 193 (Uk [([.int .i64 0],false),([.int .i64 0,.int .i64 0,.int .i64 0,.int .i64 0,.int .i64 0,.int .i64 0,.int .i64 0,.int .i64 0,.int .i64 0,.int .i64 0,.int .i64 0,.int .i64 0,.int .i64 0,.int .i64 0,.int .i64 0,.int .i64 0,.int .i64 0,.int .i64 0,.int .i64 0,.int .i64 0,.int .i64 0,.int .i64 0,.int .i64 0,.int .i64 0,.int .i64 0,.int .i64 0,.int .i64 0,.int .i64 0,.int .i64 0,.int .i64 0,.int .i64 0,.int .i64 0],true)]) true 4:=QA Tryz.underlying193 (by kernel_rfl) ⟨_,(by kernel_rfl:Tryz.prog.info? 193 = some Tryz.t193),rfl⟩ (by decide) (xg.cons (by decide) rfl (q3.mono (by decide)) (xg.cons (by decide) rfl (zjU.mono (by decide)) (xg.nil)))
def zmA:EI:=⟨.struct [(0,3),(1,190)],33,264,some [.int .i64 0,.int .i64 0,.int .i64 0,.int .i64 0,.int .i64 0,.int .i64 0,.int .i64 0,.int .i64 0,.int .i64 0,.int .i64 0,.int .i64 0,.int .i64 0,.int .i64 0,.int .i64 0,.int .i64 0,.int .i64 0,.int .i64 0,.int .i64 0,.int .i64 0,.int .i64 0,.int .i64 0,.int .i64 0,.int .i64 0,.int .i64 0,.int .i64 0,.int .i64 0,.int .i64 0,.int .i64 0,.int .i64 0,.int .i64 0,.int .i64 0,.int .i64 0,.int .i64 0],true⟩
theorem zae:zdD Tryz.prog 193 zmA:=⟨⟨Tryz.t193,by kernel_rfl,rfl,rfl,fun z h => by cases h; exact ⟨_,rfl,rfl,z1l rfl,rfl,⟨_,rfl⟩⟩⟩,⟨_,Tryz.underlying193,by kernel_rfl,by
  intro f hf
  simp only [List.mem_cons,List.not_mem_nil,or_false] at hf
  rcases hf with rfl | rfl
  ·exact ⟨Tryz.t3,by kernel_rfl⟩
  ·exact ⟨Tryz.t190,by kernel_rfl⟩⟩,fun _ => UY zmt rfl rfl (Nat.le_of_ble_eq_true (by kernel_rfl)) (by decide)⟩
end Go.Ex

namespace Go.Own
open Go.Proofs
def zk7:Value → Bool
 | .int _ _ => true
 | _ => false
theorem z6o:∀ {z vs us:List Value} {r:Bool},z.all zk7 = true → z.length = vs.length → xF vs us = some r → Go.Ex.z5n z vs = true ∧ Go.Ex.xF vs us = some r
 | [],[],us,r,_,_,h => by
  cases us with
  | nil => simp only [xF,Option.some.injEq] at h; subst h; exact ⟨rfl,rfl⟩
  | cons u us => simp [xF] at h
 | a :: z,v :: vs,us,r,hz,hl,h => by
  have q:∃ k x u' k' y,v = .int k x ∧ us = .int k' y :: u' ∧ k = k':=by
   cases us with
   | nil => cases v <;> simp [xF] at h
   | cons u us =>
    cases v <;> cases u <;> simp [xF] at h
    exact ⟨_,_,_,_,_,rfl,rfl,h.1⟩
  obtain ⟨k,x,u',k',y,rfl,rfl,hk⟩:=q
  simp only [xF,hk,if_true,Option.map_eq_some_iff] at h
  obtain ⟨r',e1,rfl⟩:=h
  simp only [List.all_cons,Bool.and_eq_true] at hz
  obtain ⟨q1,q2⟩:=z6o hz.2 (by simpa using hl) e1
  refine ⟨?_,by simp [Go.Ex.xF,hk,q2]⟩
  cases a <;> first | (simp [zk7] at hz; done) | simpa [Go.Ex.z5n] using q1
 | [],_ :: _,_,_,_,hl,_ => by simp at hl
 | _ :: _,[],_,_,_,hl,_ => by simp at hl
theorem z54 {P:Program} {t n:Nat} {i:Go.Ex.EI} (h:Go.Ex.zdC P t i) {z:List Value} (hz:i.zero = some z) (hi:z.all zk7 = true) (hs:i.size = n) (hn:z.length = n):zdC P t n:={
 guard:=h.guard
 run:=fun vs us r w hv hu he => by
  obtain ⟨q1,q2⟩:=z6o hi (by rw [hn,hv]) he
  exact h.run vs us r w (by rw [hs]; exact hv) (by rw [hs]; exact hu) (by simpa only [Go.Ex.zkb,hz] using q1) q2 }
theorem ze {S:zi} {h:Array Obj} {v:Value} (hv:v.oneCell' = true):zH S h (.atom v) [v] []:=by simp only [zH,Rep]; exact ⟨⟨trivial,hv⟩,trivial⟩
theorem jr {S:zi} {h:Array Obj} (sz:Nat):zH S h (.osl sz true []) [.slice none 0 0] []:=by
 simp only [zH]
 exact ⟨none,0,rfl,(fun _ => rfl),Nat.le_refl _,Nat.zero_le _,by simp,.inl ⟨trivial,rfl,rfl,trivial⟩⟩
theorem z8i {S:zi} {h:Array Obj} {sz:Nat}:zH S h (.dop (nlQ sz [])) [.slice none 0 0] []:=by
 simp only [zH,Rep]
 exact ⟨⟨_,rfl,z9Z.2 ⟨by simp [Rep],fun _ => rfl⟩⟩,trivial⟩
theorem Q0 {S:zi} {h:Array Obj} {a:A} {c:List Value} (q:zH S h a c []):∀ n,zO S h (List.replicate n a) (List.replicate n c).flatten []
 | 0 => by simp [zO]
 | n + 1 => by
  rw [List.replicate_succ,List.replicate_succ,List.flatten_cons]
  simp only [zO]
  exact ⟨c,_,[],[],rfl,rfl,q,Q0 q n⟩
theorem zf6 {S:zi} {h:Array Obj} {a:A} {c c':List Value} (q:zH S h a c []) (e:c' = c):zH S h a c' []:=e ▸ q
theorem zM {S:zi} {h:Array Obj} {fs:List A} {cs:List Value} (q:zO S h fs cs []):zH S h (.agg fs) cs []:=by simpa only [zH] using q
theorem zD {S:zi} {h:Array Obj}:zO S h [] [] []:=by simp [zO]
theorem zc {S:zi} {h:Array Obj} {a:A} {fs:List A} {c1 c2:List Value} (q1:zH S h a c1 []) (q2:zO S h fs c2 []):zO S h (a :: fs) (c1 ++ c2) []:=by simp only [zO]; exact ⟨c1,c2,[],[],rfl,rfl,q1,q2⟩
def ti1:TI:=⟨.other,1,8,some (.atom .nilFunc),false⟩
theorem zfX:Zg Tryz.prog 1 ti1:=⟨⟨Tryz.t1,by kernel_rfl,rfl,rfl,fun z h => by cases h; exact ⟨_,rfl,rfl,fun S h => ze rfl⟩⟩,⟨_,Tryz.underlying1,rfl⟩,by intro h; cases h⟩
def ti2:TI:=⟨.int .i64,1,8,some (.atom (.int .i64 0)),false⟩
theorem zfW:Zg Tryz.prog 2 ti2:=⟨⟨Tryz.t2,by kernel_rfl,rfl,rfl,fun z h => by cases h; exact ⟨_,rfl,rfl,fun S h => ze rfl⟩⟩,Tryz.underlying2,by intro h; cases h⟩
def ti3:TI:=⟨.int .i64,1,8,some (.atom (.int .i64 0)),false⟩
theorem zfV:Zg Tryz.prog 3 ti3:=⟨⟨Tryz.t3,by kernel_rfl,rfl,rfl,fun z h => by cases h; exact ⟨_,rfl,rfl,fun S h => ze rfl⟩⟩,Tryz.underlying3,by intro h; cases h⟩
def ti4:TI:=⟨.bool,1,1,some (.atom (.bool false)),false⟩
theorem zfU:Zg Tryz.prog 4 ti4:=⟨⟨Tryz.t4,by kernel_rfl,rfl,rfl,fun z h => by cases h; exact ⟨_,rfl,rfl,fun S h => ze rfl⟩⟩,Tryz.underlying4,by intro h; cases h⟩
def ti5:TI:=⟨.int .u8,1,1,some (.atom (.int .u8 0)),false⟩
theorem zfT:Zg Tryz.prog 5 ti5:=⟨⟨Tryz.t5,by kernel_rfl,rfl,rfl,fun z h => by cases h; exact ⟨_,rfl,rfl,fun S h => ze rfl⟩⟩,Tryz.underlying5,by intro h; cases h⟩
def ti9:TI:=⟨.str,1,16,none,false⟩
theorem zfS:Zg Tryz.prog 9 ti9:=⟨⟨Tryz.t9,by kernel_rfl,rfl,rfl,fun z h => by cases h⟩,Tryz.underlying9,by intro h; cases h⟩
def zlm:TI:=⟨.other,1,16,some (.atom .nilIface),false⟩
theorem ze9:Zg Tryz.prog 20 zlm:=⟨⟨Tryz.t20,by kernel_rfl,rfl,rfl,fun z h => by cases h; exact ⟨_,rfl,rfl,fun S h => ze rfl⟩⟩,⟨_,Tryz.underlying20,rfl⟩,by intro h; cases h⟩
def zll:TI:=⟨.slice 68,1,24,some (.osl 1 true []),false⟩
theorem ze8:Zg Tryz.prog 28 zll:=⟨⟨Tryz.t28,by kernel_rfl,rfl,rfl,fun z h => by cases h; exact ⟨_,rfl,rfl,fun S h => jr _⟩⟩,Tryz.underlying28,by intro h; cases h⟩
def zlk:TI:=⟨.struct [(0,1),(1,1),(2,1)],3,40,some (.agg [.atom (.int .i64 0),.atom (.int .i64 0),.osl 1 true []]),false⟩
theorem ze7:Zg Tryz.prog 30 zlk:=⟨⟨Tryz.t30,by kernel_rfl,rfl,rfl,fun z h => by cases h; exact ⟨_,rfl,rfl,fun S h => zM (zc (ze rfl) (zc (ze rfl) (zc (jr _) (zD))))⟩⟩,⟨_,Tryz.underlying30,by kernel_rfl,by
  intro f hf
  simp only [List.mem_cons,List.not_mem_nil,or_false] at hf
  rcases hf with rfl | rfl | rfl
  ·exact ⟨Tryz.t3,by kernel_rfl⟩
  ·exact ⟨Tryz.t3,by kernel_rfl⟩
  ·exact ⟨Tryz.t28,by kernel_rfl⟩⟩,by intro h; cases h⟩
def zlj:TI:=⟨.slice 40,1,24,some (.osl 1 true []),false⟩
theorem ze6:Zg Tryz.prog 32 zlj:=⟨⟨Tryz.t32,by kernel_rfl,rfl,rfl,fun z h => by cases h; exact ⟨_,rfl,rfl,fun S h => jr _⟩⟩,Tryz.underlying32,by intro h; cases h⟩
def zli:TI:=⟨.int .i64,1,8,some (.atom (.int .i64 0)),false⟩
theorem ze5:Zg Tryz.prog 33 zli:=⟨⟨Tryz.t33,by kernel_rfl,rfl,rfl,fun z h => by cases h; exact ⟨_,rfl,rfl,fun S h => ze rfl⟩⟩,Tryz.underlying33,by intro h; cases h⟩
def zlh:TI:=⟨.slice 3,1,24,some (.osl 1 true []),false⟩
theorem ze4:Zg Tryz.prog 40 zlh:=⟨⟨Tryz.t40,by kernel_rfl,rfl,rfl,fun z h => by cases h; exact ⟨_,rfl,rfl,fun S h => jr _⟩⟩,Tryz.underlying40,by intro h; cases h⟩
def zlg:TI:=⟨.other,1,8,some (.atom .nilFunc),false⟩
theorem ze3:Zg Tryz.prog 41 zlg:=⟨⟨Tryz.t41,by kernel_rfl,rfl,rfl,fun z h => by cases h; exact ⟨_,rfl,rfl,fun S h => ze rfl⟩⟩,⟨_,Tryz.underlying41,rfl⟩,by intro h; cases h⟩
def zlf:TI:=⟨.other,1,8,some (.atom .nilFunc),false⟩
theorem ze2:Zg Tryz.prog 42 zlf:=⟨⟨Tryz.t42,by kernel_rfl,rfl,rfl,fun z h => by cases h; exact ⟨_,rfl,rfl,fun S h => ze rfl⟩⟩,⟨_,Tryz.underlying42,rfl⟩,by intro h; cases h⟩
def zle:TI:=⟨.other,1,8,some (.atom .nilFunc),false⟩
theorem ze1:Zg Tryz.prog 57 zle:=⟨⟨Tryz.t57,by kernel_rfl,rfl,rfl,fun z h => by cases h; exact ⟨_,rfl,rfl,fun S h => ze rfl⟩⟩,⟨_,Tryz.underlying57,rfl⟩,by intro h; cases h⟩
def zld:TI:=⟨.struct [(0,1),(1,1),(2,1)],3,56,some (.agg [.osl 1 true [],.osl 1 true [],.atom (.int .i64 0)]),false⟩
theorem ze0:Zg Tryz.prog 61 zld:=⟨⟨Tryz.t61,by kernel_rfl,rfl,rfl,fun z h => by cases h; exact ⟨_,rfl,rfl,fun S h => zM (zc (jr _) (zc (jr _) (zc (ze rfl) (zD))))⟩⟩,⟨_,Tryz.underlying61,by kernel_rfl,by
  intro f hf
  simp only [List.mem_cons,List.not_mem_nil,or_false] at hf
  rcases hf with rfl | rfl | rfl
  ·exact ⟨Tryz.t32,by kernel_rfl⟩
  ·exact ⟨Tryz.t32,by kernel_rfl⟩
  ·exact ⟨Tryz.t3,by kernel_rfl⟩⟩,by intro h; cases h⟩
def zlc:TI:=⟨.struct [(0,1),(1,1)],2,16,some (.agg [.atom (.int .i64 0),.atom (.int .i64 0)]),true⟩
theorem zdZ:Zg Tryz.prog 67 zlc:=⟨⟨Tryz.t67,by kernel_rfl,rfl,rfl,fun z h => by cases h; exact ⟨_,rfl,rfl,fun S h => zM (zc (ze rfl) (zc (ze rfl) (zD)))⟩⟩,⟨_,Tryz.underlying67,by kernel_rfl,by
  intro f hf
  simp only [List.mem_cons,List.not_mem_nil,or_false] at hf
  rcases hf with rfl | rfl
  ·exact ⟨Tryz.t3,by kernel_rfl⟩
  ·exact ⟨Tryz.t3,by kernel_rfl⟩⟩,fun _ => z54 (Go.Ex.zh4.eqn rfl) rfl rfl rfl rfl⟩
def zlb:TI:=⟨.slice 67,1,24,some (.osl 2 true []),false⟩
theorem zdY:Zg Tryz.prog 68 zlb:=⟨⟨Tryz.t68,by kernel_rfl,rfl,rfl,fun z h => by cases h; exact ⟨_,rfl,rfl,fun S h => jr _⟩⟩,Tryz.underlying68,by intro h; cases h⟩
def zla:TI:=⟨.other,1,8,some (.atom .nilFunc),false⟩
theorem zdX:Zg Tryz.prog 73 zla:=⟨⟨Tryz.t73,by kernel_rfl,rfl,rfl,fun z h => by cases h; exact ⟨_,rfl,rfl,fun S h => ze rfl⟩⟩,⟨_,Tryz.underlying73,rfl⟩,by intro h; cases h⟩
def zl9:TI:=⟨.slice 78,1,24,some (.osl 1 true []),false⟩
theorem zdW:Zg Tryz.prog 76 zl9:=⟨⟨Tryz.t76,by kernel_rfl,rfl,rfl,fun z h => by cases h; exact ⟨_,rfl,rfl,fun S h => jr _⟩⟩,Tryz.underlying76,by intro h; cases h⟩
def zl8:TI:=⟨.int .u64,1,8,some (.atom (.int .u64 0)),false⟩
theorem zdV:Zg Tryz.prog 78 zl8:=⟨⟨Tryz.t78,by kernel_rfl,rfl,rfl,fun z h => by cases h; exact ⟨_,rfl,rfl,fun S h => ze rfl⟩⟩,Tryz.underlying78,by intro h; cases h⟩
def zl7:TI:=⟨.other,1,8,some (.atom .nilFunc),false⟩
theorem zdU:Zg Tryz.prog 80 zl7:=⟨⟨Tryz.t80,by kernel_rfl,rfl,rfl,fun z h => by cases h; exact ⟨_,rfl,rfl,fun S h => ze rfl⟩⟩,⟨_,Tryz.underlying80,rfl⟩,by intro h; cases h⟩
def zl6:TI:=⟨.slice 32,1,24,some (.osl 1 true []),false⟩
theorem zdT:Zg Tryz.prog 82 zl6:=⟨⟨Tryz.t82,by kernel_rfl,rfl,rfl,fun z h => by cases h; exact ⟨_,rfl,rfl,fun S h => jr _⟩⟩,Tryz.underlying82,by intro h; cases h⟩
def zl5:TI:=⟨.other,1,8,some (.atom .nilFunc),false⟩
theorem zdS:Zg Tryz.prog 83 zl5:=⟨⟨Tryz.t83,by kernel_rfl,rfl,rfl,fun z h => by cases h; exact ⟨_,rfl,rfl,fun S h => ze rfl⟩⟩,⟨_,Tryz.underlying83,rfl⟩,by intro h; cases h⟩
def zl4:TI:=⟨.other,1,8,some (.atom .nilFunc),false⟩
theorem zdR:Zg Tryz.prog 84 zl4:=⟨⟨Tryz.t84,by kernel_rfl,rfl,rfl,fun z h => by cases h; exact ⟨_,rfl,rfl,fun S h => ze rfl⟩⟩,⟨_,Tryz.underlying84,rfl⟩,by intro h; cases h⟩
def zl3:TI:=⟨.other,1,8,some (.atom .nilFunc),false⟩
theorem zdQ:Zg Tryz.prog 93 zl3:=⟨⟨Tryz.t93,by kernel_rfl,rfl,rfl,fun z h => by cases h; exact ⟨_,rfl,rfl,fun S h => ze rfl⟩⟩,⟨_,Tryz.underlying93,rfl⟩,by intro h; cases h⟩
def zl2:TI:=⟨.struct [(0,1),(1,1)],2,16,some (.agg [.atom (.int .i64 0),.atom .nilFunc]),false⟩
theorem zdP:Zg Tryz.prog 95 zl2:=⟨⟨Tryz.t95,by kernel_rfl,rfl,rfl,fun z h => by cases h; exact ⟨_,rfl,rfl,fun S h => zM (zc (ze rfl) (zc (ze rfl) (zD)))⟩⟩,⟨_,Tryz.underlying95,by kernel_rfl,by
  intro f hf
  simp only [List.mem_cons,List.not_mem_nil,or_false] at hf
  rcases hf with rfl | rfl
  ·exact ⟨Tryz.t33,by kernel_rfl⟩
  ·exact ⟨Tryz.t42,by kernel_rfl⟩⟩,by intro h; cases h⟩
def zl1:TI:=⟨.array 3 95,6,48,some (.agg [.agg [.atom (.int .i64 0),.atom .nilFunc],.agg [.atom (.int .i64 0),.atom .nilFunc],.agg [.atom (.int .i64 0),.atom .nilFunc]]),false⟩
theorem zdO:Zg Tryz.prog 96 zl1:=⟨⟨Tryz.t96,by kernel_rfl,rfl,rfl,fun z h => by cases h; exact ⟨_,rfl,rfl,fun S h => zM (zc (zM (zc (ze rfl) (zc (ze rfl) (zD)))) (zc (zM (zc (ze rfl) (zc (ze rfl) (zD)))) (zc (zM (zc (ze rfl) (zc (ze rfl) (zD)))) (zD))))⟩⟩,Tryz.underlying96,by intro h; cases h⟩
def zl0:TI:=⟨.other,1,8,some (.atom .nilFunc),false⟩
theorem zdN:Zg Tryz.prog 97 zl0:=⟨⟨Tryz.t97,by kernel_rfl,rfl,rfl,fun z h => by cases h; exact ⟨_,rfl,rfl,fun S h => ze rfl⟩⟩,⟨_,Tryz.underlying97,rfl⟩,by intro h; cases h⟩
def zkZ:TI:=⟨.other,1,8,some (.atom .nilFunc),false⟩
theorem zdM:Zg Tryz.prog 99 zkZ:=⟨⟨Tryz.t99,by kernel_rfl,rfl,rfl,fun z h => by cases h; exact ⟨_,rfl,rfl,fun S h => ze rfl⟩⟩,⟨_,Tryz.underlying99,rfl⟩,by intro h; cases h⟩
def zgq:TI:=⟨.int .u32,1,4,some (.atom (.int .u32 0)),false⟩
theorem zbC:Zg Tryz.prog 104 zgq:=⟨⟨Tryz.t104,by kernel_rfl,rfl,rfl,fun z h => by cases h; exact ⟨_,rfl,rfl,fun S h => ze rfl⟩⟩,Tryz.underlying104,by intro h; cases h⟩
def zgp:TI:=⟨.int .u64,1,8,some (.atom (.int .u64 0)),false⟩
theorem zbB:Zg Tryz.prog 106 zgp:=⟨⟨Tryz.t106,by kernel_rfl,rfl,rfl,fun z h => by cases h; exact ⟨_,rfl,rfl,fun S h => ze rfl⟩⟩,Tryz.underlying106,by intro h; cases h⟩
def zgo:TI:=⟨.slice 4,1,24,some (.osl 1 true []),false⟩
theorem zbA:Zg Tryz.prog 111 zgo:=⟨⟨Tryz.t111,by kernel_rfl,rfl,rfl,fun z h => by cases h; exact ⟨_,rfl,rfl,fun S h => jr _⟩⟩,Tryz.underlying111,by intro h; cases h⟩
def zgn:TI:=⟨.other,1,8,some (.atom .nilFunc),false⟩
theorem zbz:Zg Tryz.prog 120 zgn:=⟨⟨Tryz.t120,by kernel_rfl,rfl,rfl,fun z h => by cases h; exact ⟨_,rfl,rfl,fun S h => ze rfl⟩⟩,⟨_,Tryz.underlying120,rfl⟩,by intro h; cases h⟩
def zgm:TI:=⟨.array 64 40,64,1536,some (.agg (List.replicate 64 (.dop (nlQ 1 [])))),false⟩
theorem zby:Zg Tryz.prog 125 zgm:=⟨⟨Tryz.t125,by kernel_rfl,rfl,rfl,fun z h => by cases h; exact ⟨_,rfl,by kernel_rfl,fun S h => zf6 (zM (Q0 (z8i) 64)) (by kernel_rfl)⟩⟩,Tryz.underlying125,by intro h; cases h⟩
def zgl:TI:=⟨.ptr 154,1,8,some (.atom (.pointer none)),false⟩
theorem zbx:Zg Tryz.prog 126 zgl:=⟨⟨Tryz.t126,by kernel_rfl,rfl,rfl,fun z h => by cases h; exact ⟨_,rfl,rfl,fun S h => ze rfl⟩⟩,Tryz.underlying126,by intro h; cases h⟩
def zgk:TI:=⟨.other,1,8,some (.atom .nilFunc),false⟩
theorem zbw:Zg Tryz.prog 127 zgk:=⟨⟨Tryz.t127,by kernel_rfl,rfl,rfl,fun z h => by cases h; exact ⟨_,rfl,rfl,fun S h => ze rfl⟩⟩,⟨_,Tryz.underlying127,rfl⟩,by intro h; cases h⟩
def zgj:TI:=⟨.other,1,8,some (.atom .nilFunc),false⟩
theorem zbv:Zg Tryz.prog 131 zgj:=⟨⟨Tryz.t131,by kernel_rfl,rfl,rfl,fun z h => by cases h; exact ⟨_,rfl,rfl,fun S h => ze rfl⟩⟩,⟨_,Tryz.underlying131,rfl⟩,by intro h; cases h⟩
def zgi:TI:=⟨.slice 111,1,24,some (.osl 1 true []),false⟩
theorem zbu:Zg Tryz.prog 136 zgi:=⟨⟨Tryz.t136,by kernel_rfl,rfl,rfl,fun z h => by cases h; exact ⟨_,rfl,rfl,fun S h => jr _⟩⟩,Tryz.underlying136,by intro h; cases h⟩
def zgh:TI:=⟨.slice 171,1,24,some (.osl 2 true []),false⟩
theorem zbt:Zg Tryz.prog 144 zgh:=⟨⟨Tryz.t144,by kernel_rfl,rfl,rfl,fun z h => by cases h; exact ⟨_,rfl,rfl,fun S h => jr _⟩⟩,Tryz.underlying144,by intro h; cases h⟩
def zgg:TI:=⟨.other,1,8,some (.atom .nilFunc),false⟩
theorem zbs:Zg Tryz.prog 146 zgg:=⟨⟨Tryz.t146,by kernel_rfl,rfl,rfl,fun z h => by cases h; exact ⟨_,rfl,rfl,fun S h => ze rfl⟩⟩,⟨_,Tryz.underlying146,rfl⟩,by intro h; cases h⟩
def zgf:TI:=⟨.other,1,8,some (.atom .nilFunc),false⟩
theorem zbr:Zg Tryz.prog 147 zgf:=⟨⟨Tryz.t147,by kernel_rfl,rfl,rfl,fun z h => by cases h; exact ⟨_,rfl,rfl,fun S h => ze rfl⟩⟩,⟨_,Tryz.underlying147,rfl⟩,by intro h; cases h⟩
def zge:TI:=⟨.other,1,8,some (.atom .nilFunc),false⟩
theorem zbq:Zg Tryz.prog 148 zge:=⟨⟨Tryz.t148,by kernel_rfl,rfl,rfl,fun z h => by cases h; exact ⟨_,rfl,rfl,fun S h => ze rfl⟩⟩,⟨_,Tryz.underlying148,rfl⟩,by intro h; cases h⟩
def zgd:TI:=⟨.other,1,8,some (.atom .nilFunc),false⟩
theorem zbp:Zg Tryz.prog 149 zgd:=⟨⟨Tryz.t149,by kernel_rfl,rfl,rfl,fun z h => by cases h; exact ⟨_,rfl,rfl,fun S h => ze rfl⟩⟩,⟨_,Tryz.underlying149,rfl⟩,by intro h; cases h⟩
def zgc:TI:=⟨.other,1,8,some (.atom .nilFunc),false⟩
theorem zbo:Zg Tryz.prog 150 zgc:=⟨⟨Tryz.t150,by kernel_rfl,rfl,rfl,fun z h => by cases h; exact ⟨_,rfl,rfl,fun S h => ze rfl⟩⟩,⟨_,Tryz.underlying150,rfl⟩,by intro h; cases h⟩
def zgb:TI:=⟨.other,1,8,some (.atom .nilFunc),false⟩
theorem zbn:Zg Tryz.prog 152 zgb:=⟨⟨Tryz.t152,by kernel_rfl,rfl,rfl,fun z h => by cases h; exact ⟨_,rfl,rfl,fun S h => ze rfl⟩⟩,⟨_,Tryz.underlying152,rfl⟩,by intro h; cases h⟩
def zga:TI:=⟨.array 64 125,4096,98304,some (.agg (List.replicate 64 (.agg (List.replicate 64 (.dop (nlQ 1 [])))))),false⟩
theorem zbm:Zg Tryz.prog 154 zga:=⟨⟨Tryz.t154,by kernel_rfl,rfl,rfl,fun z h => by cases h; exact ⟨_,rfl,by kernel_rfl,fun S h => zf6 (zM (Q0 (zM (Q0 (z8i) 64)) 64)) (by kernel_rfl)⟩⟩,Tryz.underlying154,by intro h; cases h⟩
def zg9:TI:=⟨.slice 159,1,24,some (.osl 4 true []),false⟩
theorem zbl:Zg Tryz.prog 155 zg9:=⟨⟨Tryz.t155,by kernel_rfl,rfl,rfl,fun z h => by cases h; exact ⟨_,rfl,rfl,fun S h => jr _⟩⟩,Tryz.underlying155,by intro h; cases h⟩
def zg8:TI:=⟨.struct [(0,1),(1,1),(2,1),(3,1)],4,48,some (.agg [.atom (.int .i64 0),.atom (.int .i64 0),.osl 1 true [],.atom (.bool false)]),false⟩
theorem zbk:Zg Tryz.prog 159 zg8:=⟨⟨Tryz.t159,by kernel_rfl,rfl,rfl,fun z h => by cases h; exact ⟨_,rfl,rfl,fun S h => zM (zc (ze rfl) (zc (ze rfl) (zc (jr _) (zc (ze rfl) (zD)))))⟩⟩,⟨_,Tryz.underlying159,by kernel_rfl,by
  intro f hf
  simp only [List.mem_cons,List.not_mem_nil,or_false] at hf
  rcases hf with rfl | rfl | rfl | rfl
  ·exact ⟨Tryz.t3,by kernel_rfl⟩
  ·exact ⟨Tryz.t3,by kernel_rfl⟩
  ·exact ⟨Tryz.t40,by kernel_rfl⟩
  ·exact ⟨Tryz.t4,by kernel_rfl⟩⟩,by intro h; cases h⟩
def zg7:TI:=⟨.array 64 5,64,64,some (.agg (List.replicate 64 (.atom (.int .u8 0)))),false⟩
theorem zbj:Zg Tryz.prog 162 zg7:=⟨⟨Tryz.t162,by kernel_rfl,rfl,rfl,fun z h => by cases h; exact ⟨_,rfl,by kernel_rfl,fun S h => zf6 (zM (Q0 (ze rfl) 64)) (by kernel_rfl)⟩⟩,Tryz.underlying162,by intro h; cases h⟩
def zg6:TI:=⟨.other,1,8,some (.atom .nilFunc),false⟩
theorem zbi:Zg Tryz.prog 166 zg6:=⟨⟨Tryz.t166,by kernel_rfl,rfl,rfl,fun z h => by cases h; exact ⟨_,rfl,rfl,fun S h => ze rfl⟩⟩,⟨_,Tryz.underlying166,rfl⟩,by intro h; cases h⟩
def zg5:TI:=⟨.other,1,8,some (.atom .nilFunc),false⟩
theorem zbh:Zg Tryz.prog 168 zg5:=⟨⟨Tryz.t168,by kernel_rfl,rfl,rfl,fun z h => by cases h; exact ⟨_,rfl,rfl,fun S h => ze rfl⟩⟩,⟨_,Tryz.underlying168,rfl⟩,by intro h; cases h⟩
def zg4:TI:=⟨.other,1,8,some (.atom .nilFunc),false⟩
theorem zbg:Zg Tryz.prog 169 zg4:=⟨⟨Tryz.t169,by kernel_rfl,rfl,rfl,fun z h => by cases h; exact ⟨_,rfl,rfl,fun S h => ze rfl⟩⟩,⟨_,Tryz.underlying169,rfl⟩,by intro h; cases h⟩
def zg3:TI:=⟨.array 2 3,2,16,some (.agg [.atom (.int .i64 0),.atom (.int .i64 0)]),true⟩
theorem zbf:Zg Tryz.prog 171 zg3:=⟨⟨Tryz.t171,by kernel_rfl,rfl,rfl,fun z h => by cases h; exact ⟨_,rfl,rfl,fun S h => zM (zc (ze rfl) (zc (ze rfl) (zD)))⟩⟩,Tryz.underlying171,fun _ => z54 (Go.Ex.zeX.eqn rfl) rfl rfl rfl rfl⟩
def zg2:TI:=⟨.other,1,8,some (.atom .nilFunc),false⟩
theorem zbe:Zg Tryz.prog 174 zg2:=⟨⟨Tryz.t174,by kernel_rfl,rfl,rfl,fun z h => by cases h; exact ⟨_,rfl,rfl,fun S h => ze rfl⟩⟩,⟨_,Tryz.underlying174,rfl⟩,by intro h; cases h⟩
def zg1:TI:=⟨.other,1,8,some (.atom .nilFunc),false⟩
theorem zbd:Zg Tryz.prog 187 zg1:=⟨⟨Tryz.t187,by kernel_rfl,rfl,rfl,fun z h => by cases h; exact ⟨_,rfl,rfl,fun S h => ze rfl⟩⟩,⟨_,Tryz.underlying187,rfl⟩,by intro h; cases h⟩
def zg0:TI:=⟨.other,1,8,some (.atom (.map none)),false⟩
theorem zbc:Zg Tryz.prog 188 zg0:=⟨⟨Tryz.t188,by kernel_rfl,rfl,rfl,fun z h => by cases h; exact ⟨_,rfl,rfl,fun S h => ze rfl⟩⟩,⟨_,Tryz.underlying188,rfl⟩,by intro h; cases h⟩
def zfZ:TI:=⟨.array 16 171,32,256,some (.agg [.agg [.atom (.int .i64 0),.atom (.int .i64 0)],.agg [.atom (.int .i64 0),.atom (.int .i64 0)],.agg [.atom (.int .i64 0),.atom (.int .i64 0)],.agg [.atom (.int .i64 0),.atom (.int .i64 0)],.agg [.atom (.int .i64 0),.atom (.int .i64 0)],.agg [.atom (.int .i64 0),.atom (.int .i64 0)],.agg [.atom (.int .i64 0),.atom (.int .i64 0)],.agg [.atom (.int .i64 0),.atom (.int .i64 0)],.agg [.atom (.int .i64 0),.atom (.int .i64 0)],.agg [.atom (.int .i64 0),.atom (.int .i64 0)],.agg [.atom (.int .i64 0),.atom (.int .i64 0)],.agg [.atom (.int .i64 0),.atom (.int .i64 0)],.agg [.atom (.int .i64 0),.atom (.int .i64 0)],.agg [.atom (.int .i64 0),.atom (.int .i64 0)],.agg [.atom (.int .i64 0),.atom (.int .i64 0)],.agg [.atom (.int .i64 0),.atom (.int .i64 0)]]),true⟩
theorem zbb:Zg Tryz.prog 190 zfZ:=⟨⟨Tryz.t190,by kernel_rfl,rfl,rfl,fun z h => by cases h; exact ⟨_,rfl,rfl,fun S h => zM (zc (zM (zc (ze rfl) (zc (ze rfl) (zD)))) (zc (zM (zc (ze rfl) (zc (ze rfl) (zD)))) (zc (zM (zc (ze rfl) (zc (ze rfl) (zD)))) (zc (zM (zc (ze rfl) (zc (ze rfl) (zD)))) (zc (zM (zc (ze rfl) (zc (ze rfl) (zD)))) (zc (zM (zc (ze rfl) (zc (ze rfl) (zD)))) (zc (zM (zc (ze rfl) (zc (ze rfl) (zD)))) (zc (zM (zc (ze rfl) (zc (ze rfl) (zD)))) (zc (zM (zc (ze rfl) (zc (ze rfl) (zD)))) (zc (zM (zc (ze rfl) (zc (ze rfl) (zD)))) (zc (zM (zc (ze rfl) (zc (ze rfl) (zD)))) (zc (zM (zc (ze rfl) (zc (ze rfl) (zD)))) (zc (zM (zc (ze rfl) (zc (ze rfl) (zD)))) (zc (zM (zc (ze rfl) (zc (ze rfl) (zD)))) (zc (zM (zc (ze rfl) (zc (ze rfl) (zD)))) (zc (zM (zc (ze rfl) (zc (ze rfl) (zD)))) (zD)))))))))))))))))⟩⟩,Tryz.underlying190,fun _ => z54 (Go.Ex.zeW.eqn rfl) rfl rfl rfl rfl⟩
def zfY:TI:=⟨.struct [(0,1),(1,32)],33,264,some (.agg [.atom (.int .i64 0),.agg [.agg [.atom (.int .i64 0),.atom (.int .i64 0)],.agg [.atom (.int .i64 0),.atom (.int .i64 0)],.agg [.atom (.int .i64 0),.atom (.int .i64 0)],.agg [.atom (.int .i64 0),.atom (.int .i64 0)],.agg [.atom (.int .i64 0),.atom (.int .i64 0)],.agg [.atom (.int .i64 0),.atom (.int .i64 0)],.agg [.atom (.int .i64 0),.atom (.int .i64 0)],.agg [.atom (.int .i64 0),.atom (.int .i64 0)],.agg [.atom (.int .i64 0),.atom (.int .i64 0)],.agg [.atom (.int .i64 0),.atom (.int .i64 0)],.agg [.atom (.int .i64 0),.atom (.int .i64 0)],.agg [.atom (.int .i64 0),.atom (.int .i64 0)],.agg [.atom (.int .i64 0),.atom (.int .i64 0)],.agg [.atom (.int .i64 0),.atom (.int .i64 0)],.agg [.atom (.int .i64 0),.atom (.int .i64 0)],.agg [.atom (.int .i64 0),.atom (.int .i64 0)]]]),true⟩
theorem z7r:Zg Tryz.prog 193 zfY:=⟨⟨Tryz.t193,by kernel_rfl,rfl,rfl,fun z h => by cases h; exact ⟨_,rfl,rfl,fun S h => zM (zc (ze rfl) (zc (zM (zc (zM (zc (ze rfl) (zc (ze rfl) (zD)))) (zc (zM (zc (ze rfl) (zc (ze rfl) (zD)))) (zc (zM (zc (ze rfl) (zc (ze rfl) (zD)))) (zc (zM (zc (ze rfl) (zc (ze rfl) (zD)))) (zc (zM (zc (ze rfl) (zc (ze rfl) (zD)))) (zc (zM (zc (ze rfl) (zc (ze rfl) (zD)))) (zc (zM (zc (ze rfl) (zc (ze rfl) (zD)))) (zc (zM (zc (ze rfl) (zc (ze rfl) (zD)))) (zc (zM (zc (ze rfl) (zc (ze rfl) (zD)))) (zc (zM (zc (ze rfl) (zc (ze rfl) (zD)))) (zc (zM (zc (ze rfl) (zc (ze rfl) (zD)))) (zc (zM (zc (ze rfl) (zc (ze rfl) (zD)))) (zc (zM (zc (ze rfl) (zc (ze rfl) (zD)))) (zc (zM (zc (ze rfl) (zc (ze rfl) (zD)))) (zc (zM (zc (ze rfl) (zc (ze rfl) (zD)))) (zc (zM (zc (ze rfl) (zc (ze rfl) (zD)))) (zD)))))))))))))))))) (zD)))⟩⟩,⟨_,Tryz.underlying193,by kernel_rfl,by
  intro f hf
  simp only [List.mem_cons,List.not_mem_nil,or_false] at hf
  rcases hf with rfl | rfl
  ·exact ⟨Tryz.t3,by kernel_rfl⟩
  ·exact ⟨Tryz.t190,by kernel_rfl⟩⟩,fun _ => z54 (Go.Ex.zae.eqn rfl) rfl rfl rfl rfl⟩
def tiL:List (Nat × TI):=[(1,ti1),(2,ti2),(3,ti3),(4,ti4),(5,ti5),(9,ti9),(20,zlm),(28,zll),(30,zlk),(32,zlj),(33,zli),(40,zlh),(41,zlg),(42,zlf),(57,zle),(61,zld),(67,zlc),(68,zlb),(73,zla),(76,zl9),(78,zl8),(80,zl7),(82,zl6),(83,zl5),(84,zl4),(93,zl3),(95,zl2),(96,zl1),(97,zl0),(99,zkZ),(104,zgq),(106,zgp),(111,zgo),(120,zgn),(125,zgm),(126,zgl),(127,zgk),(131,zgj),(136,zgi),(144,zgh),(146,zgg),(147,zgf),(148,zge),(149,zgd),(150,zgc),(152,zgb),(154,zga),(155,zg9),(159,zg8),(162,zg7),(166,zg6),(168,zg5),(169,zg4),(171,zg3),(174,zg2),(187,zg1),(188,zg0),(190,zfZ),(193,zfY)]
def yN:TT:=fun t => (tiL.find? fun p => p.1 == t).map (·.2)
def zaZ (P:Program):List (Nat × TI) → Prop
 | [] => True
 | p :: l => Zg P p.1 p.2 ∧ zaZ P l
theorem zaZ.mem {P:Program}:∀ {l:List (Nat × TI)},zaZ P l → ∀ p ∈ l,Zg P p.1 p.2
 | p :: _,h,q,hq => by
  rcases List.mem_cons.1 hq with rfl | hq
  ·exact h.1
  ·exact zaZ.mem h.2 q hq
 | [],_,_,hq => by cases hq
theorem zfR:zaZ Tryz.prog tiL:=⟨zfX,zfW,zfV,zfU,zfT,zfS,ze9,ze8,ze7,ze6,ze5,ze4,ze3,ze2,ze1,ze0,zdZ,zdY,zdX,zdW,zdV,zdU,zdT,zdS,zdR,zdQ,zdP,zdO,zdN,zdM,zbC,zbB,zbA,zbz,zby,zbx,zbw,zbv,zbu,zbt,zbs,zbr,zbq,zbp,zbo,zbn,zbm,zbl,zbk,zbj,zbi,zbh,zbg,zbf,zbe,zbd,zbc,zbb,z7r,trivial⟩
theorem zy:v8 Tryz.prog yN:=by
 intro t i h
 unfold yN at h
 rw [Option.map_eq_some_iff] at h
 obtain ⟨p,h1,rfl⟩:=h
 have h2:=List.find?_some h1
 have h3:=zfR.mem p (List.mem_of_find?_eq_some h1)
 rw [beq_iff_eq.1 h2] at h3
 exact h3
theorem zmN:yN 1 = some ⟨.other,1,8,some (.atom .nilFunc),false⟩:=rfl
theorem zmM:yN 2 = some ⟨.int .i64,1,8,some (.atom (.int .i64 0)),false⟩:=rfl
theorem zmL:yN 3 = some ⟨.int .i64,1,8,some (.atom (.int .i64 0)),false⟩:=rfl
theorem zmK:yN 4 = some ⟨.bool,1,1,some (.atom (.bool false)),false⟩:=rfl
theorem zmJ:yN 5 = some ⟨.int .u8,1,1,some (.atom (.int .u8 0)),false⟩:=rfl
theorem zmI:yN 9 = some ⟨.str,1,16,none,false⟩:=rfl
theorem zkG:yN 20 = some ⟨.other,1,16,some (.atom .nilIface),false⟩:=rfl
theorem zkF:yN 28 = some ⟨.slice 68,1,24,some (.osl 1 true []),false⟩:=rfl
theorem zkE:yN 30 = some ⟨.struct [(0,1),(1,1),(2,1)],3,40,some (.agg [.atom (.int .i64 0),.atom (.int .i64 0),.osl 1 true []]),false⟩:=rfl
theorem zkD:yN 32 = some ⟨.slice 40,1,24,some (.osl 1 true []),false⟩:=rfl
theorem zkC:yN 33 = some ⟨.int .i64,1,8,some (.atom (.int .i64 0)),false⟩:=rfl
theorem zkB:yN 40 = some ⟨.slice 3,1,24,some (.osl 1 true []),false⟩:=rfl
theorem zkA:yN 41 = some ⟨.other,1,8,some (.atom .nilFunc),false⟩:=rfl
theorem zkz:yN 42 = some ⟨.other,1,8,some (.atom .nilFunc),false⟩:=rfl
theorem zky:yN 57 = some ⟨.other,1,8,some (.atom .nilFunc),false⟩:=rfl
theorem zkx:yN 61 = some ⟨.struct [(0,1),(1,1),(2,1)],3,56,some (.agg [.osl 1 true [],.osl 1 true [],.atom (.int .i64 0)]),false⟩:=rfl
theorem zkw:yN 67 = some ⟨.struct [(0,1),(1,1)],2,16,some (.agg [.atom (.int .i64 0),.atom (.int .i64 0)]),true⟩:=rfl
theorem zkv:yN 68 = some ⟨.slice 67,1,24,some (.osl 2 true []),false⟩:=rfl
theorem zku:yN 73 = some ⟨.other,1,8,some (.atom .nilFunc),false⟩:=rfl
theorem zkt:yN 76 = some ⟨.slice 78,1,24,some (.osl 1 true []),false⟩:=rfl
theorem zks:yN 78 = some ⟨.int .u64,1,8,some (.atom (.int .u64 0)),false⟩:=rfl
theorem zkr:yN 80 = some ⟨.other,1,8,some (.atom .nilFunc),false⟩:=rfl
theorem zkq:yN 82 = some ⟨.slice 32,1,24,some (.osl 1 true []),false⟩:=rfl
theorem zkp:yN 83 = some ⟨.other,1,8,some (.atom .nilFunc),false⟩:=rfl
theorem zko:yN 84 = some ⟨.other,1,8,some (.atom .nilFunc),false⟩:=rfl
theorem zkn:yN 93 = some ⟨.other,1,8,some (.atom .nilFunc),false⟩:=rfl
theorem zkm:yN 95 = some ⟨.struct [(0,1),(1,1)],2,16,some (.agg [.atom (.int .i64 0),.atom .nilFunc]),false⟩:=rfl
theorem zkl:yN 96 = some ⟨.array 3 95,6,48,some (.agg [.agg [.atom (.int .i64 0),.atom .nilFunc],.agg [.atom (.int .i64 0),.atom .nilFunc],.agg [.atom (.int .i64 0),.atom .nilFunc]]),false⟩:=rfl
theorem zkk:yN 97 = some ⟨.other,1,8,some (.atom .nilFunc),false⟩:=rfl
theorem zkj:yN 99 = some ⟨.other,1,8,some (.atom .nilFunc),false⟩:=rfl
theorem zhO:yN 104 = some ⟨.int .u32,1,4,some (.atom (.int .u32 0)),false⟩:=rfl
theorem zhN:yN 106 = some ⟨.int .u64,1,8,some (.atom (.int .u64 0)),false⟩:=rfl
theorem zhM:yN 111 = some ⟨.slice 4,1,24,some (.osl 1 true []),false⟩:=rfl
theorem zhL:yN 120 = some ⟨.other,1,8,some (.atom .nilFunc),false⟩:=rfl
theorem zhK:yN 125 = some ⟨.array 64 40,64,1536,some (.agg (List.replicate 64 (.dop (nlQ 1 [])))),false⟩:=rfl
theorem zhJ:yN 126 = some ⟨.ptr 154,1,8,some (.atom (.pointer none)),false⟩:=rfl
theorem zhI:yN 127 = some ⟨.other,1,8,some (.atom .nilFunc),false⟩:=rfl
theorem zhH:yN 131 = some ⟨.other,1,8,some (.atom .nilFunc),false⟩:=rfl
theorem zhG:yN 136 = some ⟨.slice 111,1,24,some (.osl 1 true []),false⟩:=rfl
theorem zhF:yN 144 = some ⟨.slice 171,1,24,some (.osl 2 true []),false⟩:=rfl
theorem zhE:yN 146 = some ⟨.other,1,8,some (.atom .nilFunc),false⟩:=rfl
theorem zhD:yN 147 = some ⟨.other,1,8,some (.atom .nilFunc),false⟩:=rfl
theorem zhC:yN 148 = some ⟨.other,1,8,some (.atom .nilFunc),false⟩:=rfl
theorem zhB:yN 149 = some ⟨.other,1,8,some (.atom .nilFunc),false⟩:=rfl
theorem zhA:yN 150 = some ⟨.other,1,8,some (.atom .nilFunc),false⟩:=rfl
theorem zhz:yN 152 = some ⟨.other,1,8,some (.atom .nilFunc),false⟩:=rfl
theorem zhy:yN 154 = some ⟨.array 64 125,4096,98304,some (.agg (List.replicate 64 (.agg (List.replicate 64 (.dop (nlQ 1 [])))))),false⟩:=rfl
theorem zhx:yN 155 = some ⟨.slice 159,1,24,some (.osl 4 true []),false⟩:=rfl
theorem zhw:yN 159 = some ⟨.struct [(0,1),(1,1),(2,1),(3,1)],4,48,some (.agg [.atom (.int .i64 0),.atom (.int .i64 0),.osl 1 true [],.atom (.bool false)]),false⟩:=rfl
theorem zhv:yN 162 = some ⟨.array 64 5,64,64,some (.agg (List.replicate 64 (.atom (.int .u8 0)))),false⟩:=rfl
theorem zhu:yN 166 = some ⟨.other,1,8,some (.atom .nilFunc),false⟩:=rfl
theorem zht:yN 168 = some ⟨.other,1,8,some (.atom .nilFunc),false⟩:=rfl
theorem zhs:yN 169 = some ⟨.other,1,8,some (.atom .nilFunc),false⟩:=rfl
theorem zhr:yN 171 = some ⟨.array 2 3,2,16,some (.agg [.atom (.int .i64 0),.atom (.int .i64 0)]),true⟩:=rfl
theorem zhq:yN 174 = some ⟨.other,1,8,some (.atom .nilFunc),false⟩:=rfl
theorem zhp:yN 187 = some ⟨.other,1,8,some (.atom .nilFunc),false⟩:=rfl
theorem zho:yN 188 = some ⟨.other,1,8,some (.atom (.map none)),false⟩:=rfl
theorem zhn:yN 190 = some ⟨.array 16 171,32,256,some (.agg [.agg [.atom (.int .i64 0),.atom (.int .i64 0)],.agg [.atom (.int .i64 0),.atom (.int .i64 0)],.agg [.atom (.int .i64 0),.atom (.int .i64 0)],.agg [.atom (.int .i64 0),.atom (.int .i64 0)],.agg [.atom (.int .i64 0),.atom (.int .i64 0)],.agg [.atom (.int .i64 0),.atom (.int .i64 0)],.agg [.atom (.int .i64 0),.atom (.int .i64 0)],.agg [.atom (.int .i64 0),.atom (.int .i64 0)],.agg [.atom (.int .i64 0),.atom (.int .i64 0)],.agg [.atom (.int .i64 0),.atom (.int .i64 0)],.agg [.atom (.int .i64 0),.atom (.int .i64 0)],.agg [.atom (.int .i64 0),.atom (.int .i64 0)],.agg [.atom (.int .i64 0),.atom (.int .i64 0)],.agg [.atom (.int .i64 0),.atom (.int .i64 0)],.agg [.atom (.int .i64 0),.atom (.int .i64 0)],.agg [.atom (.int .i64 0),.atom (.int .i64 0)]]),true⟩:=rfl
theorem zhm:yN 193 = some ⟨.struct [(0,1),(1,32)],33,264,some (.agg [.atom (.int .i64 0),.agg [.agg [.atom (.int .i64 0),.atom (.int .i64 0)],.agg [.atom (.int .i64 0),.atom (.int .i64 0)],.agg [.atom (.int .i64 0),.atom (.int .i64 0)],.agg [.atom (.int .i64 0),.atom (.int .i64 0)],.agg [.atom (.int .i64 0),.atom (.int .i64 0)],.agg [.atom (.int .i64 0),.atom (.int .i64 0)],.agg [.atom (.int .i64 0),.atom (.int .i64 0)],.agg [.atom (.int .i64 0),.atom (.int .i64 0)],.agg [.atom (.int .i64 0),.atom (.int .i64 0)],.agg [.atom (.int .i64 0),.atom (.int .i64 0)],.agg [.atom (.int .i64 0),.atom (.int .i64 0)],.agg [.atom (.int .i64 0),.atom (.int .i64 0)],.agg [.atom (.int .i64 0),.atom (.int .i64 0)],.agg [.atom (.int .i64 0),.atom (.int .i64 0)],.agg [.atom (.int .i64 0),.atom (.int .i64 0)],.agg [.atom (.int .i64 0),.atom (.int .i64 0)]]]),true⟩:=rfl
attribute [go_sem] zmN zmM zmL zmK zmJ zmI zkG zkF zkE zkD zkC zkB zkA zkz zky zkx zkw zkv zku zkt zks zkr zkq zkp zko zkn zkm zkl zkk zkj zhO zhN zhM zhL zhK zhJ zhI zhH zhG zhF zhE zhD zhC zhB zhA zhz zhy zhx zhw zhv zhu zht zhs zhr zhq zhp zho zhn zhm
end Go.Own

namespace Go.Proofs
open Go.RowKit Go.Lib
theorem Tryz.groI:(Tryz.prog.info? 3).map (fun i => (i.size,i.bytes,i.zero)) = some (1,8,some (.int .i64 0)):=by kernel_rfl
set_option maxHeartbeats 4000000 in
set_option maxRecDepth 100000 in
theorem Tryz.gro_run (p:Option Addr) (n:Nat) (w:World) (h0:0 < n) (h1:n ≤ 1000000) :
  Calls Tryz.prog 168 #[.slice p 0 0,.int .i64 n] w fun e w' =>
   e = .returned (.slice (some ⟨w.heap.size,0,none⟩) 0 (grownCap w n 0 3)) ∧
   w' = w.drew.alloc (.cells (#[] ++ Builtin.zeroCells (Value.int .i64 0).cells n ++ Builtin.zeroCells (Value.int .i64 0).cells (grownCap w n 0 3 - n)) 3):=by
 obtain ⟨i0,hi0,hi⟩:=Option.map_eq_some_iff.1 Tryz.groI
 obtain ⟨hs0,hi⟩:=Prod.mk.inj hi
 obtain ⟨hb0,hz0⟩:=Prod.mk.inj hi
 have mixed:Tryz.prog.follows .mixedOrders = true:=by kernel_rfl
 have h1':¬ ((n:Int) < 0):=by omega
 have h3:wrap64 ((n:Int)) = (n:Int):=by unfold wrap64; omega
 have h4:(n:Int) > 0:=by omega
 have hold:(Builtin.firstCells i0.size 0 (.slice p 0 0)).run Tryz.prog w.drew = .ok ([]:List Value).toArray w.drew:=by
  cases p with
  | none => exact run_firstCells_none w.drew i0.size 0 0 0
  | some a => exact run_firstCells_some w.drew i0.size 0 a 0 0 [] (by simp) (fun j v hj => by simp at hj)
 have hrz:∀ ty,(Builtin.append_ #[40,3] ty #[.slice p 0 0,.int .i64 (n:Int)]).run Tryz.prog w =
   .ok (.slice (some ⟨w.heap.size,0,none⟩) n (grownCap w n 0 3)) (w.drew.alloc (.cells (#[] ++ Builtin.zeroCells (Value.int .i64 0).cells n ++ Builtin.zeroCells (Value.int .i64 0).cells (grownCap w n 0 3 - n)) 3)):=fun ty => by
  have h:=Lib.run_append_grow_zeros w 40 3 ty 3 i0 (.int .i64 0) .i64 .i64 Tryz.underlying40 Tryz.underlying3 hi0 hz0 p 0 0 [] hold n h0 (by omega) (by omega) (by omega)
   (by rw [hb0]; omega)
   (by rw [Nat.zero_add]; exact growslice_fits h0 (by rw [hb0]; omega))
  rw [Nat.zero_add] at h
  exact h
 have hGn:n ≤ grownCap w n 0 3:=grownCap_ge w _ _ _
 obtain ⟨G,hG⟩:∃ G,G = grownCap w n 0 3:=⟨_,rfl⟩
 rw [← hG] at hrz hGn ⊢
 have hG63:G ≤ 9223372036854775807:=by
  have:=grownCap_le_maxLen w n 0 3 (by unfold maxLen; omega)
  rw [← hG] at this
  unfold maxLen at this
  omega
 clear hold hG
 go_enter Tryz.func168,Tryz.ntmps168
 cases p with
 | none =>
  go_wp2_with (at_builtin; refine Lib.wpList_append_run _ rfl _ _ _ _ rfl _ _ rfl rfl _ _ (hrz _) ?_)
  all_goals (go_ret; exact ⟨rfl,rfl⟩)
 | some a =>
  obtain ⟨ab,ao,asp⟩:=a
  go_wp2_with (at_builtin; refine Lib.wpList_append_run _ rfl _ _ _ _ rfl _ _ rfl rfl _ _ (hrz _) ?_)
  all_goals (go_ret; exact ⟨rfl,rfl⟩)
end Go.Proofs
namespace Go.Own
open Go.Proofs
theorem zah (n:Int) (h0:0 < n) (h1:n ≤ 1000000):Vz Tryz.prog 168 [.sl 1 true [],eI .i64 n] (.osl 1 false []):=by
 refine ⟨⟨_,Tryz.func168,by kernel_rfl,by kernel_rfl⟩,?_⟩
 intro S w vs F hS hq hF
 obtain ⟨m,rfl⟩:∃ m:Nat,n = (m:Int):=⟨n.toNat,by omega⟩
 match vs,hq with
 | [u,v],q =>
  obtain ⟨F1,F2,rfl,q1,F3,F4,rfl,q2,q3⟩:=q
  have e3:F4 = []:=q3
  subst e3
  have d:∀ {x:A} {u:Value} {F:List Nat},x.isD = true → Has S w.heap x u F → uZ S x u ∧ F = []:=by
   intro x u F hx q
   rcases q with ⟨q,rfl⟩ | ⟨cs,q1,q2,q3⟩
   ·exact ⟨q.rep1 hx,rfl⟩
   ·obtain ⟨r,rfl⟩:=q1.isD hx
    exact ⟨⟨cs,r,q3⟩,rfl⟩
  obtain ⟨⟨cs,r1,e1⟩,rfl⟩:=d rfl q1
  obtain ⟨⟨ds,r2,e2⟩,rfl⟩:=d rfl q2
  simp only [Rep] at r1
  obtain ⟨p,c,rfl,hc,_⟩:=r1
  obtain rfl:c = 0:=by simpa using hc
  have hv:v = .int .i64 (m:Int):=by
   rw [e2]
   obtain ⟨rfl,_⟩:ds = [.int .i64 (m:Int)] ∧ _:=by simpa only [eI,Rep] using r2
   rfl
  have hu:u = .slice p 0 0:=by rw [e1]; rfl
  subst hv hu
  refine (Tryz.gro_run p m w (by omega) (by omega)).mono ?_
  rintro e' w' ⟨rfl,rfl⟩
  have hsz:∀ k,(Builtin.zeroCells (Value.int .i64 0).cells k).size = k:=fun k => by simp [Builtin.zeroCells,Value.cells]
  have hGn:m ≤ grownCap w m 0 3:=grownCap_ge w _ _ _
  have hGm:=grownCap_le_maxLen w m 0 3 (by unfold maxLen; omega)
  have hfr:∀ o,S w.heap.size o = none:=fun o => by
   cases hh:S w.heap.size o with
   | none => rfl
   | some x => have:=hS _ _ _ hh; simp [ya] at this
  generalize grownCap w m 0 3 = G at hGn hGm ⊢
  refine ⟨_,S,[w.heap.size],rfl,((WO.refl _ _).drew).alloc (.inl (Nat.le_refl _)) _,fun _ _ _ h => h,fun _ _ _ _ => rfl,⟨fun b o v h => ?_,hS.gok⟩,.inr ⟨[.slice (some ⟨w.heap.size,0,none⟩) 0 G],?_,by simp,rfl⟩,by simp,by simp⟩
  ·have h':=hS _ _ _ h
   have hne:b ≠ w.heap.size:=by rintro rfl; rw [hfr] at h; cases h
   show ya (w.heap.push _) b o = some v
   unfold ya at h' ⊢
   rw [Array.getElem?_push,if_neg hne]
   exact h'
  ·simp only [zH]
   refine ⟨_,G,rfl,by simp,by simp,hGm,by simp,.inr ⟨w.heap.size,_,3,[],[],rfl,by show (w.heap.push _)[w.heap.size]? = _; rw [Array.getElem?_push,if_pos rfl],?_,by simp,⟨rfl,rfl⟩,rfl,hfr⟩⟩
   simp only [Array.size_append,hsz,Array.size_empty]
   omega
structure wz (α:Type) where
 e0:α
 e1:α
 deriving DecidableEq
instance {α:Type} [BEq α]:BEq (wz α):=⟨fun x y => (x.e0 == y.e0) && (x.e1 == y.e1)⟩
section
variable {α:Type}
def KC (f:α → A) (x:wz α):A:=.agg [f x.e0,f x.e1]
instance (f:α → A) [h:z8r f]:z8r (KC f):=⟨fun x => by simp [KC,A.isD,A.areD,h.isD]⟩
instance (f g:α → A) [h:z3J f g]:z3J (KC f) (KC g):=⟨fun x => by simp [KC,A.loose,A.looses,h.lo]⟩
instance (f g:α → A) [h:z5o f g]:z5o (KC f) (KC g):=⟨fun x => by simp [KC,A.live,A.lives,h.live],fun x => by simp [KC,A.shut,A.shuts,h.sh]⟩
instance (f:α → A) [h:Y6 f]:Y6 (KC f):=⟨fun x y q => by
 simp only [KC,A.agg.injEq,List.cons.injEq,and_true] at q
 cases x; cases y
 simp only [wz.mk.injEq]
 exact ⟨h.inj _ _ q.1,h.inj _ _ q.2⟩⟩
end
structure xh (α:Type) where
 e0:α
 e1:α
 e2:α
 e3:α
 e4:α
 e5:α
 e6:α
 e7:α
 e8:α
 e9:α
 e10:α
 e11:α
 e12:α
 e13:α
 e14:α
 e15:α
 deriving DecidableEq
instance {α:Type} [BEq α]:BEq (xh α):=⟨fun x y => (x.e0 == y.e0) && (x.e1 == y.e1) && (x.e2 == y.e2) && (x.e3 == y.e3) && (x.e4 == y.e4) && (x.e5 == y.e5) && (x.e6 == y.e6) && (x.e7 == y.e7) && (x.e8 == y.e8) && (x.e9 == y.e9) && (x.e10 == y.e10) && (x.e11 == y.e11) && (x.e12 == y.e12) && (x.e13 == y.e13) && (x.e14 == y.e14) && (x.e15 == y.e15)⟩
section
variable {α:Type}
def zav (f:α → A) (x:xh α):A:=.agg [f x.e0,f x.e1,f x.e2,f x.e3,f x.e4,f x.e5,f x.e6,f x.e7,f x.e8,f x.e9,f x.e10,f x.e11,f x.e12,f x.e13,f x.e14,f x.e15]
end
section
variable {α:Type}
def xh.toL (x:xh α):List α:=[x.e0,x.e1,x.e2,x.e3,x.e4,x.e5,x.e6,x.e7,x.e8,x.e9,x.e10,x.e11,x.e12,x.e13,x.e14,x.e15]
def xh.ofL:List α → xh α → xh α
 | [x0,x1,x2,x3,x4,x5,x6,x7,x8,x9,x10,x11,x12,x13,x14,x15],_ => ⟨x0,x1,x2,x3,x4,x5,x6,x7,x8,x9,x10,x11,x12,x13,x14,x15⟩
 | _,d => d
theorem xh.toL_ofL (l:List α) (d:xh α) (h:l.length = 16):(xh.ofL l d).toL = l:=by
 match l,h with
 | [x0,x1,x2,x3,x4,x5,x6,x7,x8,x9,x10,x11,x12,x13,x14,x15],_ => rfl
def xh.setI (x:xh α) (i:Int) (v:α):xh α:=xh.ofL (x.toL.set i.toNat v) x
theorem xh.setL (f:α → A) (x:xh α) (i:Int) (v:α):(x.toL.map f).set i.toNat (f v) = ((xh.setI x i v).toL).map f:=by
 unfold xh.setI
 rw [xh.toL_ofL _ _ (by simp [xh.toL]),List.map_set]
end
structure zh where
 To:Int
 Out:Int
def xz (f0:Int → A) (f1:Int → A) (x:zh):A:=.agg [f0 x.To,f1 x.Out]
instance (f0:Int → A) (f1:Int → A) (g0:Int → A) (g1:Int → A) [h0:z3J f0 g0] [h1:z3J f1 g1]:z3J (xz f0 f1) (xz g0 g1):=⟨fun x => by simp [xz,A.loose,A.looses,h0.lo,h1.lo]⟩
instance (f0:Int → A) (f1:Int → A) (g0:Int → A) (g1:Int → A) [h0:z5o f0 g0] [h1:z5o f1 g1]:z5o (xz f0 f1) (xz g0 g1):=⟨fun x => by simp [xz,A.live,A.lives,h0.live,h1.live],fun x => by simp [xz,A.shut,A.shuts,h0.sh,h1.sh]⟩
instance (f0:Int → A) (f1:Int → A) [h0:Y6 f0] [h1:Y6 f1]:Y6 (xz f0 f1):=⟨fun x y h => by
 simp only [xz,A.agg.injEq,List.cons.injEq,and_true] at h
 cases x; cases y
 simp only [zh.mk.injEq]
 exact ⟨h0.inj _ _ h.1,h1.inj _ _ h.2⟩⟩
structure z6 where
 Inputs:Int
 Outputs:Int
 Rows:List (List zh)
def v7 (f0:Int → A) (f1:Int → A) (f2:List (List zh) → A) (x:z6):A:=.agg [f0 x.Inputs,f1 x.Outputs,f2 x.Rows]
instance (f0:Int → A) (f1:Int → A) (f2:List (List zh) → A) (g0:Int → A) (g1:Int → A) (g2:List (List zh) → A) [h0:z3J f0 g0] [h1:z3J f1 g1] [h2:z3J f2 g2]:z3J (v7 f0 f1 f2) (v7 g0 g1 g2):=⟨fun x => by simp [v7,A.loose,A.looses,h0.lo,h1.lo,h2.lo]⟩
instance (f0:Int → A) (f1:Int → A) (f2:List (List zh) → A) [h0:Y6 f0] [h1:Y6 f1] [h2:Y6 f2]:Y6 (v7 f0 f1 f2):=⟨fun x y h => by
 simp only [v7,A.agg.injEq,List.cons.injEq,and_true] at h
 cases x; cases y
 simp only [z6.mk.injEq]
 exact ⟨h0.inj _ _ h.1,h1.inj _ _ h.2.1,h2.inj _ _ h.2.2⟩⟩
structure wy where
 L:List (List Int)
 Responses:List (List Int)
 S:Int
def UZ (f0:List (List Int) → A) (f1:List (List Int) → A) (f2:Int → A) (x:wy):A:=.agg [f0 x.L,f1 x.Responses,f2 x.S]
instance (f0:List (List Int) → A) (f1:List (List Int) → A) (f2:Int → A) [h0:Y6 f0] [h1:Y6 f1] [h2:Y6 f2]:Y6 (UZ f0 f1 f2):=⟨fun x y h => by
 simp only [UZ,A.agg.injEq,List.cons.injEq,and_true] at h
 cases x; cases y
 simp only [wy.mk.injEq]
 exact ⟨h0.inj _ _ h.1,h1.inj _ _ h.2.1,h2.inj _ _ h.2.2⟩⟩
structure zz where
 block_:Int
 signature_:xh (wz Int)
instance:BEq zz:=⟨fun x y => (x.block_ == y.block_) && (x.signature_ == y.signature_)⟩
def VU (f0:Int → A) (f1:xh (wz Int) → A) (x:zz):A:=.agg [f0 x.block_,f1 x.signature_]
structure zG where
 S:Int
 T:Int
 Word:List Int
 Apart:Bool
def zR (f0:Int → A) (f1:Int → A) (f2:List Int → A) (f3:Bool → A) (x:zG):A:=.agg [f0 x.S,f1 x.T,f2 x.Word,f3 x.Apart]
instance (f0:Int → A) (f1:Int → A) (f2:List Int → A) (f3:Bool → A) [h0:z8r f0] [h1:z8r f1] [h2:z8r f2] [h3:z8r f3]:z8r (zR f0 f1 f2 f3):=⟨fun x => by simp [zR,A.isD,A.areD,h0.isD,h1.isD,h2.isD,h3.isD]⟩
instance (f0:Int → A) (f1:Int → A) (f2:List Int → A) (f3:Bool → A) (g0:Int → A) (g1:Int → A) (g2:List Int → A) (g3:Bool → A) [h0:z5o f0 g0] [h1:z5o f1 g1] [h2:z5o f2 g2] [h3:z5o f3 g3]:z5o (zR f0 f1 f2 f3) (zR g0 g1 g2 g3):=⟨fun x => by simp [zR,A.live,A.lives,h0.live,h1.live,h2.live,h3.live],fun x => by simp [zR,A.shut,A.shuts,h0.sh,h1.sh,h2.sh,h3.sh]⟩
instance:zlY (K:=zz) (VU (eI .i64) (zav (KC (eI .i64)))):=⟨fun x y => by
 obtain ⟨_,⟨⟨_,_⟩,⟨_,_⟩,⟨_,_⟩,⟨_,_⟩,⟨_,_⟩,⟨_,_⟩,⟨_,_⟩,⟨_,_⟩,⟨_,_⟩,⟨_,_⟩,⟨_,_⟩,⟨_,_⟩,⟨_,_⟩,⟨_,_⟩,⟨_,_⟩,⟨_,_⟩⟩⟩:=x
 obtain ⟨_,⟨⟨_,_⟩,⟨_,_⟩,⟨_,_⟩,⟨_,_⟩,⟨_,_⟩,⟨_,_⟩,⟨_,_⟩,⟨_,_⟩,⟨_,_⟩,⟨_,_⟩,⟨_,_⟩,⟨_,_⟩,⟨_,_⟩,⟨_,_⟩,⟨_,_⟩,⟨_,_⟩⟩⟩:=y
 simp only [zav,KC,VU,eI,z1S,z4V,z4V.keyLs,zW,BEq.beq,Option.map_some,Option.some.injEq,Value.agg.injEq,List.cons_append,List.nil_append,List.append_nil,Array.mk.injEq,List.cons.injEq,Value.int.injEq,true_and,and_true,Bool.and_eq_true,decide_eq_true_eq,and_assoc]⟩
def z8J:ArN 64 Int:=⟨zke,rfl⟩
def V9:Option Int :=
 some 0
def j5 (m_:z6) (s_:Int):Option (LR Int (Unit ⊕ Int)) :=
 bif decide (s_ < ((m_.Rows.length:Nat):Int)) then (
  Option.bind (idx m_.Rows s_) fun Row_e =>
  bif decide (((Row_e.length:Nat):Int) > 4) then (
   some (.done (.inr 1)))
  else (
   some (.next (w64 (s_ + 1)))))
 else (
  some (.done (.inl ())))
def W3 (m_:z6):Option Int :=
 bif decide (((m_.Rows.length:Nat):Int) > 6) then (
  some 1)
 else (
  Option.bind (loop (fun s => j5 m_ s) 0) fun t2 =>
  match t2 with
  | .inl p => V9
  | .inr p => some p)
def V3 (n_:Int):Option Int :=
 some n_
def qV (l_:List (List Int)) (n_1:Int) (i_:Int):Option (LR (Int × Int) Int) :=
 bif decide (i_ < ((l_.length:Nat):Int)) then (
  Option.bind (idx l_ i_) fun l__e =>
  some (.next (w64 (n_1 + ((l__e.length:Nat):Int)),w64 (i_ + 1))))
 else (
  some (.done n_1))
def Yk (l_:List (List Int)):Option Int :=
 Option.bind (loop (fun s => qV l_ s.1 s.2) (0,0)) fun t2 =>
 V3 t2
def Vq (l_:List (List Int)):Option Int :=
 bif decide (((l_.length:Nat):Int) > 60) then (
  some 1)
 else (
  Option.bind (Yk l_) fun r_ =>
  bif decide (r_ > 600) then (
   some 1)
  else (
   some 0))
def V7:Option Int :=
 some 0
def V6 (s_:Int):Option (LR Int (Unit ⊕ Int)) :=
 some (.next (w64 (s_ + 1)))
def kC (i_:Int):Option (LR Int (Unit ⊕ Int)) :=
 some (.next (w64 (i_ + 1)))
def kB (m_:z6) (i_:Int) (Row_e_e:zh):Option (LR Int (Unit ⊕ Int)) :=
 bif decide (Row_e_e.To < 0) then (
  some (.done (.inr 1)))
 else (
  bif decide (Row_e_e.To ≥ ((m_.Rows.length:Nat):Int)) then (
   some (.done (.inr 1)))
  else (
   bif decide (Row_e_e.Out < 0) then (
    some (.done (.inr 1)))
   else (
    bif decide (Row_e_e.Out ≥ m_.Outputs) then (
     some (.done (.inr 1)))
    else (
     kC i_))))
def uk (m_:z6) (s_:Int) (i_:Int):Option (LR Int (Unit ⊕ Int)) :=
 bif decide (i_ < m_.Inputs) then (
  Option.bind (idx m_.Rows s_) fun Row_e1 =>
  Option.bind (idx Row_e1 i_) fun Row_e_e =>
  bif Row_e_e.To == (-1) then (
   bif Row_e_e.Out == (-1) then (
    kC i_)
   else (
    kB m_ i_ Row_e_e))
  else (
   kB m_ i_ Row_e_e))
 else (
  some (.done (.inl ())))
def j4 (m_:z6) (s_:Int):Option (LR Int (Unit ⊕ Int)) :=
 bif decide (s_ < ((m_.Rows.length:Nat):Int)) then (
  Option.bind (idx m_.Rows s_) fun Row_e =>
  bif ((Row_e.length:Nat):Int) != m_.Inputs then (
   some (.done (.inr 1)))
  else (
   Option.bind (loop (fun s => uk m_ s_ s) 0) fun t4 =>
   match t4 with
   | .inl p => V6 s_
   | .inr p => some (.done (.inr p))))
 else (
  some (.done (.inl ())))
def XY (m_:z6):Option Int :=
 bif decide (m_.Inputs > 16) then (
  some 3)
 else (
  bif decide (m_.Outputs > 16) then (
   some 3)
  else (
   bif decide (((m_.Rows.length:Nat):Int) > 64) then (
    some 3)
   else (
    bif decide (m_.Inputs < 1) then (
     some 1)
    else (
     bif decide (m_.Outputs < 1) then (
      some 1)
     else (
      bif ((m_.Rows.length:Nat):Int) == 0 then (
       some 1)
      else (
       Option.bind (loop (fun s => j4 m_ s) 0) fun t2 =>
       match t2 with
       | .inl p => V7
       | .inr p => some p))))))
def kP (n_:Int):Option Int :=
 some n_
def kO (s_:Int) (n_2:Int):Option (LR (Int × Int) Int) :=
 some (.next (n_2,w64 (s_ + 1)))
def qI (i_:Int) (n_4:Int):Option (LR (Int × Int) Int) :=
 some (.next (n_4,w64 (i_ + 1)))
def vN (m_:z6) (s_:Int) (n_3:Int) (i_:Int):Option (LR (Int × Int) Int) :=
 bif decide (i_ < m_.Inputs) then (
  Option.bind (idx m_.Rows s_) fun Row_e =>
  Option.bind (idx Row_e i_) fun Row_e_e =>
  bif decide (Row_e_e.To ≥ 0) then (
   qI i_ (w64 (n_3 + 1)))
  else (
   qI i_ n_3))
 else (
  some (.done n_3))
def qH (m_:z6) (n_1:Int) (s_:Int):Option (LR (Int × Int) Int) :=
 bif decide (s_ < ((m_.Rows.length:Nat):Int)) then (
  Option.bind (loop (fun s => vN m_ s_ s.1 s.2) (n_1,0)) fun t4 =>
  kO s_ t4)
 else (
  some (.done n_1))
def Xj (m_:z6):Option Int :=
 Option.bind (loop (fun s => qH m_ s.1 s.2) (0,0)) fun t2 =>
 kP t2
def kA (m_:z6):Option Bool :=
 Option.bind (Xj m_) fun r_ =>
 some (r_ == (w64 (((m_.Rows.length:Nat):Int) * m_.Inputs)))
def kN (out:List Bool):Option (List Bool) :=
 some out
def kM (round:Int) (out2:List Bool):Option (LR (List Bool × Int) (List Bool)) :=
 some (.next (out2,w64 (round + 1)))
def kL (s_:Int) (out4:List Bool):Option (LR (List Bool × Int) (List Bool)) :=
 some (.next (out4,w64 (s_ + 1)))
def vM (i_:Int) (out6:List Bool):Option (LR (List Bool × Int) (List Bool)) :=
 some (.next (out6,w64 (i_ + 1)))
def qE (m_:z6) (s_:Int) (out5:List Bool) (i_:Int):Option (LR (List Bool × Int) (List Bool)) :=
 bif decide (i_ < m_.Inputs) then (
  Option.bind (idx m_.Rows s_) fun Row_e =>
  Option.bind (idx Row_e i_) fun Row_e_e =>
  Option.bind (idx out5 s_) fun out_e =>
  bif out_e then (
   bif decide (Row_e_e.To ≥ 0) then (
    Option.bind (idx out5 Row_e_e.To) fun out_e1 =>
    vM i_ (out5.set Row_e_e.To.toNat true))
   else (
    vM i_ out5))
  else (
   vM i_ out5))
 else (
  some (.done out5))
def qG (m_:z6) (out3:List Bool) (s_:Int):Option (LR (List Bool × Int) (List Bool)) :=
 bif decide (s_ < ((m_.Rows.length:Nat):Int)) then (
  Option.bind (loop (fun s => qE m_ s_ s.1 s.2) (out3,0)) fun t6 =>
  kL s_ t6)
 else (
  some (.done out3))
def kK (m_:z6) (out1:List Bool) (round:Int):Option (LR (List Bool × Int) (List Bool)) :=
 bif decide (round < ((m_.Rows.length:Nat):Int)) then (
  Option.bind (loop (fun s => qG m_ s.1 s.2) (out1,0)) fun t4 =>
  kM round t4)
 else (
  some (.done out1))
def ZJ (m_:z6) (from_:Int):Option (List Bool) :=
 gd ((0:Int) ≤ ((m_.Rows.length:Nat):Int) ∧ (((m_.Rows.length:Nat):Int):Int) ≤ 4294967296) <|
 Option.bind (idx (List.replicate ((m_.Rows.length:Nat):Int).toNat false) from_) fun u_e =>
 Option.bind (loop (fun s => kK m_ s.1 s.2) (((List.replicate ((m_.Rows.length:Nat):Int).toNat false).set from_.toNat true),0)) fun t2 =>
 kN t2
def jk:Option Bool :=
 some true
def wL (r_:List Bool) (s_:Int):Option (LR Int (Unit ⊕ Bool)) :=
 bif decide (s_ < ((r_.length:Nat):Int)) then (
  Option.bind (idx r_ s_) fun r__e =>
  bif !r__e then (
   some (.done (.inr false)))
  else (
   some (.next (w64 (s_ + 1)))))
 else (
  some (.done (.inl ())))
def jO (m_:z6):Option Bool :=
 Option.bind (ZJ m_ 0) fun r_ =>
 Option.bind (loop (fun s => wL r_ s) 0) fun t2 =>
 match t2 with
 | .inl p => jk
 | .inr p => some p
def V5:Option Int :=
 some 0
def qZ (i_:Int) (x41:Int) (x42:Bool) (x43:Bool) (x47:Bool) (x48:Bool) (x58:Bool):Option (LR Int (Unit ⊕ Int)) :=
 some (.next (w64 (i_ + 1)))
def qY (m_:z6) (marked:List (List Bool)) (s_:Int) (t_:Int) (i_:Int):Option (LR Int (Unit ⊕ Int)) :=
 bif decide (i_ < m_.Inputs) then (
  Option.bind (idx m_.Rows s_) fun Row_e =>
  Option.bind (idx Row_e i_) fun Row_e_e =>
  Option.bind (idx m_.Rows t_) fun Row_e1 =>
  Option.bind (idx Row_e1 i_) fun Row_e_e1 =>
  bif Row_e_e.Out != Row_e_e1.Out then (
   some (.done (.inr 1)))
  else (
   bif decide (Row_e_e.To ≥ 0) then (
    bif decide (Row_e_e1.To ≥ 0) then (
     Option.bind (idx marked Row_e_e.To) fun marked_e =>
     Option.bind (idx marked_e Row_e_e1.To) fun marked_e_e =>
     bif marked_e_e then (
      some (.done (.inr 1)))
     else (
      qZ i_ Row_e_e.To (decide (Row_e_e.To ≥ 0)) (decide (Row_e_e.To ≥ 0)) (decide (Row_e_e1.To ≥ 0)) (decide (Row_e_e1.To ≥ 0)) marked_e_e))
    else (
     qZ i_ Row_e_e.To (decide (Row_e_e.To ≥ 0)) (decide (Row_e_e.To ≥ 0)) (decide (Row_e_e1.To ≥ 0)) (decide (Row_e_e1.To ≥ 0)) false))
   else (
    qZ i_ Row_e_e.To (decide (Row_e_e.To ≥ 0)) (decide (Row_e_e.To ≥ 0)) false false false)))
 else (
  some (.done (.inl ())))
def XX (m_:z6) (marked:List (List Bool)) (s_:Int) (t_:Int):Option Int :=
 Option.bind (loop (fun s => qY m_ marked s_ t_ s) 0) fun t2 =>
 match t2 with
 | .inl p => V5
 | .inr p => some p
def ZG (marked1:List (List Bool)):Option (List (List Bool)) :=
 some marked1
def ZF (round:Int) (marked3:List (List Bool)):Option (LR (List (List Bool) × Int) (List (List Bool))) :=
 some (.next (marked3,w64 (round + 1)))
def ZD (round:Int) (next:List (List Bool)):Option (LR (List (List Bool) × Int) (List (List Bool))) :=
 ZF round next
def ZC (s_:Int) (next2:List (List Bool)):Option (LR (List (List Bool) × Int) (List (List Bool))) :=
 some (.next (next2,w64 (s_ + 1)))
def vw (m_:z6) (marked2:List (List Bool)) (s_:Int) (next3:List (List Bool)) (t_:Int):Option (LR (List (List Bool) × Int) (List (List Bool))) :=
 bif decide (t_ < ((m_.Rows.length:Nat):Int)) then (
  Option.bind (idx next3 s_) fun next_e =>
  Option.bind (idx marked2 s_) fun marked_e =>
  Option.bind (idx marked_e t_) fun marked_e_e =>
  bif marked_e_e then (
   Option.bind (idx next_e t_) fun next_e_e =>
   some (.next ((next3.set s_.toNat (next_e.set t_.toNat true)),w64 (t_ + 1))))
  else (
   Option.bind (XX m_ marked2 s_ t_) fun r_ =>
   Option.bind (idx next_e t_) fun next_e_e1 =>
   some (.next ((next3.set s_.toNat (next_e.set t_.toNat (r_ == 1))),w64 (t_ + 1)))))
 else (
  some (.done next3))
def vz (m_:z6) (marked2:List (List Bool)) (next1:List (List Bool)) (s_:Int):Option (LR (List (List Bool) × Int) (List (List Bool))) :=
 bif decide (s_ < ((m_.Rows.length:Nat):Int)) then (
  gd ((0:Int) ≤ ((m_.Rows.length:Nat):Int) ∧ (((m_.Rows.length:Nat):Int):Int) ≤ 4294967296) <|
  gd (next1.length + ([(List.replicate ((m_.Rows.length:Nat):Int).toNat false)]:List (List Bool)).length ≤ 4294967296) <|
  Option.bind (loop (fun s => vw m_ marked2 s_ s.1 s.2) ((next1 ++ ([(List.replicate ((m_.Rows.length:Nat):Int).toNat false)]:List (List Bool))),0)) fun t8 =>
  ZC s_ t8)
 else (
  some (.done next1))
def vA (m_:z6) (k_:Int) (marked2:List (List Bool)) (round:Int):Option (LR (List (List Bool) × Int) (List (List Bool))) :=
 bif decide (round < k_) then (
  Option.bind (loop (fun s => vz m_ marked2 s.1 s.2) (([]:List (List Bool)),0)) fun t6 =>
  ZD round t6)
 else (
  some (.done marked2))
def ZH (m_:z6) (k_:Int) (marked:List (List Bool)):Option (List (List Bool)) :=
 Option.bind (loop (fun s => vA m_ k_ s.1 s.2) (marked,0)) fun t3 =>
 ZG t3
def vu (m_:z6) (marked4:List (List Bool)) (s_1:Int):Option (LR (List (List Bool) × Int) (List (List Bool))) :=
 bif decide (s_1 < ((m_.Rows.length:Nat):Int)) then (
  gd ((0:Int) ≤ ((m_.Rows.length:Nat):Int) ∧ (((m_.Rows.length:Nat):Int):Int) ≤ 4294967296) <|
  gd (marked4.length + ([(List.replicate ((m_.Rows.length:Nat):Int).toNat false)]:List (List Bool)).length ≤ 4294967296) <|
  some (.next ((marked4 ++ ([(List.replicate ((m_.Rows.length:Nat):Int).toNat false)]:List (List Bool))),w64 (s_1 + 1))))
 else (
  some (.done marked4))
def YI (m_:z6) (k_:Int):Option (List (List Bool)) :=
 Option.bind (loop (fun s => vu m_ s.1 s.2) (([]:List (List Bool)),0)) fun t9 =>
 ZH m_ k_ t9
def ZB (out:List Int):Option (List Int) :=
 some out
def jj (s_:Int) (out2:List Int) (n_1:Int):Option (LR (List Int × Int × Int) (List Int)) :=
 some (.next (out2,n_1,w64 (s_ + 1)))
def wK (out1:List Int) (s_:Int) (n_2:Int) (b_1:Int):Option (LR (List Int × Int × Int) (List Int)) :=
 gd (out1.length + ([b_1]:List Int).length ≤ 4294967296) <|
 jj s_ (out1 ++ ([b_1]:List Int)) n_2
def ji (out1:List Int) (n_:Int) (s_:Int) (b_:Int):Option (LR (List Int × Int × Int) (List Int)) :=
 bif decide (b_ < 0) then (
  wK out1 s_ (w64 (n_ + 1)) n_)
 else (
  wK out1 s_ n_ b_)
def vZ (t_:Int) (b_3:Int):Option (LR (Int × Int) Int) :=
 some (.next (b_3,w64 (t_ + 1)))
def vY (marked:List (List Bool)) (out1:List Int) (s_:Int) (b_2:Int) (t_:Int):Option (LR (Int × Int) Int) :=
 bif decide (t_ < s_) then (
  Option.bind (idx marked s_) fun marked_e =>
  Option.bind (idx marked_e t_) fun marked_e_e =>
  bif !marked_e_e then (
   Option.bind (idx out1 t_) fun out_e =>
   vZ t_ out_e)
  else (
   vZ t_ b_2))
 else (
  some (.done b_2))
def jh (marked:List (List Bool)) (out1:List Int) (n_:Int) (s_:Int):Option (LR (List Int × Int × Int) (List Int)) :=
 bif decide (s_ < ((marked.length:Nat):Int)) then (
  Option.bind (loop (fun s => vY marked out1 s_ s.1 s.2) ((-1),0)) fun t6 =>
  ji out1 n_ s_ t6)
 else (
  some (.done out1))
def jN (marked:List (List Bool)):Option (List Int) :=
 Option.bind (loop (fun s => jh marked s.1 s.2.1 s.2.2) (([]:List Int),0,0)) fun t2 =>
 ZB t2
def WH (m_:z6) (k_:Int):Option (List Int) :=
 Option.bind (YI m_ k_) fun r_ =>
 Option.bind (jN r_) fun r_1 =>
 some r_1
def ZI (m_:z6):Option (List Int) :=
 Option.bind (WH m_ ((m_.Rows.length:Nat):Int)) fun r_ =>
 some r_
def ZA:Option Int :=
 some 0
def Zz (s_:Int):Option (LR Int (Unit ⊕ Int)) :=
 some (.next (w64 (s_ + 1)))
def uF (r_3:List Int) (s_:Int) (t_:Int):Option (LR Int (Unit ⊕ Int)) :=
 bif decide (t_ < s_) then (
  Option.bind (idx r_3 s_) fun r__e =>
  Option.bind (idx r_3 t_) fun r__e1 =>
  bif r__e == r__e1 then (
   some (.done (.inr 12)))
  else (
   some (.next (w64 (t_ + 1)))))
 else (
  some (.done (.inl ())))
def uG (r_3:List Int) (s_:Int):Option (LR Int (Unit ⊕ Int)) :=
 bif decide (s_ < ((r_3.length:Nat):Int)) then (
  Option.bind (loop (fun s => uF r_3 s_ s) 0) fun t4 =>
  match t4 with
  | .inl p => Zz s_
  | .inr p => some (.done (.inr p)))
 else (
  some (.done (.inl ())))
def jM (m_:z6):Option Int :=
 Option.bind (XY m_) fun r_ =>
 bif r_ != 0 then (
  some r_)
 else (
  Option.bind (kA m_) fun r_1 =>
  bif !r_1 then (
   some 9)
  else (
   Option.bind (jO m_) fun r_2 =>
   bif !r_2 then (
    some 11)
   else (
    Option.bind (ZI m_) fun r_3 =>
    Option.bind (loop (fun s => uG r_3 s) 0) fun t2 =>
    match t2 with
    | .inl p => ZA
    | .inr p => some p)))
def u7:Option zh :=
 some (zh.mk (-1) (-1))
def ZO (m_:z6) (x_:zh):Option Bool :=
 Option.bind (u7) fun r_ =>
 bif (x_.To == r_.To) && ((x_.Out == r_.Out) && true) then (
  some true)
 else (
  bif decide (x_.To ≥ 0) then (
   bif decide (x_.To < ((m_.Rows.length:Nat):Int)) then (
    bif decide (x_.Out ≥ 0) then (
     some (decide (x_.Out < m_.Outputs)))
    else (
     some false))
   else (
    some false))
  else (
   some false))
def kR (x_:zh) (x1:z6):Option Bool :=
 Option.bind (ZO x1 x_) fun r_ =>
 some (!r_)
def xo:Option Int :=
 some (-1)
def zP (s_:List zh) (f_:z6) (x8:Int):Option (LR Int (Unit ⊕ Int)) :=
 bif decide (x8 < ((s_.length:Nat):Int)) then (
  Option.bind (idx s_ x8) fun s__e =>
  Option.bind (kR s__e f_) fun r_ =>
  bif r_ then (
   some (.done (.inr x8)))
  else (
   some (.next (w64 (x8 + 1)))))
 else (
  some (.done (.inl ())))
def yu (s_:List zh) (f_:z6):Option Int :=
 Option.bind (loop (fun s => zP s_ f_ s) 0) fun t2 =>
 match t2 with
 | .inl p => xo
 | .inr p => some p
def zY (s_:List zh) (f_:z6):Option Bool :=
 Option.bind (yu s_ f_) fun r_ =>
 some (decide (r_ ≥ 0))
def Ym:Option Int :=
 some 0
def vg (m_:z6) (x36:Int):Option (LR Int (Unit ⊕ Int)) :=
 bif decide (x36 < ((m_.Rows.length:Nat):Int)) then (
  Option.bind (idx m_.Rows x36) fun Row_e =>
  bif ((Row_e.length:Nat):Int) != m_.Inputs then (
   some (.done (.inr 1)))
  else (
   Option.bind (zY Row_e m_) fun r_ =>
   bif r_ then (
    some (.done (.inr 1)))
   else (
    some (.next (w64 (x36 + 1))))))
 else (
  some (.done (.inl ())))
def xS (m_:z6):Option Int :=
 bif decide (m_.Inputs > 16) then (
  some 3)
 else (
  bif decide (m_.Outputs > 16) then (
   some 3)
  else (
   bif decide (((m_.Rows.length:Nat):Int) > 64) then (
    some 3)
   else (
    bif decide (m_.Inputs < 1) then (
     some 1)
    else (
     bif decide (m_.Outputs < 1) then (
      some 1)
     else (
      bif decide (((m_.Rows.length:Nat):Int) < 1) then (
       some 1)
      else (
       Option.bind (loop (fun s => vg m_ s) 0) fun t2 =>
       match t2 with
       | .inl p => Ym
       | .inr p => some p))))))
def ZK (m_:z6):Option ((Int × z6) × (Int × z6) × (Int × z6)) :=
 some ((9,m_),(11,m_),(12,m_))
def YB (m_:z6):Option z6 :=
 some m_
def qh {σ:Type} (x10:Int) (sg2:σ):Option (LR (σ × Int) σ) :=
 some (.next (sg2,w64 (x10 + 1)))
def wh {σ:Type} (yy:σ → (wz Int × zh) → Option (σ × Bool)) (x10:Int) (Row_e:List zh) (sg3:σ) (x17:Int):Option (LR (σ × Int) (σ ⊕ σ)) :=
 bif decide (x17 < ((Row_e.length:Nat):Int)) then (
  Option.bind (idx Row_e x17) fun Row_e_e =>
  Option.bind (yy sg3 ((wz.mk x10 x17),Row_e_e)) fun yr =>
  bif !yr.2 then (
   some (.done (.inr yr.1)))
  else (
   some (.next (yr.1,w64 (x17 + 1)))))
 else (
  some (.done (.inl sg3)))
def vC {σ:Type} (x0:z6) (yy:σ → (wz Int × zh) → Option (σ × Bool)) (sg1:σ) (x10:Int):Option (LR (σ × Int) σ) :=
 bif decide (x10 < ((x0.Rows.length:Nat):Int)) then (
  Option.bind (idx x0.Rows x10) fun Row_e =>
  Option.bind (loop (fun s => wh yy x10 Row_e s.1 s.2) (sg1,0)) fun t3 =>
  match t3 with
  | .inl p => qh x10 p
  | .inr p => some (.done p))
 else (
  some (.done sg1))
def qJ (x0:z6) {σ:Type} (yy:σ → (wz Int × zh) → Option (σ × Bool)) (sg:σ):Option σ :=
 Option.bind (loop (fun s => vC x0 yy s.1 s.2) (sg,0)) fun t1 =>
 some t1
def wX (s_:List (wz Int)):Option (List (wz Int)) :=
 gd ((0:Int) ≤ 0 ∧ (0:Int) ≤ ((s_.length:Nat):Int) ∧ (((s_.length:Nat):Int):Int) ≤ ((s_.length:Nat):Int) ∧ (((s_.length:Nat):Int):Int) ≤ ((s_.length:Nat):Int)) <|
 some ((s_.drop 0).take (((s_.length:Nat):Int).toNat - 0))
def u6 (out:List (wz Int)):Option (List (wz Int)) :=
 Option.bind (wX out) fun r_ =>
 some r_
def yn (out1:List (wz Int)) (x8:wz Int) (x9:zh):Option (LR (List (wz Int)) Empty) :=
 Option.bind (u7) fun r_2 =>
 bif (x9.To == r_2.To) && ((x9.Out == r_2.Out) && true) then (
  gd (out1.length + ([x8]:List (wz Int)).length ≤ 4294967296) <|
  some (.next (out1 ++ ([x8]:List (wz Int)))))
 else (
  some (.next out1))
def jn (m_:z6):Option (List (wz Int)) :=
 Option.bind (YB m_) fun r_1 =>
 Option.bind (qJ r_1 (yOf (fun s x => yn s x.1 x.2)) (.next ([]:List (wz Int)))) fun t2 =>
 match t2 with
 | .next out1 => (
  u6 out1)
 | .done z => nomatch z
def uO (m_:z6):Option (Bool × Int) :=
 Option.bind (xS m_) fun r_ =>
 bif r_ != 0 then (
  some (false,r_))
 else (
  Option.bind (jn m_) fun r_1 =>
  some (((r_1.length:Nat):Int) == 0,0))
def ke (x0:z6):Option Bool :=
 Option.bind (uO x0) fun r_ =>
 some r_.1
def xc (rc_:Int → (List Bool) → z6 → Option (List Bool × z6)) (Row_e:List zh) (x1:List Bool) (x2_Inputs:Int) (x2_Outputs:Int) (x2_Rows:List (List zh)) (x24:Int):Option (LR (List Bool × Int × Int × List (List zh) × Int) ((List Bool × z6))) :=
 bif decide (x24 < ((Row_e.length:Nat):Int)) then (
  Option.bind (idx Row_e x24) fun Row_e_e =>
  Option.bind (rc_ Row_e_e.To x1 (z6.mk x2_Inputs x2_Outputs x2_Rows)) fun r_ =>
  some (.next (r_.1,r_.2.Inputs,r_.2.Outputs,r_.2.Rows,w64 (x24 + 1))))
 else (
  some (.done (x1,(z6.mk x2_Inputs x2_Outputs x2_Rows))))
def wa (rc_:Int → (List Bool) → z6 → Option (List Bool × z6)) (s_:Int) (y0:List Bool) (y1:z6):Option (List Bool × z6) :=
 bif s_ == (-1) then (
  some (y0,y1))
 else (
  Option.bind (idx y0 s_) fun y_e =>
  bif y_e then (
   some (y0,y1))
  else (
   Option.bind (idx y0 s_) fun y_e1 =>
   Option.bind (idx y1.Rows s_) fun Row_e =>
   Option.bind (loop (fun s => xc rc_ Row_e s.1 s.2.1 s.2.2.1 s.2.2.2.1 s.2.2.2.2) ((y0.set s_.toNat true),y1.Inputs,y1.Outputs,y1.Rows,0)) fun t1 =>
   some t1))
def yd (fu:Nat):Int → (List Bool) → z6 → Option (List Bool × z6):=Nat.rec (motive:=fun _ => Int → (List Bool) → z6 → Option (List Bool × z6)) (fun _ _ _ => none) (fun _ ih => wa ih) fu
def uj:Option Int :=
 some (-1)
def yw (s_:List Bool) (v_:Bool) (x8:Int):Option (LR Int (Unit ⊕ Int)) :=
 bif decide (x8 < ((s_.length:Nat):Int)) then (
  Option.bind (idx s_ x8) fun s__e =>
  bif v_ == s__e then (
   some (.done (.inr x8)))
  else (
   some (.next (w64 (x8 + 1)))))
 else (
  some (.done (.inl ())))
def vG (s_:List Bool) (v_:Bool):Option Int :=
 Option.bind (loop (fun s => yw s_ v_ s) 0) fun t2 =>
 match t2 with
 | .inl p => uj
 | .inr p => some p
def xD (s_:List Bool) (v_:Bool):Option Bool :=
 Option.bind (vG s_ v_) fun r_ =>
 some (decide (r_ ≥ 0))
def u9 (m_:z6):Option (Bool × Int) :=
 Option.bind (xS m_) fun r_ =>
 bif r_ != 0 then (
  some (false,r_))
 else (
  gd ((0:Int) ≤ ((m_.Rows.length:Nat):Int) ∧ (((m_.Rows.length:Nat):Int):Int) ≤ 4294967296) <|
  Option.bind (yd fuel 0 (List.replicate ((m_.Rows.length:Nat):Int).toNat false) m_) fun r_1 =>
  Option.bind (xD r_1.1 false) fun r_2 =>
  some (!r_2,0))
def kc (x0:z6):Option Bool :=
 Option.bind (u9 x0) fun r_ =>
 some r_.1
def Yz (m_:z6):Option z6 :=
 some m_
def Zx (out:xh (wz Int)):Option (xh (wz Int)) :=
 some out
def jH (x16:Int) (out2:xh (wz Int)):Option (LR (xh (wz Int) × Int) (xh (wz Int))) :=
 some (.next (out2,w64 (x16 + 1)))
def jG (p_:List Int) (Row_e:List zh) (out1:xh (wz Int)) (x16:Int):Option (LR (xh (wz Int) × Int) (xh (wz Int))) :=
 bif decide (x16 < ((Row_e.length:Nat):Int)) then (
  Option.bind (idx Row_e x16) fun Row_e_e =>
  Option.bind (idx (xh.toL out1) x16) fun cell =>
  Option.bind (some (xh.setI out1 x16 (wz.mk Row_e_e.Out (-1)))) fun arr =>
  bif Row_e_e.To != (-1) then (
   Option.bind (idx p_ Row_e_e.To) fun p__e =>
   Option.bind (idx (xh.toL arr) x16) fun cell1 =>
   Option.bind (some (xh.setI arr x16 (wz.mk cell1.e0 p__e))) fun arr1 =>
   jH x16 arr1)
  else (
   jH x16 arr))
 else (
  some (.done out1))
def jI (m_:z6) (p_:List Int) (s_:Int):Option (xh (wz Int)) :=
 Option.bind (idx m_.Rows s_) fun Row_e =>
 Option.bind (loop (fun s => jG p_ Row_e s.1 s.2) ((xh.mk (wz.mk 0 0) (wz.mk 0 0) (wz.mk 0 0) (wz.mk 0 0) (wz.mk 0 0) (wz.mk 0 0) (wz.mk 0 0) (wz.mk 0 0) (wz.mk 0 0) (wz.mk 0 0) (wz.mk 0 0) (wz.mk 0 0) (wz.mk 0 0) (wz.mk 0 0) (wz.mk 0 0) (wz.mk 0 0)),0)) fun t2 =>
 Zx t2
def je (out:List Int):Option (List Int) :=
 some out
def wI (out1:List Int) (x18:Int) (p__e:Int) (r_:xh (wz Int)) (names1:List (zz × Int)):Option (LR ((List (zz × Int)) × List Int × Int) (List Int)) :=
 Option.bind (some ((z1c names1 (zz.mk p__e r_)).getD 0)) fun val =>
 Option.bind (idx out1 x18) fun out_e =>
 some (.next (names1,(out1.set x18.toNat val),w64 (x18 + 1)))
def vX (m_:z6) (p_:List Int) (names:List (zz × Int)) (out1:List Int) (x18:Int):Option (LR ((List (zz × Int)) × List Int × Int) (List Int)) :=
 bif decide (x18 < ((p_.length:Nat):Int)) then (
  Option.bind (idx p_ x18) fun p__e =>
  Option.bind (jI m_ p_ x18) fun r_ =>
  Option.bind (some ((z1c names (zz.mk p__e r_)).getD 0)) fun val1 =>
  bif !((z1c names (zz.mk p__e r_)).isSome) then (
   wI out1 x18 p__e r_ (z8B names (zz.mk p__e r_) ((names.length:Nat):Int)))
  else (
   wI out1 x18 p__e r_ names))
 else (
  some (.done out1))
def jJ (m_:z6) (p_:List Int):Option (List Int) :=
 gd ((0:Int) ≤ ((p_.length:Nat):Int) ∧ (((p_.length:Nat):Int):Int) ≤ 4294967296) <|
 Option.bind (loop (fun s => vX m_ p_ s.1 s.2.1 s.2.2) (([]:List (zz × Int)),(List.replicate ((p_.length:Nat):Int).toNat (0:Int)),0)) fun t2 =>
 je t2
def wW:Option Bool :=
 some true
def yZ (s1:List Int) (s2:List Int) (x13:Int):Option (LR Int (Unit ⊕ Bool)) :=
 bif decide (x13 < ((s1.length:Nat):Int)) then (
  Option.bind (idx s1 x13) fun s_e =>
  Option.bind (idx s2 x13) fun s_e1 =>
  bif s_e != s_e1 then (
   some (.done (.inr false)))
  else (
   some (.next (w64 (x13 + 1)))))
 else (
  some (.done (.inl ())))
def w5 (s1:List Int) (s2:List Int):Option Bool :=
 bif ((s1.length:Nat):Int) != ((s2.length:Nat):Int) then (
  some false)
 else (
  Option.bind (loop (fun s => yZ s1 s2 s) 0) fun t2 =>
  match t2 with
  | .inl p => wW
  | .inr p => some p)
def vt {σ:Type} (x0:z6) (yy:σ → (List Int) → Option (σ × Bool)) (sg1:σ) (p_:List Int):Option (LR (σ × List Int) σ) :=
 Option.bind (yy sg1 p_) fun yr =>
 bif yr.2 then (
  Option.bind (jJ x0 p_) fun r_ =>
  Option.bind (w5 p_ r_) fun r_1 =>
  bif r_1 then (
   some (.done yr.1))
  else (
   some (.next (yr.1,r_))))
 else (
  some (.done yr.1))
def qC (x0:z6) {σ:Type} (yy:σ → (List Int) → Option (σ × Bool)) (sg:σ):Option σ :=
 gd ((0:Int) ≤ ((x0.Rows.length:Nat):Int) ∧ (((x0.Rows.length:Nat):Int):Int) ≤ 4294967296) <|
 Option.bind (loop (fun s => vt x0 yy s.1 s.2) (sg,(List.replicate ((x0.Rows.length:Nat):Int).toNat (0:Int)))) fun t1 =>
 some t1
def jf (p_:List Int) (n_:Int):Option (List Int × Int × Int) :=
 some (p_,n_,0)
def wJ (p_1:List Int) (n_1:Int) (x14:List Int):Option (LR (List Int × Int) Empty) :=
 some (.next (x14,w64 (n_1 + 1)))
def jK (m_:z6):Option (List Int × Int × Int) :=
 Option.bind (xS m_) fun r_ =>
 bif r_ != 0 then (
  some (([]:List Int),0,r_))
 else (
  Option.bind (Yz m_) fun r_1 =>
  Option.bind (qC r_1 (yOf (fun s x => wJ s.1 s.2 x)) (.next (([]:List Int),(-1)))) fun t2 =>
  match t2 with
  | .next (p_1,n_1) => (
   jf p_1 n_1)
  | .done z => nomatch z)
def vU (m_:Int):Option Int :=
 some m_
def ws (x_:List Int) (m_1:Int) (i_:Int):Option (LR (Int × Int) Int) :=
 bif decide (i_ < ((x_.length:Nat):Int)) then (
  Option.bind (idx x_ i_) fun x__e1 =>
  some (.next ((mx m_1 x__e1),w64 (i_ + 1))))
 else (
  some (.done m_1))
def vV (x_:List Int):Option Int :=
 bif decide (((x_.length:Nat):Int) < 1) then (
  none)
 else (
  Option.bind (idx x_ 0) fun x__e =>
  Option.bind (loop (fun s => ws x_ s.1 s.2) (x__e,1)) fun t2 =>
  vU t2)
def kb (x0:z6):Option Bool :=
 Option.bind (jK x0) fun r_ =>
 Option.bind (vV r_.1) fun r_1 =>
 some (r_1 == (w64 (((r_.1.length:Nat):Int) - 1)))
def qg:Option Int :=
 some 0
def yV (m_:z6):Option Int :=
 Option.bind (xS m_) fun r_ =>
 bif r_ != 0 then (
  some r_)
 else (
  Option.bind (ZK m_) fun r_1 =>
  Option.bind (ke r_1.1.2) fun r_2 =>
  bif !r_2 then (
   some r_1.1.1)
  else (
   Option.bind (kc r_1.2.1.2) fun r_3 =>
   bif !r_3 then (
    some r_1.2.1.1)
   else (
    Option.bind (kb r_1.2.2.2) fun r_4 =>
    bif !r_4 then (
     some r_1.2.2.1)
    else (
     qg))))
def vb (n_:Int):Option Int :=
 some n_
def ki {σ:Type} (x6:Int) (sg2:σ):Option (LR (σ × Int) σ) :=
 some (.next (sg2,w64 (x6 + 1)))
def uQ {σ:Type} (x0:Int) (yy:σ → (Int × Int) → Option (σ × Bool)) (x6:Int) (sg3:σ) (b_:Int):Option (LR (σ × Int) (σ ⊕ σ)) :=
 bif decide (b_ < x0) then (
  Option.bind (yy sg3 (x6,b_)) fun yr =>
  bif !yr.2 then (
   some (.done (.inr yr.1)))
  else (
   some (.next (yr.1,w64 (b_ + 1)))))
 else (
  some (.done (.inl sg3)))
def kh {σ:Type} (x0:Int) (yy:σ → (Int × Int) → Option (σ × Bool)) (sg1:σ) (x6:Int):Option (LR (σ × Int) σ) :=
 bif decide (x6 < x0) then (
  Option.bind (loop (fun s => uQ x0 yy x6 s.1 s.2) (sg1,w64 (x6 + 1))) fun t3 =>
  match t3 with
  | .inl p => ki x6 p
  | .inr p => some (.done p))
 else (
  some (.done sg1))
def yW (x0:Int) {σ:Type} (yy:σ → (Int × Int) → Option (σ × Bool)) (sg:σ):Option σ :=
 Option.bind (loop (fun s => kh x0 yy s.1 s.2) (sg,0)) fun t1 =>
 some t1
def WL (a_:Int) (b_:Int):Option Bool :=
 some true
def ky (s_:Int) (x1:z6):Option Bool :=
 bif decide (s_ < 0) then (
  some true)
 else (
  some (decide (s_ ≥ ((x1.Rows.length:Nat):Int))))
def wg:Option Int :=
 some (-1)
def zZ (s_:List Int) (f_:z6) (x8:Int):Option (LR Int (Unit ⊕ Int)) :=
 bif decide (x8 < ((s_.length:Nat):Int)) then (
  Option.bind (idx s_ x8) fun s__e =>
  Option.bind (ky s__e f_) fun r_ =>
  bif r_ then (
   some (.done (.inr x8)))
  else (
   some (.next (w64 (x8 + 1)))))
 else (
  some (.done (.inl ())))
def yD (s_:List Int) (f_:z6):Option Int :=
 Option.bind (loop (fun s => zZ s_ f_ s) 0) fun t2 =>
 match t2 with
 | .inl p => wg
 | .inr p => some p
def xa (s_:List Int) (f_:z6):Option Bool :=
 Option.bind (yD s_ f_) fun r_ =>
 some (decide (r_ ≥ 0))
def YG (m_:z6) (l_:List Int):Option Int :=
 Option.bind (xS m_) fun r_ =>
 bif r_ != 0 then (
  some r_)
 else (
  Option.bind (xa l_ m_) fun r_1 =>
  bif r_1 then (
   some 1)
  else (
   some 0))
def WD (m_:z6):Option z6 :=
 some m_
def jZ {σ:Type} (x8:Int) (sg2:σ):Option (LR (σ × Int) σ) :=
 some (.next (sg2,w64 (x8 + 1)))
def uu {σ:Type} (x0:z6) (yy:σ → (Int × Int) → Option (σ × Bool)) (x8:Int) (sg3:σ) (t_:Int):Option (LR (σ × Int) (σ ⊕ σ)) :=
 bif decide (t_ < ((x0.Rows.length:Nat):Int)) then (
  Option.bind (yy sg3 (x8,t_)) fun yr =>
  bif !yr.2 then (
   some (.done (.inr yr.1)))
  else (
   some (.next (yr.1,w64 (t_ + 1)))))
 else (
  some (.done (.inl sg3)))
def jY {σ:Type} (x0:z6) (yy:σ → (Int × Int) → Option (σ × Bool)) (sg1:σ) (x8:Int):Option (LR (σ × Int) σ) :=
 bif decide (x8 < ((x0.Rows.length:Nat):Int)) then (
  Option.bind (loop (fun s => uu x0 yy x8 s.1 s.2) (sg1,w64 (x8 + 1))) fun t3 =>
  match t3 with
  | .inl p => jZ x8 p
  | .inr p => some (.done p))
 else (
  some (.done sg1))
def ug (x0:z6) {σ:Type} (yy:σ → (Int × Int) → Option (σ × Bool)) (sg:σ):Option σ :=
 Option.bind (loop (fun s => jY x0 yy s.1 s.2) (sg,0)) fun t1 =>
 some t1
def xV (l:List Int) (n:Int):Option (List Int):=bif l.isEmpty && (decide (0 < n) && decide (n ≤ 1000000)) then some [] else none
def wF (newslice:List Int):Option (List Int) :=
 some newslice
def zK (slices:List (List Int)) (newslice1:List Int) (x27:Int):Option (LR (List Int × Int) (List Int)) :=
 bif decide (x27 < ((slices.length:Nat):Int)) then (
  Option.bind (idx slices x27) fun slice_e =>
  gd (newslice1.length + slice_e.length ≤ 4294967296) <|
  some (.next ((newslice1 ++ slice_e),w64 (x27 + 1))))
 else (
  some (.done newslice1))
def wG (slices:List (List Int)) (size:Int):Option (List Int) :=
 Option.bind (xV [] size) fun r_ =>
 Option.bind (loop (fun s => zK slices s.1 s.2) (r_,0)) fun t3 =>
 wF t3
def zJ (slices:List (List Int)) (size1:Int) (x11:Int):Option (LR (Int × Int) Int) :=
 bif decide (x11 < ((slices.length:Nat):Int)) then (
  Option.bind (idx slices x11) fun slice_e1 =>
  bif decide ((w64 (size1 + ((slice_e1.length:Nat):Int))) < 0) then (
   none)
  else (
   some (.next (w64 (size1 + ((slice_e1.length:Nat):Int)),w64 (x11 + 1)))))
 else (
  some (.done size1))
def wt (slices:List (List Int)):Option (List Int) :=
 Option.bind (loop (fun s => zJ slices s.1 s.2) (0,0)) fun t4 =>
 wG slices t4
def yb (s_:List Int):Option (List Int) :=
 gd ((0:Int) ≤ 0 ∧ (0:Int) ≤ ((s_.length:Nat):Int) ∧ (((s_.length:Nat):Int):Int) ≤ ((s_.length:Nat):Int) ∧ (((s_.length:Nat):Int):Int) ≤ ((s_.length:Nat):Int)) <|
 some ((s_.drop 0).take (((s_.length:Nat):Int).toNat - 0))
def uq (n_:Int) (f_:ArN 64 (ArN 64 (List Int))) (out:List Int):Option (List Int × ArN 64 (ArN 64 (List Int))) :=
 bif ((out.length:Nat):Int) != n_ then (
  some ([],f_))
 else (
  Option.bind (yb out) fun r_ =>
  gd (r_ ≠ []) <|
  some (r_,f_))
def xZ (x21:Int):Option (LR Int (List Int)) :=
 some (.next (w64 (x21 + 1)))
def wR (m_:z6) (t_:Int) (n_:Int) (f_:ArN 64 (ArN 64 (List Int))) (Row_e:List zh) (x21:Int):Option (LR Int (List Int)) :=
 bif decide (x21 < ((Row_e.length:Nat):Int)) then (
  Option.bind (idx Row_e x21) fun Row_e_e =>
  Option.bind (idx m_.Rows t_) fun Row_e1 =>
  Option.bind (idx Row_e1 x21) fun Row_e_e1 =>
  bif Row_e_e.Out != Row_e_e1.Out then (
   some (.done ([x21]:List Int)))
  else (
   bif decide (n_ > 1) then (
    bif Row_e_e.To != (-1) then (
     Option.bind (idx (f_.l) Row_e_e.To) fun cell =>
     Option.bind (idx (cell.l) Row_e_e1.To) fun cell1 =>
     bif ((cell1.length:Nat):Int) == (w64 (n_ - 1)) then (
      Option.bind (idx (f_.l) Row_e_e.To) fun cell2 =>
      Option.bind (idx (cell2.l) Row_e_e1.To) fun cell3 =>
      Option.bind (wt ([[x21],cell3])) fun r_1 =>
      some (.done r_1))
     else (
      xZ x21))
    else (
     xZ x21))
   else (
    xZ x21)))
 else (
  some (.done ([]:List Int)))
def uv (m_:z6) (s_:Int) (t_:Int) (n_:Int) (f_:ArN 64 (ArN 64 (List Int))):Option (List Int × ArN 64 (ArN 64 (List Int))) :=
 Option.bind (idx m_.Rows s_) fun Row_e =>
 Option.bind (loop (fun s => wR m_ t_ n_ f_ Row_e s) 0) fun t2 =>
 uq n_ f_ t2
def qz (s_:Int) (t_:Int) (w_:List Int) (f_:ArN 64 (ArN 64 (List Int))):Option (ArN 64 (ArN 64 (List Int))) :=
 Option.bind (idx (f_.l) s_) fun cell =>
 Option.bind (idx (cell.l) t_) fun cell1 =>
 Option.bind (some (ArN.setI cell t_ w_)) fun arr =>
 Option.bind (some (ArN.setI f_ s_ arr)) fun arr1 =>
 Option.bind (idx (arr1.l) t_) fun cell2 =>
 Option.bind (idx (cell2.l) s_) fun cell3 =>
 Option.bind (some (ArN.setI cell2 s_ w_)) fun arr2 =>
 Option.bind (some (ArN.setI arr1 t_ arr2)) fun arr3 =>
 some arr3
def qd (f_:ArN 64 (ArN 64 (List Int))):Option (ArN 64 (ArN 64 (List Int))) :=
 some f_
def qb (n_:Int) (f_2:ArN 64 (ArN 64 (List Int))):Option (LR (ArN 64 (ArN 64 (List Int)) × Int) (ArN 64 (ArN 64 (List Int)))) :=
 some (.next (f_2,w64 (n_ + 1)))
def vh (now:List zG) (f_4:ArN 64 (ArN 64 (List Int))) (x50:Int):Option (LR (ArN 64 (ArN 64 (List Int)) × Int) (ArN 64 (ArN 64 (List Int)))) :=
 bif decide (x50 < ((now.length:Nat):Int)) then (
  Option.bind (idx now x50) fun now_e =>
  Option.bind (qz now_e.S now_e.T now_e.Word f_4) fun r_ =>
  some (.next (r_,w64 (x50 + 1))))
 else (
  some (.done f_4))
def qa (n_:Int) (f_3:ArN 64 (ArN 64 (List Int))) (now:List zG):Option (LR (ArN 64 (ArN 64 (List Int)) × Int) (ArN 64 (ArN 64 (List Int)))) :=
 Option.bind (loop (fun s => vh now s.1 s.2) (f_3,0)) fun t5 =>
 qb n_ t5
def xL (m_:z6) (n_:Int) (f_5:ArN 64 (ArN 64 (List Int))) (now1:List zG) (x23:Int) (x24:Int):Option (LR (ArN 64 (ArN 64 (List Int)) × List zG) Empty) :=
 Option.bind (idx (f_5.l) x23) fun cell =>
 Option.bind (idx (cell.l) x24) fun cell1 =>
 bif !cell1.isEmpty then (
  some (.next (f_5,now1)))
 else (
  Option.bind (uv m_ x23 x24 n_ f_5) fun r_2 =>
  bif !r_2.1.isEmpty then (
   gd (now1.length + ([(zG.mk x23 x24 r_2.1 false)]:List zG).length ≤ 4294967296) <|
   some (.next (r_2.2,(now1 ++ ([(zG.mk x23 x24 r_2.1 false)]:List zG)))))
  else (
   some (.next (r_2.2,now1))))
def q9 (m_:z6) (f_1:ArN 64 (ArN 64 (List Int))) (n_:Int):Option (LR (ArN 64 (ArN 64 (List Int)) × Int) (ArN 64 (ArN 64 (List Int)))) :=
 bif decide (n_ < (mx ((m_.Rows.length:Nat):Int) 2)) then (
  Option.bind (WD m_) fun r_1 =>
  Option.bind (ug r_1 (yOf (fun s x => xL m_ n_ s.1 s.2 x.1 x.2)) (.next (f_1,([]:List zG)))) fun t6 =>
  match t6 with
  | .next (f_5,now1) => (
   qa n_ f_5 now1)
  | .done z => nomatch z)
 else (
  some (.done f_1))
def qw (m_:z6):Option (ArN 64 (ArN 64 (List Int))) :=
 Option.bind (loop (fun s => q9 m_ s.1 s.2) ((ArN.rep 64 (ArN.rep 64 ([]:List Int))),1)) fun t2 =>
 qd t2
def yz (s_:List Int):Option (List Int) :=
 gd (([]:List Int).length + s_.length ≤ 4294967296) <|
 some s_
def uw (m_:z6) (s_:Int) (t_:Int):Option (List Int × Bool × Int) :=
 Option.bind (YG m_ ([s_,t_])) fun r_ =>
 bif r_ != 0 then (
  some (([]:List Int),false,r_))
 else (
  Option.bind (qw m_) fun r_1 =>
  Option.bind (idx (r_1.l) s_) fun cell =>
  Option.bind (idx (cell.l) t_) fun cell1 =>
  Option.bind (yz cell1) fun r_2 =>
  Option.bind (yb r_2) fun r_3 =>
  some (r_3,decide (((r_3.length:Nat):Int) > 0),0))
def Xg (c_:Int) (x1:Int):Option Bool :=
 bif decide (c_ < 0) then (
  some true)
 else (
  some (decide (c_ ≥ x1)))
def vq:Option Int :=
 some (-1)
def yf (s_:List Int) (f_:Int) (x8:Int):Option (LR Int (Unit ⊕ Int)) :=
 bif decide (x8 < ((s_.length:Nat):Int)) then (
  Option.bind (idx s_ x8) fun s__e =>
  Option.bind (Xg s__e f_) fun r_ =>
  bif r_ then (
   some (.done (.inr x8)))
  else (
   some (.next (w64 (x8 + 1)))))
 else (
  some (.done (.inl ())))
def wD (s_:List Int) (f_:Int):Option Int :=
 Option.bind (loop (fun s => yf s_ f_ s) 0) fun t2 =>
 match t2 with
 | .inl p => vq
 | .inr p => some p
def xW (s_:List Int) (f_:Int):Option Bool :=
 Option.bind (wD s_ f_) fun r_ =>
 some (decide (r_ ≥ 0))
def jy (w_:List Int) (inputs:Int):Option Int :=
 bif decide (inputs > 16) then (
  some 3)
 else (
  bif decide (((w_.length:Nat):Int) > 256) then (
   some 3)
  else (
   bif decide (inputs < 1) then (
    some 1)
   else (
    Option.bind (xW w_ inputs) fun r_ =>
    bif r_ then (
     some 1)
    else (
     some 0))))
def WU:Option Int :=
 some 0
def qS (l_:List (List Int)) (inputs:Int) (x19:Int):Option (LR Int (Unit ⊕ Int)) :=
 bif decide (x19 < ((l_.length:Nat):Int)) then (
  Option.bind (idx l_ x19) fun l__e =>
  Option.bind (jy l__e inputs) fun r_ =>
  bif r_ != 0 then (
   some (.done (.inr r_)))
  else (
   some (.next (w64 (x19 + 1)))))
 else (
  some (.done (.inl ())))
def Ya (l_:List (List Int)) (inputs:Int):Option Int :=
 bif decide (inputs > 16) then (
  some 3)
 else (
  bif decide (((l_.length:Nat):Int) > 4096) then (
   some 3)
  else (
   bif decide (inputs < 1) then (
    some 1)
   else (
    Option.bind (loop (fun s => qS l_ inputs s) 0) fun t2 =>
    match t2 with
    | .inl p => WU
    | .inr p => some p)))
def vW (s_:List (List Int)):Option (List (List Int)) :=
 gd (([]:List (List Int)).length + s_.length ≤ 4294967296) <|
 some s_
def ZU (x_:Int):Option Bool :=
 some (x_ != x_)
def uU (x_:Int) (y_:Int):Option Int :=
 Option.bind (ZU x_) fun r_ =>
 Option.bind (ZU y_) fun r_1 =>
 bif r_ then (
  bif r_1 then (
   some 0)
  else (
   some (-1)))
 else (
  bif r_1 then (
   some 1)
  else (
   bif decide (x_ < y_) then (
    some (-1))
   else (
    bif decide (x_ > y_) then (
     some 1)
    else (
     some 0))))
def wn (s1:List Int) (s2:List Int):Option Int :=
 bif decide (((s1.length:Nat):Int) < ((s2.length:Nat):Int)) then (
  some (-1))
 else (
  some 0)
def yx (s1:List Int) (s2:List Int) (x11:Int):Option (LR Int (Unit ⊕ Int)) :=
 bif decide (x11 < ((s1.length:Nat):Int)) then (
  Option.bind (idx s1 x11) fun s_e =>
  bif decide (x11 ≥ ((s2.length:Nat):Int)) then (
   some (.done (.inr 1)))
  else (
   Option.bind (idx s2 x11) fun s_e1 =>
   Option.bind (uU s_e s_e1) fun r_ =>
   bif r_ != 0 then (
    some (.done (.inr r_)))
   else (
    some (.next (w64 (x11 + 1))))))
 else (
  some (.done (.inl ())))
def w9 (s1:List Int) (s2:List Int):Option Int :=
 Option.bind (loop (fun s => yx s1 s2 s) 0) fun t2 =>
 match t2 with
 | .inl p => wn s1 s2
 | .inr p => some p
def Xl:Option Int :=
 some 0
def kj (vals:List Int) (x8:Int):Option (LR Int (Unit ⊕ Int)) :=
 bif decide (x8 < ((vals.length:Nat):Int)) then (
  Option.bind (idx vals x8) fun val_e =>
  bif val_e != 0 then (
   some (.done (.inr val_e)))
  else (
   some (.next (w64 (x8 + 1)))))
 else (
  some (.done (.inl ())))
def Vt (vals:List Int):Option Int :=
 Option.bind (loop (fun s => kj vals s) 0) fun t2 =>
 match t2 with
 | .inl p => Xl
 | .inr p => some p
def xI (a_:List Int) (b_:List Int):Option Int :=
 Option.bind (uU ((a_.length:Nat):Int) ((b_.length:Nat):Int)) fun r_ =>
 Option.bind (w9 a_ b_) fun r_1 =>
 Option.bind (Vt ([r_,r_1])) fun r_2 =>
 some r_2
def qR (a_:List Int) (b_:List Int):Option Bool :=
 Option.bind (xI a_ b_) fun r_ =>
 some (r_ == 0)
def wu (s_:List (List Int)):Option (List (List Int)) :=
 some s_
def xu (k_:Int):Option (LR Int (Unit ⊕ List (List Int))) :=
 some (.next (w64 (k_ + 1)))
def y6 (s_1:List (List Int)) (k_1:Int):Option (LR Int (Unit ⊕ List (List Int))) :=
 gd ((0:Int) ≤ k_1 ∧ (k_1:Int) ≤ ((s_1.length:Nat):Int)) <|
 gd ((0:Int) ≤ k_1 ∧ (k_1:Int) ≤ ((s_1.length:Nat):Int)) <|
 gd ((0:Int) ≤ k_1 ∧ (k_1:Int) ≤ (((s_1.take k_1.toNat ++ List.replicate (s_1.length - k_1.toNat) []).length:Nat):Int)) <|
 some (.done (.inr ((s_1.take k_1.toNat ++ List.replicate (s_1.length - k_1.toNat) []).take k_1.toNat)))
def y5 (k2:Int) (s_3:List (List Int)) (k_3:Int):Option (LR (List (List Int) × Int × Int) ((List (List Int) × Int))) :=
 some (.next (s_3,k_3,w64 (k2 + 1)))
def y4 (k_:Int) (s_2:List (List Int)) (k_2:Int) (k2:Int):Option (LR (List (List Int) × Int × Int) ((List (List Int) × Int))) :=
 bif decide (k2 < ((s_2.length - k_.toNat:Nat):Int)) then (
  gd ((0:Int) ≤ k_ ∧ (0:Int) ≤ k2) <|
  Option.bind (idx s_2 (k_ + k2)) fun s__e2 =>
  gd ((0:Int) ≤ k_ ∧ (0:Int) ≤ w64 (k2 - 1)) <|
  Option.bind (idx s_2 (k_ + (w64 (k2 - 1)))) fun s__e3 =>
  Option.bind (qR s__e2 s__e3) fun r_1 =>
  bif !r_1 then (
   gd ((0:Int) ≤ k_ ∧ (0:Int) ≤ k2) <|
   Option.bind (idx s_2 (k_ + k2)) fun s__e4 =>
   Option.bind (idx s_2 k_2) fun s__e5 =>
   y5 k2 (s_2.set k_2.toNat s__e4) (w64 (k_2 + 1)))
  else (
   y5 k2 s_2 k_2))
 else (
  some (.done (s_2,k_2)))
def ym (s_:List (List Int)) (k_:Int):Option (LR Int (Unit ⊕ List (List Int))) :=
 bif decide (k_ < ((s_.length:Nat):Int)) then (
  Option.bind (idx s_ k_) fun s__e =>
  Option.bind (idx s_ (w64 (k_ - 1))) fun s__e1 =>
  Option.bind (qR s__e s__e1) fun r_ =>
  bif r_ then (
   gd ((0:Int) ≤ k_ ∧ (k_:Int) ≤ ((s_.length:Nat):Int)) <|
   Option.bind (loop (fun s => y4 k_ s.1 s.2.1 s.2.2) (s_,k_,1)) fun t5 =>
   y6 t5.1 t5.2)
  else (
   xu k_))
 else (
  some (.done (.inl ())))
def yR (s_:List (List Int)) (eq:Unit):Option (List (List Int)) :=
 bif decide (((s_.length:Nat):Int) < 2) then (
  some s_)
 else (
  Option.bind (loop (fun s => ym s_ s) 1) fun t2 =>
  match t2 with
  | .inl p => wu s_
  | .inr p => some p)
def xX (s_:List (List Int)):Option (List (List Int)) :=
 some s_
def WT (n_:Int):Option Int :=
 some n_
def qQ (l_:List (List Int)) (n_1:Int) (x7:Int):Option (LR (Int × Int) Int) :=
 bif decide (x7 < ((l_.length:Nat):Int)) then (
  Option.bind (idx l_ x7) fun l__e =>
  some (.next (w64 (n_1 + ((l__e.length:Nat):Int)),w64 (x7 + 1))))
 else (
  some (.done n_1))
def Y9 (l_:List (List Int)):Option Int :=
 Option.bind (loop (fun s => qQ l_ s.1 s.2) (0,0)) fun t2 =>
 WT t2
def Zl (out:List (List Int × Bool)):Option (List (List Int) × Int) :=
 gd (∀ q ∈ out,q.2 = true) <|
 some ((out.map (·.1)),0)
def wp (r_2:List (List Int)) (out2:List (List Int × Bool)) (x24:Int):Option (LR ((List (List Int × Bool)) × Int) ((List (List Int × Bool)))) :=
 bif decide (x24 < ((r_2.length - (0:Int).toNat:Nat):Int)) then (
  gd ((0:Int) ≤ 0 ∧ (0:Int) ≤ x24) <|
  Option.bind (idx out2 (0 + x24)) fun out_e =>
  Option.bind (yz out_e.1) fun r_4 =>
  Option.bind (yb r_4) fun r_5 =>
  Option.bind (idx out2 x24) fun out_e1 =>
  some (.next ((out2.set x24.toNat (r_5,true)),w64 (x24 + 1))))
 else (
  some (.done out2))
def YF (l_:List (List Int)):Option (List (List Int) × Int) :=
 Option.bind (vW l_) fun r_ =>
 Option.bind (z9j (fun x y => xI x y) r_) fun sorted =>
 Option.bind (yR sorted ()) fun r_1 =>
 Option.bind (xX r_1) fun r_2 =>
 bif decide (((r_2.length:Nat):Int) > 4096) then (
  some (([]:List (List Int)),3))
 else (
  Option.bind (Y9 r_2) fun r_3 =>
  bif decide (r_3 > 65536) then (
   some (([]:List (List Int)),3))
  else (
   Option.bind (loop (fun s => wp r_2 s.1 s.2) ((r_2.map fun q => (q,false)),0)) fun t2 =>
   Zl t2))
def Xv (l_:List (List Int)) (inputs:Int):Option (List (List Int) × Int) :=
 Option.bind (Ya l_ inputs) fun r_ =>
 bif r_ != 0 then (
  some (([]:List (List Int)),r_))
 else (
  Option.bind (YF l_) fun r_1 =>
  some (r_1.1,r_1.2))
def ZQ (m_:z6) (x5:Int) (out:List (List Int)):Option (List (List Int) × Int) :=
 Option.bind (Xv out m_.Inputs) fun r_ =>
 some (r_.1,r_.2)
def uP (m_:z6) (x51:Int) (out1:List (List Int)) (x16:Int) (x17:Int):Option (LR (Int × List (List Int)) ((Int × List (List Int)))) :=
 Option.bind (WL x16 x17) fun r_2 =>
 bif !r_2 then (
  some (.next (x51,out1)))
 else (
  Option.bind (uw m_ x16 x17) fun r_3 =>
  bif r_3.2.2 != 0 then (
   some (.done (r_3.2.2,out1)))
  else (
   gd (out1.length + ([r_3.1]:List (List Int)).length ≤ 4294967296) <|
   some (.next (x51,(out1 ++ ([r_3.1]:List (List Int)))))))
def YM (m_:z6) (is:Unit):Option (List (List Int) × Int) :=
 Option.bind (vb ((m_.Rows.length:Nat):Int)) fun r_1 =>
 Option.bind (yW r_1 (yOf (fun s x => uP m_ s.1 s.2 x.1 x.2)) (.next (0,([]:List (List Int))))) fun t2 =>
 match t2 with
 | .next (x51,out1) => (
  ZQ m_ x51 out1)
 | .done (x51,out1) => (
  some (([]:List (List Int)),x51))
def j6 (m_:z6):Option (List (List Int) × Int) :=
 Option.bind (yV m_) fun r_ =>
 bif r_ != 0 then (
  some (([]:List (List Int)),r_))
 else (
  Option.bind (YM m_ ()) fun r_1 =>
  some (r_1.1,r_1.2))
def kE (m_:z6) (s_:Int):Option Int :=
 Option.bind (xS m_) fun r_ =>
 bif r_ != 0 then (
  some r_)
 else (
  bif decide (s_ < 0) then (
   some 1)
  else (
   bif decide (s_ ≥ ((m_.Rows.length:Nat):Int)) then (
    some 1)
   else (
    some 0)))
def ZN (s_1:Int) (out:List Int):Option (List Int × Int) :=
 some (out,s_1)
def jQ (out1:List Int) (x17:Int) (x_To:Int) (x_Out:Int):Option (LR (Int × List Int × Int) ((Int × List Int))) :=
 Option.bind (idx out1 x17) fun out_e =>
 some (.next (x_To,(out1.set x17.toNat x_Out),w64 (x17 + 1)))
def ZM (m_:z6) (w_:List Int) (s_2:Int) (out1:List Int) (x17:Int):Option (LR (Int × List Int × Int) ((Int × List Int))) :=
 bif decide (x17 < ((w_.length:Nat):Int)) then (
  Option.bind (idx w_ x17) fun w__e =>
  Option.bind (u7) fun r_ =>
  bif s_2 != (-1) then (
   Option.bind (idx m_.Rows s_2) fun Row_e =>
   Option.bind (idx Row_e w__e) fun Row_e_e =>
   jQ out1 x17 Row_e_e.To Row_e_e.Out)
  else (
   jQ out1 x17 r_.To r_.Out))
 else (
  some (.done (s_2,out1)))
def YK (m_:z6) (s_:Int) (w_:List Int):Option (List Int × Int) :=
 gd ((0:Int) ≤ ((w_.length:Nat):Int) ∧ (((w_.length:Nat):Int):Int) ≤ 4294967296) <|
 Option.bind (loop (fun s => ZM m_ w_ s.1 s.2.1 s.2.2) (s_,(List.replicate ((w_.length:Nat):Int).toNat (0:Int)),0)) fun t2 =>
 ZN t2.1 t2.2
def YL (m_:z6) (s_:Int) (w_:List Int):Option (List Int × Int) :=
 Option.bind (kE m_ s_) fun r_ =>
 bif r_ != 0 then (
  some (([]:List Int),r_))
 else (
  Option.bind (jy w_ m_.Inputs) fun r_1 =>
  bif r_1 != 0 then (
   some (([]:List Int),r_1))
  else (
   Option.bind (YK m_ s_ w_) fun r_2 =>
   some (r_2.1,0)))
def yg (s_:List (List Int)):Option (List (List Int)) :=
 some s_
def qm (out:List (List Int)):Option (List (List Int)) :=
 Option.bind (yg out) fun r_ =>
 some r_
def yT (m_:z6) (l_:List (List Int)) (s_:Int) (out1:List (List Int)) (x14:Int):Option (LR (List (List Int) × Int) (List (List Int))) :=
 bif decide (x14 < ((l_.length:Nat):Int)) then (
  Option.bind (idx l_ x14) fun l__e =>
  Option.bind (YL m_ s_ l__e) fun r_1 =>
  gd (out1.length + ([r_1.1]:List (List Int)).length ≤ 4294967296) <|
  some (.next ((out1 ++ ([r_1.1]:List (List Int))),w64 (x14 + 1))))
 else (
  some (.done out1))
def xJ (m_:z6) (l_:List (List Int)) (s_:Int):Option (List (List Int)) :=
 Option.bind (loop (fun s => yT m_ l_ s_ s.1 s.2) (([]:List (List Int)),0)) fun t2 =>
 qm t2
def jp (x_:List Int) (y_:List Int):Option Bool :=
 Option.bind (w5 x_ y_) fun r_ =>
 some r_
def xC:Option Bool :=
 some true
def zQ (s1:List (List Int)) (s2:List (List Int)) (x17:Int):Option (LR Int (Unit ⊕ Bool)) :=
 bif decide (x17 < ((s1.length:Nat):Int)) then (
  Option.bind (idx s1 x17) fun s_e =>
  Option.bind (idx s2 x17) fun s_e1 =>
  Option.bind (jp s_e s_e1) fun r_ =>
  bif !r_ then (
   some (.done (.inr false)))
  else (
   some (.next (w64 (x17 + 1)))))
 else (
  some (.done (.inl ())))
def yG (s1:List (List Int)) (s2:List (List Int)) (eq:Unit):Option Bool :=
 bif ((s1.length:Nat):Int) != ((s2.length:Nat):Int) then (
  some false)
 else (
  Option.bind (loop (fun s => zQ s1 s2 s) 0) fun t2 =>
  match t2 with
  | .inl p => xC
  | .inr p => some p)
def wP (a_:List (List Int)) (b_:List (List Int)):Option Bool :=
 Option.bind (yG a_ b_ ()) fun r_ =>
 some r_
def Zb (out:List Int):Option (List Int) :=
 some out
def qo (out1:List Int) (set_:Int):Option (LR (List Int) Empty) :=
 gd (out1.length + ([set_]:List Int).length ≤ 4294967296) <|
 some (.next (out1 ++ ([set_]:List Int)))
def vD (x17:Int) (set_2:Int):Option (LR (Int × Int) Int) :=
 some (.next (set_2,w64 (x17 + 1)))
def qn (m_:z6) (w_:List (List Int)) (x13:Int) (x14:Int) (set_1:Int) (x17:Int):Option (LR (Int × Int) Int) :=
 bif decide (x17 < ((w_.length:Nat):Int)) then (
  gd ((0:Int) ≤ x17 ∧ (x17:Int) ≤ w64 (x17 + 1) ∧ (w64 (x17 + 1):Int) ≤ ((w_.length:Nat):Int)) <|
  Option.bind (xJ m_ ((w_.drop x17.toNat).take ((w64 (x17 + 1)).toNat - x17.toNat)) x13) fun r_1 =>
  gd ((0:Int) ≤ x17 ∧ (x17:Int) ≤ w64 (x17 + 1) ∧ (w64 (x17 + 1):Int) ≤ ((w_.length:Nat):Int)) <|
  Option.bind (xJ m_ ((w_.drop x17.toNat).take ((w64 (x17 + 1)).toNat - x17.toNat)) x14) fun r_2 =>
  Option.bind (wP r_1 r_2) fun r_3 =>
  bif !r_3 then (
   gd ((0:Int) ≤ x17) <|
   vD x17 (orK .u64 set_1 (z3A .u64 1 x17)))
  else (
   vD x17 set_1))
 else (
  some (.done set_1))
def wi (m_:z6) (w_:List (List Int)) (out1:List Int) (x13:Int) (x14:Int):Option (LR (List Int) Empty) :=
 Option.bind (loop (fun s => qn m_ w_ x13 x14 s.1 s.2) (0,0)) fun t4 =>
 qo out1 t4
def qL (m_:z6) (w_:List (List Int)):Option (List Int) :=
 Option.bind (vb ((m_.Rows.length:Nat):Int)) fun r_ =>
 Option.bind (yW r_ (yOf (fun s x => wi m_ w_ s x.1 x.2)) (.next ([]:List Int))) fun t2 =>
 match t2 with
 | .next out1 => (
  Zb out1)
 | .done z => nomatch z
def uH (x_6:Int):Option Int :=
 some (z3c .i64 (w64 (x_6)) 127)
def uJ (x_5:Int):Option Int :=
 uH (IntKind.u64.wrap (x_5 + (Int.fdiv x_5 (2 ^ 32))))
def uK (x_4:Int):Option Int :=
 uJ (IntKind.u64.wrap (x_4 + (Int.fdiv x_4 (2 ^ 16))))
def uL (x_3:Int):Option Int :=
 uK (IntKind.u64.wrap (x_3 + (Int.fdiv x_3 (2 ^ 8))))
def uM (x_2:Int):Option Int :=
 uL (z3c .u64 (IntKind.u64.wrap ((Int.fdiv x_2 (2 ^ 4)) + x_2)) 1085102592571150095)
def uN (x_1:Int):Option Int :=
 uM (IntKind.u64.wrap ((z3c .u64 (Int.fdiv x_1 (2 ^ 2)) 3689348814741910323) + (z3c .u64 x_1 3689348814741910323)))
def jP (x_:Int):Option Int :=
 uN (IntKind.u64.wrap ((z3c .u64 (Int.fdiv x_ (2 ^ 1)) 6148914691236517205) + (z3c .u64 x_ 6148914691236517205)))
def vB (x_:Int):Option Int :=
 Option.bind (jP x_) fun r_ =>
 some r_
def xE (x_:Int):Option Int :=
 bif x_ == 0 then (
  some 64)
 else (
  Option.bind (idx (z8J.l) (Int.fdiv (IntKind.u64.wrap ((z3c .u64 x_ (IntKind.u64.wrap (0 - x_))) * 285870213051353865)) (2 ^ 58))) fun cell =>
  some (w64 (cell)))
def wY (x_:Int):Option Int :=
 Option.bind (xE x_) fun r_ =>
 some r_
def YN (a_:Int) (b_:Int):Option Bool :=
 Option.bind (wY (zfK .u64 a_ b_)) fun r_ =>
 gd ((0:Int) ≤ r_) <|
 some ((z3c .u64 (Int.fdiv a_ (2 ^ (min (r_).toNat 64))) 1) == 1)
def kV (out:List (List Int)):Option (List (List Int) × Int) :=
 Option.bind (yg out) fun r_2 =>
 some (r_2,0)
def qO (x78:Int) (out2:List (List Int)):Option (LR (List (List Int) × Int) (List (List Int))) :=
 some (.next (out2,w64 (x78 + 1)))
def kT (r_:List (List Int) × Int) (best:Int) (out1:List (List Int)) (x78:Int):Option (LR (List (List Int) × Int) (List (List Int))) :=
 bif decide (x78 < ((r_.1.length:Nat):Int)) then (
  Option.bind (idx r_.1 x78) fun u_ =>
  gd ((0:Int) ≤ x78) <|
  bif (z3c .u64 (Int.fdiv best (2 ^ (min (x78).toNat 64))) 1) == 1 then (
   gd (out1.length + ([u_]:List (List Int)).length ≤ 4294967296) <|
   qO x78 (out1 ++ ([u_]:List (List Int))))
  else (
   qO x78 out1))
 else (
  some (.done out1))
def kW (r_:List (List Int) × Int) (best:Int):Option (List (List Int) × Int) :=
 Option.bind (loop (fun s => kT r_ best s.1 s.2) (([]:List (List Int)),0)) fun t3 =>
 kV t3
def xK (x37:Int) (best2:Int):Option (LR (Int × Int) Int) :=
 some (.next (best2,IntKind.u64.wrap (x37 + 1)))
def kU (x37:Int):Option (LR (Int × Int) Int) :=
 xK x37 x37
def vO (r_1:List Int) (best1:Int) (x37:Int) (x65:Int):Option (LR Int (Unit ⊕ Int)) :=
 bif decide (x65 < ((r_1.length:Nat):Int)) then (
  Option.bind (idx r_1 x65) fun r__e =>
  bif (z3c .u64 r__e x37) == 0 then (
   some (.done (.inr best1)))
  else (
   some (.next (w64 (x65 + 1)))))
 else (
  some (.done (.inl ())))
def vP (r_1:List Int) (best1:Int) (x37:Int) (x61:Bool):Option (LR (Int × Int) Int) :=
 Option.bind (loop (fun s => vO r_1 best1 x37 s) 0) fun t9 =>
 match t9 with
 | .inl p => kU x37
 | .inr p => xK x37 p
def qN (r_:List (List Int) × Int) (r_1:List Int) (best1:Int) (x37:Int):Option (LR (Int × Int) Int) :=
 bif decide (x37 < (z3A .u64 1 ((r_.1.length:Nat):Int))) then (
  Option.bind (vB x37) fun r_3 =>
  Option.bind (vB best1) fun r_4 =>
  bif decide (r_3 > r_4) then (
   xK x37 best1)
  else (
   bif r_3 == r_4 then (
    bif x37 == best1 then (
     xK x37 best1)
    else (
     Option.bind (YN x37 best1) fun r_5 =>
     bif !r_5 then (
      xK x37 best1)
     else (
      vP r_1 best1 x37 (!r_5))))
   else (
    vP r_1 best1 x37 false)))
 else (
  some (.done best1))
def uc (m_:z6):Option (List (List Int) × Int) :=
 Option.bind (j6 m_) fun r_ =>
 bif r_.2 != 0 then (
  some (([]:List (List Int)),r_.2))
 else (
  bif decide (((r_.1.length:Nat):Int) > 12) then (
   some (([]:List (List Int)),3))
  else (
   Option.bind (qL m_ r_.1) fun r_1 =>
   gd ((0:Int) ≤ ((r_.1.length:Nat):Int)) <|
   gd ((0:Int) ≤ ((r_.1.length:Nat):Int)) <|
   Option.bind (loop (fun s => qN r_ r_1 s.1 s.2) (IntKind.u64.wrap ((z3A .u64 1 ((r_.1.length:Nat):Int)) - 1),0)) fun t5 =>
   kW r_ t5))
def W5 (a_:Int) (b_:Int) (x2:Int):Option Bool :=
 bif a_ == x2 then (
  some true)
 else (
  some (b_ == x2))
def qj (m_:z6) (x5:Int) (out:List (List Int)):Option (List (List Int) × Int) :=
 Option.bind (Xv out m_.Inputs) fun r_ =>
 some (r_.1,r_.2)
def yS (m_:z6) (is:Int) (x51:Int) (out1:List (List Int)) (x16:Int) (x17:Int):Option (LR (Int × List (List Int)) ((Int × List (List Int)))) :=
 Option.bind (W5 x16 x17 is) fun r_2 =>
 bif !r_2 then (
  some (.next (x51,out1)))
 else (
  Option.bind (uw m_ x16 x17) fun r_3 =>
  bif r_3.2.2 != 0 then (
   some (.done (r_3.2.2,out1)))
  else (
   gd (out1.length + ([r_3.1]:List (List Int)).length ≤ 4294967296) <|
   some (.next (x51,(out1 ++ ([r_3.1]:List (List Int)))))))
def qK (m_:z6) (is:Int):Option (List (List Int) × Int) :=
 Option.bind (vb ((m_.Rows.length:Nat):Int)) fun r_1 =>
 Option.bind (yW r_1 (yOf (fun s x => yS m_ is s.1 s.2 x.1 x.2)) (.next (0,([]:List (List Int))))) fun t2 =>
 match t2 with
 | .next (x51,out1) => (
  qj m_ x51 out1)
 | .done (x51,out1) => (
  some (([]:List (List Int)),x51))
def qM (m_:z6) (s_:Int):Option (List (List Int) × Int) :=
 Option.bind (yV m_) fun r_ =>
 bif r_ != 0 then (
  some (([]:List (List Int)),r_))
 else (
  bif decide (s_ < 0) then (
   some (([]:List (List Int)),1))
  else (
   bif decide (s_ ≥ ((m_.Rows.length:Nat):Int)) then (
    some (([]:List (List Int)),1))
   else (
    Option.bind (qK m_ s_) fun r_1 =>
    some (r_1.1,r_1.2))))
def Xw (w_:List Int):Option Int :=
 bif decide (((w_.length:Nat):Int) > 256) then (
  some 3)
 else (
  some 0)
def X8:Option Int :=
 some 0
def vL (w_:List Int) (inputs:Int) (i_:Int):Option (LR Int (Unit ⊕ Int)) :=
 bif decide (i_ < ((w_.length:Nat):Int)) then (
  Option.bind (idx w_ i_) fun w__e =>
  bif decide (w__e < 0) then (
   some (.done (.inr 1)))
  else (
   Option.bind (idx w_ i_) fun w__e1 =>
   bif decide (w__e1 ≥ inputs) then (
    some (.done (.inr 1)))
   else (
    some (.next (w64 (i_ + 1))))))
 else (
  some (.done (.inl ())))
def Zy (w_:List Int) (inputs:Int):Option Int :=
 Option.bind (loop (fun s => vL w_ inputs s) 0) fun t2 =>
 match t2 with
 | .inl p => X8
 | .inr p => some p
def V4:Option Int :=
 some 0
def qW (l_:List (List Int)) (inputs:Int) (i_:Int):Option (LR Int (Unit ⊕ Int)) :=
 bif decide (i_ < ((l_.length:Nat):Int)) then (
  Option.bind (idx l_ i_) fun l__e =>
  Option.bind (Xw l__e) fun r_ =>
  bif r_ != 0 then (
   some (.done (.inr r_)))
  else (
   Option.bind (idx l_ i_) fun l__e1 =>
   Option.bind (Zy l__e1 inputs) fun r_1 =>
   bif r_1 != 0 then (
    some (.done (.inr r_1)))
   else (
    some (.next (w64 (i_ + 1))))))
 else (
  some (.done (.inl ())))
def XV (l_:List (List Int)) (inputs:Int):Option Int :=
 bif decide (inputs > 16) then (
  some 3)
 else (
  bif decide (((l_.length:Nat):Int) > 4096) then (
   some 3)
  else (
   bif decide (inputs < 1) then (
    some 1)
   else (
    Option.bind (loop (fun s => qW l_ inputs s) 0) fun t2 =>
    match t2 with
    | .inl p => V4
    | .inr p => some p)))
def X9:Option Int :=
 some 0
def qD (a_:List Int) (b_:List Int) (i_:Int):Option (LR Int (Unit ⊕ Int)) :=
 bif decide (i_ < ((a_.length:Nat):Int)) then (
  Option.bind (idx a_ i_) fun a__e =>
  Option.bind (idx b_ i_) fun b__e =>
  bif decide (a__e < b__e) then (
   some (.done (.inr (-1))))
  else (
   Option.bind (idx a_ i_) fun a__e1 =>
   Option.bind (idx b_ i_) fun b__e1 =>
   bif decide (a__e1 > b__e1) then (
    some (.done (.inr 1)))
   else (
    some (.next (w64 (i_ + 1))))))
 else (
  some (.done (.inl ())))
def k9 (a_:List Int) (b_:List Int):Option Int :=
 bif ((a_.length:Nat):Int) != ((b_.length:Nat):Int) then (
  bif decide (((a_.length:Nat):Int) < ((b_.length:Nat):Int)) then (
   some (-1))
  else (
   some 1))
 else (
  Option.bind (loop (fun s => qD a_ b_ s) 0) fun t2 =>
  match t2 with
  | .inl p => X9
  | .inr p => some p)
def YA (l_:List (List Int)):Option Int :=
 Option.bind (Yk l_) fun r_1 =>
 bif decide (r_1 > 65536) then (
  some 3)
 else (
  some 0)
def qX (l_:List (List Int)) (i_:Int):Option (LR Int (Unit ⊕ Int)) :=
 bif decide (i_ < ((l_.length:Nat):Int)) then (
  Option.bind (idx l_ (w64 (i_ - 1))) fun l__e =>
  Option.bind (idx l_ i_) fun l__e1 =>
  Option.bind (k9 l__e l__e1) fun r_2 =>
  bif decide (r_2 ≥ 0) then (
   some (.done (.inr 1)))
  else (
   some (.next (w64 (i_ + 1)))))
 else (
  some (.done (.inl ())))
def XW (l_:List (List Int)) (inputs:Int):Option Int :=
 Option.bind (XV l_ inputs) fun r_ =>
 bif r_ != 0 then (
  some r_)
 else (
  Option.bind (loop (fun s => qX l_ s) 1) fun t2 =>
  match t2 with
  | .inl p => YA l_
  | .inr p => some p)
def Yt:Option Bool :=
 some true
def qU (l_:List (List Int)) (i_:Int):Option (LR Int (Unit ⊕ Bool)) :=
 bif decide (i_ < ((l_.length:Nat):Int)) then (
  Option.bind (idx l_ (w64 (i_ - 1))) fun l__e =>
  Option.bind (idx l_ i_) fun l__e1 =>
  Option.bind (xI l__e l__e1) fun r_ =>
  bif decide (r_ ≥ 0) then (
   some (.done (.inr false)))
  else (
   some (.next (w64 (i_ + 1)))))
 else (
  some (.done (.inl ())))
def XB (l_:List (List Int)):Option Bool :=
 Option.bind (loop (fun s => qU l_ s) 1) fun t2 =>
 match t2 with
 | .inl p => Yt
 | .inr p => some p
def XC (l_:List (List Int)) (inputs:Int):Option Int :=
 Option.bind (Ya l_ inputs) fun r_ =>
 bif r_ != 0 then (
  some r_)
 else (
  Option.bind (XB l_) fun r_1 =>
  bif !r_1 then (
   some 1)
  else (
   Option.bind (Y9 l_) fun r_2 =>
   bif decide (r_2 > 65536) then (
    some 3)
   else (
    some 0)))
def va (m_:z6) (l_:List (List Int)):Option Int :=
 Option.bind (yV m_) fun r_ =>
 bif r_ != 0 then (
  some r_)
 else (
  Option.bind (XC l_ m_.Inputs) fun r_1 =>
  some r_1)
def ZR:Option (Bool × Int) :=
 some (true,0)
def uR (all:List (List (List Int))) (x35:Int) (x36:Int):Option (LR Unit Unit) :=
 Option.bind (idx all x35) fun all_e =>
 Option.bind (idx all x36) fun all_e1 =>
 Option.bind (wP all_e all_e1) fun r_2 =>
 bif r_2 then (
  some (.done ()))
 else (
  some (.next ()))
def ZS (m_:z6) (all:List (List (List Int))):Option (Bool × Int) :=
 Option.bind (vb ((m_.Rows.length:Nat):Int)) fun r_1 =>
 Option.bind (yW r_1 (yOf (fun s x => uR all x.1 x.2)) (.next ())) fun t3 =>
 match t3 with
 | .next _ => (
  ZR)
 | .done _ => (
  some (false,0))
def wv (m_:z6) (l_:List (List Int)) (all1:List (List (List Int))) (x20:Int):Option (LR (List (List (List Int)) × Int) (List (List (List Int)))) :=
 bif decide (x20 < ((m_.Rows.length:Nat):Int)) then (
  Option.bind (xJ m_ l_ x20) fun r_3 =>
  gd (all1.length + ([r_3]:List (List (List Int))).length ≤ 4294967296) <|
  some (.next ((all1 ++ ([r_3]:List (List (List Int)))),w64 (x20 + 1))))
 else (
  some (.done all1))
def ua (m_:z6) (l_:List (List Int)):Option (Bool × Int) :=
 Option.bind (va m_ l_) fun r_ =>
 bif r_ != 0 then (
  some (false,r_))
 else (
  Option.bind (loop (fun s => wv m_ l_ s.1 s.2) (([]:List (List (List Int))),0)) fun t4 =>
  ZS m_ t4)
def yX (m_:z6) (l_:List (List Int)) (s_:Int):Option (List (List Int) × Int) :=
 Option.bind (va m_ l_) fun r_ =>
 bif r_ != 0 then (
  some (([]:List (List Int)),r_))
 else (
  bif decide (s_ < 0) then (
   some (([]:List (List Int)),1))
  else (
   bif decide (s_ ≥ ((m_.Rows.length:Nat):Int)) then (
    some (([]:List (List Int)),1))
   else (
    Option.bind (xJ m_ l_ s_) fun r_1 =>
    some (r_1,0))))
def uS (a_:List Int) (b_:List Int):Option Bool :=
 some (((a_.length:Nat):Int) == ((b_.length:Nat):Int))
def yK:Option Bool :=
 some true
def zu (s1:List (List Int)) (s2:List (List Int)) (x17:Int):Option (LR Int (Unit ⊕ Bool)) :=
 bif decide (x17 < ((s1.length:Nat):Int)) then (
  Option.bind (idx s1 x17) fun s_e =>
  Option.bind (idx s2 x17) fun s_e1 =>
  Option.bind (uS s_e s_e1) fun r_ =>
  bif !r_ then (
   some (.done (.inr false)))
  else (
   some (.next (w64 (x17 + 1)))))
 else (
  some (.done (.inl ())))
def zF (s1:List (List Int)) (s2:List (List Int)) (eq:Unit):Option Bool :=
 bif ((s1.length:Nat):Int) != ((s2.length:Nat):Int) then (
  some false)
 else (
  Option.bind (loop (fun s => zu s1 s2 s) 0) fun t2 =>
  match t2 with
  | .inl p => yK
  | .inr p => some p)
def jq (out:List Int):Option (List Int × Int) :=
 Option.bind (yb out) fun r_2 =>
 some (r_2,0)
def ub (x24:Int) (out2:List Int):Option (LR (List Int × Int) (List Int)) :=
 some (.next (out2,w64 (x24 + 1)))
def xw (m_:z6) (l_:List (List Int)) (responses:List (List Int)) (out1:List Int) (x24:Int):Option (LR (List Int × Int) (List Int)) :=
 bif decide (x24 < ((m_.Rows.length:Nat):Int)) then (
  Option.bind (xJ m_ l_ x24) fun r_3 =>
  Option.bind (wP r_3 responses) fun r_4 =>
  bif r_4 then (
   gd (out1.length + ([x24]:List Int).length ≤ 4294967296) <|
   ub x24 (out1 ++ ([x24]:List Int)))
  else (
   ub x24 out1))
 else (
  some (.done out1))
def yh (m_:z6) (l_:List (List Int)) (responses:List (List Int)):Option (List Int × Int) :=
 Option.bind (va m_ l_) fun r_ =>
 bif r_ != 0 then (
  some (([]:List Int),r_))
 else (
  Option.bind (zF l_ responses ()) fun r_1 =>
  bif !r_1 then (
   some (([]:List Int),16))
  else (
   Option.bind (loop (fun s => xw m_ l_ responses s.1 s.2) (([]:List Int),0)) fun t2 =>
   jq t2))
def VQ:Option z6 :=
 some (z6.mk 2 2 ([[(zh.mk 1 0),(zh.mk 0 0)],[(zh.mk 2 0),(zh.mk 1 1)],[(zh.mk 0 1),(zh.mk 2 0)]]))
def Yo (l_:List (List Int)):Option (List (List Int)) :=
 some l_
def Xi:Option Bool :=
 some true
def ka (a_:List (List Int)) (b_:List (List Int)) (i_:Int):Option (LR Int (Unit ⊕ Bool)) :=
 bif decide (i_ < ((a_.length:Nat):Int)) then (
  Option.bind (idx a_ i_) fun a__e =>
  Option.bind (idx b_ i_) fun b__e =>
  Option.bind (k9 a__e b__e) fun r_ =>
  bif r_ != 0 then (
   some (.done (.inr false)))
  else (
   some (.next (w64 (i_ + 1)))))
 else (
  some (.done (.inl ())))
def Yl (a_:List (List Int)) (b_:List (List Int)):Option Bool :=
 bif ((a_.length:Nat):Int) != ((b_.length:Nat):Int) then (
  some false)
 else (
  Option.bind (loop (fun s => ka a_ b_ s) 0) fun t2 =>
  match t2 with
  | .inl p => Xi
  | .inr p => some p)
def Zf (a_:List (List Int)) (b_:List (List Int)):Option Bool :=
 Option.bind (Yl a_ b_) fun r_ =>
 bif r_ then (
  some (((a_.length:Nat):Int) == ((a_.length:Nat):Int)))
 else (
  some false)
def Yp (a_:List Int) (b_:List Int):Option Bool :=
 Option.bind (Yl ([a_]) ([b_])) fun r_ =>
 bif r_ then (
  some (((a_.length:Nat):Int) == ((a_.length:Nat):Int)))
 else (
  some false)
def Yn:Option Bool :=
 Option.bind (VQ) fun r_ =>
 Option.bind (Yo ([[0],[1]])) fun r_1 =>
 Option.bind (j6 r_) fun r_2 =>
 Option.bind (qM r_ 0) fun r_3 =>
 Option.bind (qM r_ 1) fun r_4 =>
 Option.bind (qM r_ 2) fun r_5 =>
 Option.bind (uc r_) fun r_6 =>
 bif r_2.2 != 0 then (
  some false)
 else (
  bif r_3.2 != 0 then (
   some false)
  else (
   bif r_4.2 != 0 then (
    some false)
   else (
    bif r_5.2 != 0 then (
     some false)
    else (
     bif r_6.2 != 0 then (
      some false)
     else (
      Option.bind (Zf r_2.1 r_1) fun r_7 =>
      bif !r_7 then (
       some false)
      else (
       Option.bind (Zf r_3.1 r_1) fun r_8 =>
       bif !r_8 then (
        some false)
       else (
        Option.bind (Zf r_4.1 r_1) fun r_9 =>
        bif !r_9 then (
         some false)
        else (
         gd ((0:Int) ≤ 0 ∧ (0:Int) ≤ 1 ∧ (1:Int) ≤ ((r_1.length:Nat):Int)) <|
         Option.bind (Zf r_5.1 ((r_1.drop 0).take ((1:Int).toNat - 0))) fun r_10 =>
         bif !r_10 then (
          some false)
         else (
          Option.bind (Zf r_6.1 r_1) fun r_11 =>
          bif !r_11 then (
           some false)
          else (
           gd ((0:Int) ≤ 0 ∧ (0:Int) ≤ 1 ∧ (1:Int) ≤ ((r_1.length:Nat):Int)) <|
           Option.bind (ua r_ ((r_1.drop 0).take ((1:Int).toNat - 0))) fun r_12 =>
           Option.bind (Yo ([[0,0]])) fun r_13 =>
           Option.bind (ua r_ r_13) fun r_14 =>
           Option.bind (yX r_ r_1 1) fun r_15 =>
           Option.bind (Yo ([[0],[0]])) fun r_16 =>
           Option.bind (yh r_ r_1 r_16) fun r_17 =>
           gd ((0:Int) ≤ 0 ∧ (0:Int) ≤ 1 ∧ (1:Int) ≤ ((r_1.length:Nat):Int)) <|
           Option.bind (Yo ([[0]])) fun r_18 =>
           Option.bind (yh r_ ((r_1.drop 0).take ((1:Int).toNat - 0)) r_18) fun r_19 =>
           gd ((0:Int) ≤ 0 ∧ (0:Int) ≤ 1 ∧ (1:Int) ≤ ((r_1.length:Nat):Int)) <|
           Option.bind (Yo ([[7]])) fun r_20 =>
           Option.bind (yh r_ ((r_1.drop 0).take ((1:Int).toNat - 0)) r_20) fun r_21 =>
           gd ((0:Int) ≤ 0 ∧ (0:Int) ≤ 1 ∧ (1:Int) ≤ ((r_1.length:Nat):Int)) <|
           Option.bind (yh r_ ((r_1.drop 0).take ((1:Int).toNat - 0)) []) fun r_22 =>
           bif r_12.2 == 0 then (
            bif r_14.2 == 0 then (
             bif r_15.2 == 0 then (
              bif r_17.2 == 0 then (
               bif r_19.2 == 0 then (
                bif r_21.2 == 0 then (
                 bif !r_12.1 then (
                  bif r_14.1 then (
                   Option.bind (Zf r_15.1 r_1) fun r_23 =>
                   bif r_23 then (
                    Option.bind (Yp r_17.1 ([0])) fun r_24 =>
                    bif r_24 then (
                     Option.bind (Yp r_19.1 ([0,1])) fun r_25 =>
                     bif r_25 then (
                      bif ((r_21.1.length:Nat):Int) == 0 then (
                       some (r_22.2 == 16))
                      else (
                       some false))
                     else (
                      some false))
                    else (
                     some false))
                   else (
                    some false))
                  else (
                   some false))
                 else (
                  some false))
                else (
                 some false))
               else (
                some false))
              else (
               some false))
             else (
              some false))
            else (
             some false))
           else (
            some false)))))))))))
def VO:Option Bool :=
 some true
def k8 (l_:List (List Int)) (responses:List (List Int)) (i_:Int):Option (LR Int (Unit ⊕ Bool)) :=
 bif decide (i_ < ((l_.length:Nat):Int)) then (
  Option.bind (idx l_ i_) fun l__e =>
  Option.bind (idx responses i_) fun response_e =>
  bif ((l__e.length:Nat):Int) != ((response_e.length:Nat):Int) then (
   some (.done (.inr false)))
  else (
   some (.next (w64 (i_ + 1)))))
 else (
  some (.done (.inl ())))
def Vk (l_:List (List Int)) (responses:List (List Int)):Option Bool :=
 bif ((l_.length:Nat):Int) != ((responses.length:Nat):Int) then (
  some false)
 else (
  Option.bind (loop (fun s => k8 l_ responses s) 0) fun t2 =>
  match t2 with
  | .inl p => VO
  | .inr p => some p)
def Vl (m_:z6) (s_:Int) (i_:Int):Option zh :=
 bif decide (s_ < 0) then (
  some (zh.mk (-1) (-1)))
 else (
  Option.bind (idx m_.Rows s_) fun Row_e =>
  Option.bind (idx Row_e i_) fun Row_e_e =>
  some Row_e_e)
def WI (out:List Int):Option (List Int) :=
 some out
def YJ (m_:z6) (w_:List Int) (s_1:Int) (out1:List Int) (k_:Int):Option (LR (Int × List Int × Int) (List Int)) :=
 bif decide (k_ < ((w_.length:Nat):Int)) then (
  Option.bind (idx w_ k_) fun w__e =>
  Option.bind (Vl m_ s_1 w__e) fun r_ =>
  gd (out1.length + ([r_.Out]:List Int).length ≤ 4294967296) <|
  some (.next (r_.To,(out1 ++ ([r_.Out]:List Int)),w64 (k_ + 1))))
 else (
  some (.done out1))
def UO (m_:z6) (s_:Int) (w_:List Int):Option (List Int) :=
 Option.bind (loop (fun s => YJ m_ w_ s.1 s.2.1 s.2.2) (s_,([]:List Int),0)) fun t2 =>
 WI t2
def jg (out:List (List Int)):Option (List (List Int)) :=
 some out
def xv (m_:z6) (l_:List (List Int)) (s_:Int) (out1:List (List Int)) (i_:Int):Option (LR (List (List Int) × Int) (List (List Int))) :=
 bif decide (i_ < ((l_.length:Nat):Int)) then (
  Option.bind (idx l_ i_) fun l__e =>
  Option.bind (UO m_ s_ l__e) fun r_ =>
  gd (out1.length + ([r_]:List (List Int)).length ≤ 4294967296) <|
  some (.next ((out1 ++ ([r_]:List (List Int))),w64 (i_ + 1))))
 else (
  some (.done out1))
def jL (m_:z6) (l_:List (List Int)) (s_:Int):Option (List (List Int)) :=
 Option.bind (loop (fun s => xv m_ l_ s_ s.1 s.2) (([]:List (List Int)),0)) fun t2 =>
 jg t2
def Yj (out:List Int):Option (List Int) :=
 some out
def uE (s_:Int) (out2:List Int):Option (LR (List Int × Int) (List Int)) :=
 some (.next (out2,w64 (s_ + 1)))
def xN (m_:z6) (l_:List (List Int)) (responses:List (List Int)) (out1:List Int) (s_:Int):Option (LR (List Int × Int) (List Int)) :=
 bif decide (s_ < ((m_.Rows.length:Nat):Int)) then (
  Option.bind (jL m_ l_ s_) fun r_ =>
  Option.bind (Yl r_ responses) fun r_1 =>
  bif r_1 then (
   gd (out1.length + ([s_]:List Int).length ≤ 4294967296) <|
   uE s_ (out1 ++ ([s_]:List Int)))
  else (
   uE s_ out1))
 else (
  some (.done out1))
def kz (m_:z6) (l_:List (List Int)) (responses:List (List Int)):Option (List Int) :=
 Option.bind (loop (fun s => xN m_ l_ responses s.1 s.2) (([]:List Int),0)) fun t2 =>
 Yj t2
def yH (m_:z6) (y_:wy) (state:Int) (f_:Int):Option Bool :=
 Option.bind (ua m_ y_.L) fun r_7 =>
 Option.bind (yX m_ y_.L y_.S) fun r_8 =>
 Option.bind (yh m_ y_.L y_.Responses) fun r_9 =>
 bif f_ != 0 then (
  bif r_7.2 == f_ then (
   bif r_8.2 == f_ then (
    bif r_9.2 == f_ then (
     bif !r_7.1 then (
      bif (w64 (((r_8.1.length:Nat):Int) + ((r_9.1.length:Nat):Int))) == 0 then (
       Option.bind (Yn) fun r_10 =>
       some r_10)
      else (
       some false))
     else (
      some false))
    else (
     some false))
   else (
    some false))
  else (
   some false))
 else (
  bif r_7.2 != 0 then (
   some false)
  else (
   bif r_8.2 != state then (
    some false)
   else (
    Option.bind (Vk y_.L y_.Responses) fun r_11 =>
    bif !((r_9.2 == 0) == r_11) then (
     some false)
    else (
     bif r_9.2 != 0 then (
      bif r_9.2 == 16 then (
       bif ((r_9.1.length:Nat):Int) == 0 then (
        Option.bind (Yn) fun r_12 =>
        some r_12)
       else (
        some false))
      else (
       some false))
     else (
      Option.bind (kz m_ y_.L y_.Responses) fun r_13 =>
      Option.bind (Yp r_9.1 r_13) fun r_14 =>
      bif r_14 then (
       Option.bind (Yn) fun r_15 =>
       some r_15)
      else (
       some false))))))
def xY (m_:z6) (y_:wy) (r_3:Int) (state:Int):Option Bool :=
 bif r_3 == 0 then (
  Option.bind (XW y_.L m_.Inputs) fun r_16 =>
  yH m_ y_ state r_16)
 else (
  yH m_ y_ state r_3)
def yk (m_:z6) (y_:wy) (r_3:Int) (state:Int):Option Bool :=
 Option.bind (qM m_ y_.S) fun r_6 =>
 bif r_6.2 != state then (
  some false)
 else (
  bif state != 0 then (
   bif ((r_6.1.length:Nat):Int) != 0 then (
    some false)
   else (
    xY m_ y_ r_3 state))
  else (
   xY m_ y_ r_3 state))
def wM (m_:z6) (y_:wy) (r_3:Int):Option Bool :=
 bif r_3 == 0 then (
  bif decide (y_.S < 0) then (
   yk m_ y_ r_3 1)
  else (
   bif decide (y_.S ≥ ((m_.Rows.length:Nat):Int)) then (
    yk m_ y_ r_3 1)
   else (
    yk m_ y_ r_3 r_3)))
 else (
  yk m_ y_ r_3 r_3)
def ZP (m_:z6) (y_:wy):Option Bool :=
 Option.bind (W3 m_) fun r_ =>
 bif r_ != 0 then (
  some true)
 else (
  Option.bind (Vq y_.L) fun r_1 =>
  bif r_1 != 0 then (
   some true)
  else (
   Option.bind (Vq y_.Responses) fun r_2 =>
   bif r_2 != 0 then (
    some true)
   else (
    Option.bind (jM m_) fun r_3 =>
    Option.bind (j6 m_) fun r_4 =>
    Option.bind (uc m_) fun r_5 =>
    bif r_3 != 0 then (
     bif r_4.2 != r_3 then (
      some false)
     else (
      bif r_5.2 != r_3 then (
       some false)
      else (
       bif (w64 (((r_4.1.length:Nat):Int) + ((r_5.1.length:Nat):Int))) != 0 then (
        some false)
       else (
        wM m_ y_ r_3))))
    else (
     wM m_ y_ r_3))))
abbrev F0_:=KC (eI .i64)
abbrev F1_:=eOs 1 true (eI .i64)
abbrev F2_:=eSl 1 true (eI .i64)
abbrev F3_:=eSl 1 false (eI .i64)
abbrev F4_:=eOs 1 false (eI .i64)
abbrev F5_:=zav F0_
abbrev F6_:=xz (eI .i64) (eI .i64)
abbrev F7_:=eSl 1 true F2_
abbrev F8_:=eOs 1 true F2_
abbrev F9_:=eSl 1 true F3_
abbrev w8:=eSl 1 false F3_
abbrev zfx:=eOs 1 false F3_
abbrev zlX:=eSl 2 true F6_
abbrev wS:=eSl 2 false F6_
abbrev z0c:=VU (eI .i64) F5_
abbrev zmR:=eSl 1 true zlX
abbrev zmQ:=eSl 1 false wS
abbrev z8P:=v7 (eI .i64) (eI .i64) zmR
abbrev zI:=v7 (eI .i64) (eI .i64) zmQ
abbrev zd6:=UZ w8 w8 (eI .i64)
abbrev z0b:=eSp zI
def rpN {α:Type _} (n:Nat) (a:α) (l:List α):List α:=Nat.rec l (fun _ r => a :: r) n
abbrev aLn (n:Nat):H:=.a (.atom (.int .i64 ((n:Nat):Int)))
end Go.Own

namespace Go.Proofs
open Go.Shelf
def Tryz.so118_ren:Go.Shelf.Ren:=⟨fun | 6 => 118 | 15 => 139 | 14 => 138 | 28 => 161 | 29 => 162 | 20 => 153 | 21 => 154 | 22 => 155 | 23 => 156 | 24 => 157 | 25 => 158 | 26 => 159 | 27 => 160 | 46 => 169 | 47 => 170 | 48 => 171 | 49 => 172 | 50 => 173 | 57 => 174 | n => n,fun | 22 => 32 | 24 => 40 | 25 => 91 | 3 => 3 | 39 => 78 | 0 => 0 | 53 => 104 | 55 => 106 | 4 => 4 | 46 => 180 | 45 => 179 | 50 => 184 | 5 => 5 | 9 => 9 | 66 => 194 | 70 => 198 | 76 => 200 | 77 => 201 | n => n,fun | n => n⟩
theorem Tryz.so118:Go.Proofs.SlLaysF0.n6 Tryz.prog Tryz.so118_ren:={
 mixed:=by kernel_rfl
 f6:=⟨Tryz.f118.name,by decide,Tryz.func118.trans (congrArg some (by kernel_rfl))⟩
 f14:=⟨Tryz.f138.name,by decide,Tryz.func138.trans (congrArg some (by kernel_rfl))⟩
 f15:=Tryz.func139.trans (congrArg some (by kernel_rfl))
 f20:=⟨Tryz.f153.name,by decide,Tryz.func153.trans (congrArg some (by kernel_rfl))⟩
 f21:=⟨Tryz.f154.name,by decide,Tryz.func154.trans (congrArg some (by kernel_rfl))⟩
 f22:=⟨Tryz.f155.name,by decide,Tryz.func155.trans (congrArg some (by kernel_rfl))⟩
 f23:=⟨Tryz.f156.name,by decide,Tryz.func156.trans (congrArg some (by kernel_rfl))⟩
 f24:=⟨Tryz.f157.name,by decide,Tryz.func157.trans (congrArg some (by kernel_rfl))⟩
 f25:=⟨Tryz.f158.name,by decide,Tryz.func158.trans (congrArg some (by kernel_rfl))⟩
 f26:=⟨Tryz.f159.name,by decide,Tryz.func159.trans (congrArg some (by kernel_rfl))⟩
 f27:=⟨Tryz.f160.name,by decide,Tryz.func160.trans (congrArg some (by kernel_rfl))⟩
 f28:=Tryz.func161.trans (congrArg some (by kernel_rfl))
 f29:=Tryz.func162.trans (congrArg some (by kernel_rfl))
 f46:=⟨Tryz.f169.name,by decide,Tryz.func169.trans (congrArg some (by kernel_rfl))⟩
 f47:=Tryz.func170.trans (congrArg some (by kernel_rfl))
 f48:=Tryz.func171.trans (congrArg some (by kernel_rfl))
 f49:=⟨Tryz.f172.name,by decide,Tryz.func172.trans (congrArg some (by kernel_rfl))⟩
 f50:=⟨Tryz.f173.name,by decide,Tryz.func173.trans (congrArg some (by kernel_rfl))⟩
 f57:=⟨Tryz.f174.name,by decide,Tryz.func174.trans (congrArg some (by kernel_rfl))⟩
 t0:=Tryz.underlying0
 a0:=Tryz.isAgg0
 z0:=Tryz.sizeOf0
 v0:=Tryz.zeroValue0
 t3:=Tryz.underlying3
 a3:=Tryz.isAgg3
 z3:=Tryz.sizeOf3
 v3:=Tryz.zeroValue3
 t4:=Tryz.underlying4
 a4:=Tryz.isAgg4
 z4:=Tryz.sizeOf4
 v4:=Tryz.zeroValue4
 t5:=Tryz.underlying5
 a5:=Tryz.isAgg5
 z5:=Tryz.sizeOf5
 v5:=Tryz.zeroValue5
 t9:=Tryz.underlying9
 a9:=Tryz.isAgg9
 z9:=Tryz.sizeOf9
 v9:=Tryz.zeroValue9
 t22:=Tryz.underlying32
 a22:=Tryz.isAgg32
 z22:=Tryz.sizeOf32
 v22:=Tryz.zeroValue32
 t25:=Tryz.underlying91
 a25:=Tryz.isAgg91
 z25:=Tryz.sizeOf91
 v25:=Tryz.zeroValue91
 t39:=Tryz.underlying78
 a39:=Tryz.isAgg78
 z39:=Tryz.sizeOf78
 v39:=Tryz.zeroValue78
 t45:=Tryz.underlying179
 a45:=Tryz.isAgg179
 z45:=Tryz.sizeOf179
 v45:=Tryz.zeroValue179
 t46:=Tryz.underlying180
 a46:=Tryz.isAgg180
 z46:=Tryz.sizeOf180
 v46:=Tryz.zeroValue180
 t50:=Tryz.underlying184
 a50:=Tryz.isAgg184
 z50:=Tryz.sizeOf184
 v50:=Tryz.zeroValue184
 t53:=Tryz.underlying104
 a53:=Tryz.isAgg104
 z53:=Tryz.sizeOf104
 v53:=Tryz.zeroValue104
 t55:=Tryz.underlying106
 a55:=Tryz.isAgg106
 z55:=Tryz.sizeOf106
 v55:=Tryz.zeroValue106
 t66:=Tryz.underlying194
 a66:=Tryz.isAgg194
 z66:=Tryz.sizeOf194
 v66:=Tryz.zeroValue194
 t70:=Tryz.underlying198
 a70:=Tryz.isAgg198
 z70:=Tryz.sizeOf198
 v70:=Tryz.zeroValue198
 t76:=Tryz.underlying200
 a76:=Tryz.isAgg200
 z76:=Tryz.sizeOf200
 v76:=Tryz.zeroValue200
 t77:=Tryz.underlying201
 a77:=Tryz.isAgg201
 z77:=Tryz.sizeOf201
 v77:=Tryz.zeroValue201 }
end Go.Proofs
