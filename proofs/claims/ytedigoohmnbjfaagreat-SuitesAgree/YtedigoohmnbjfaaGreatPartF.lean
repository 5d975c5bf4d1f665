/- -/
import Derived.Test.YtedigoohmnbjfaaGreatPartC
import Derived.Test.YtedigoohmnbjfaaGreatProg
import Derived.Test.YtedigoohmnbjfaaGreatPartD
import Derived.Test.YtedigoohmnbjfaaGreatChecked
import Derived.Lib.AppendZerosOnto
import Derived.Lib.SliceRun
import Derived.WalkKit
import Derived.Lib.Walk
import Derived.Test.YtedigoohmnbjfaaGreatPartE
import Derived.Recover
import Derived.Defers
import Derived.Tactics2
import Derived.Shelf.SlSortCmp.NoneTotal
import Derived.Ground.SlsfProg
set_option linter.unusedVariables false
set_option linter.unusedSimpArgs false
namespace Go.Ex
open Go.Proofs
def i32:EI:=⟨.slice 51,1,24,some [.slice none 0 0],false⟩
theorem q3:EqP Tryz.prog 3 [.int .i64 0] false 1:=z3j (k:=.int .i64) Tryz.underlying3 ⟨_,(by kernel_rfl:Tryz.prog.info? 3=some Tryz.t3),rfl⟩ rfl
theorem q36:EqP Tryz.prog 36 (z7K 3 [.int .i64 0]) true 2:=ZO Tryz.underlying36 q3 ⟨_,(by kernel_rfl:Tryz.prog.info? 36=some Tryz.t36),rfl⟩
def i36:EI:=⟨.array 3 3,3,24,some [.int .i64 0,.int .i64 0,.int .i64 0],true⟩
theorem zl7:z9j Tryz.prog 36 i36:=⟨⟨Tryz.t36,by kernel_rfl,rfl,rfl,fun z h=>by cases h; exact ⟨_,rfl,rfl,WT rfl,rfl,⟨_,rfl⟩⟩⟩,Tryz.underlying36,fun _=>Z9 q36 rfl rfl (Nat.le_of_ble_eq_true (by kernel_rfl)) (by decide)⟩
theorem q33:EqP Tryz.prog 33 [.int .i64 0] false 1:=z3j (k:=.int .i64) Tryz.underlying33 ⟨_,(by kernel_rfl:Tryz.prog.info? 33=some Tryz.t33),rfl⟩ rfl
theorem q45:EqP Tryz.prog 45 (z7K 3 [.int .i64 0]) true 2:=ZO Tryz.underlying45 q33 ⟨_,(by kernel_rfl:Tryz.prog.info? 45=some Tryz.t45),rfl⟩
def i45:EI:=⟨.array 3 33,3,24,some [.int .i64 0,.int .i64 0,.int .i64 0],true⟩
theorem zqC:z9j Tryz.prog 45 i45:=⟨⟨Tryz.t45,by kernel_rfl,rfl,rfl,fun z h=>by cases h; exact ⟨_,rfl,rfl,WT rfl,rfl,⟨_,rfl⟩⟩⟩,Tryz.underlying45,fun _=>Z9 q45 rfl rfl (Nat.le_of_ble_eq_true (by kernel_rfl)) (by decide)⟩
def i64:EI:=⟨.func,1,8,some [.nilFunc],false⟩
theorem q5:EqP Tryz.prog 5 [.int .u8 0] false 1:=z3j (k:=.int .u8) Tryz.underlying5 ⟨_,(by kernel_rfl:Tryz.prog.info? 5=some Tryz.t5),rfl⟩ rfl
theorem q97:EqP Tryz.prog 97 (z7K 4 [.int .u8 0]) true 2:=ZO Tryz.underlying97 q5 ⟨_,(by kernel_rfl:Tryz.prog.info? 97=some Tryz.t97),rfl⟩
def i97:EI:=⟨.array 4 5,4,4,some [.int .u8 0,.int .u8 0,.int .u8 0,.int .u8 0],true⟩
theorem zl6:z9j Tryz.prog 97 i97:=⟨⟨Tryz.t97,by kernel_rfl,rfl,rfl,fun z h=>by cases h; exact ⟨_,rfl,rfl,WT rfl,rfl,⟨_,rfl⟩⟩⟩,Tryz.underlying97,fun _=>Z9 q97 rfl rfl (Nat.le_of_ble_eq_true (by kernel_rfl)) (by decide)⟩
theorem q98:EqP Tryz.prog 98 (Uy [([.int .i64 0],false),([.int .i64 0],false)]) true 2:=XW Tryz.underlying98 (by kernel_rfl) ⟨_,(by kernel_rfl:Tryz.prog.info? 98=some Tryz.t98),rfl⟩ (by decide) (y8.cons (by decide) rfl (q3.mono (by decide)) (y8.cons (by decide) rfl (q3.mono (by decide)) (y8.nil)))
def i98:EI:=⟨.struct [(0,3),(1,3)],2,16,some [.int .i64 0,.int .i64 0],true⟩
theorem zqB:z9j Tryz.prog 98 i98:=⟨⟨Tryz.t98,by kernel_rfl,rfl,rfl,fun z h=>by cases h; exact ⟨_,rfl,rfl,WT rfl,rfl,⟨_,rfl⟩⟩⟩,⟨_,Tryz.underlying98,by kernel_rfl,by
  intro f hf
  simp only [List.mem_cons,List.not_mem_nil,or_false] at hf
  rcases hf with rfl | rfl
  ·exact ⟨Tryz.t3,by kernel_rfl⟩
  ·exact ⟨Tryz.t3,by kernel_rfl⟩⟩,fun _=>Z9 q98 rfl rfl (Nat.le_of_ble_eq_true (by kernel_rfl)) (by decide)⟩
theorem q99:EqP Tryz.prog 99 (Uy [([.int .i64 0],false),([.int .i64 0],false)]) true 2:=XW Tryz.underlying99 (by kernel_rfl) ⟨_,(by kernel_rfl:Tryz.prog.info? 99=some Tryz.t99),rfl⟩ (by decide) (y8.cons (by decide) rfl (q3.mono (by decide)) (y8.cons (by decide) rfl (q3.mono (by decide)) (y8.nil)))
def i99:EI:=⟨.struct [(0,3),(1,3)],2,16,some [.int .i64 0,.int .i64 0],true⟩
theorem zl5:z9j Tryz.prog 99 i99:=⟨⟨Tryz.t99,by kernel_rfl,rfl,rfl,fun z h=>by cases h; exact ⟨_,rfl,rfl,WT rfl,rfl,⟨_,rfl⟩⟩⟩,⟨_,Tryz.underlying99,by kernel_rfl,by
  intro f hf
  simp only [List.mem_cons,List.not_mem_nil,or_false] at hf
  rcases hf with rfl | rfl
  ·exact ⟨Tryz.t3,by kernel_rfl⟩
  ·exact ⟨Tryz.t3,by kernel_rfl⟩⟩,fun _=>Z9 q99 rfl rfl (Nat.le_of_ble_eq_true (by kernel_rfl)) (by decide)⟩
theorem zry:EqP Tryz.prog 120 (z7K 5 [.int .i64 0]) true 2:=ZO Tryz.underlying120 q33 ⟨_,(by kernel_rfl:Tryz.prog.info? 120=some Tryz.t120),rfl⟩
def zrM:EI:=⟨.array 5 33,5,40,some [.int .i64 0,.int .i64 0,.int .i64 0,.int .i64 0,.int .i64 0],true⟩
theorem ziv:z9j Tryz.prog 120 zrM:=⟨⟨Tryz.t120,by kernel_rfl,rfl,rfl,fun z h=>by cases h; exact ⟨_,rfl,rfl,WT rfl,rfl,⟨_,rfl⟩⟩⟩,Tryz.underlying120,fun _=>Z9 zry rfl rfl (Nat.le_of_ble_eq_true (by kernel_rfl)) (by decide)⟩
theorem q21:EqP Tryz.prog 21 [.int .i32 0] false 1:=z3j (k:=.int .i32) Tryz.underlying21 ⟨_,(by kernel_rfl:Tryz.prog.info? 21=some Tryz.t21),rfl⟩ rfl
theorem zrx:EqP Tryz.prog 161 (z7K 16 [.int .i32 0]) true 2:=ZO Tryz.underlying161 q21 ⟨_,(by kernel_rfl:Tryz.prog.info? 161=some Tryz.t161),rfl⟩
def zrL:EI:=⟨.array 16 21,16,64,some [.int .i32 0,.int .i32 0,.int .i32 0,.int .i32 0,.int .i32 0,.int .i32 0,.int .i32 0,.int .i32 0,.int .i32 0,.int .i32 0,.int .i32 0,.int .i32 0,.int .i32 0,.int .i32 0,.int .i32 0,.int .i32 0],true⟩
theorem zoJ:z9j Tryz.prog 161 zrL:=⟨⟨Tryz.t161,by kernel_rfl,rfl,rfl,fun z h=>by cases h; exact ⟨_,rfl,rfl,WT rfl,rfl,⟨_,rfl⟩⟩⟩,Tryz.underlying161,fun _=>Z9 zrx rfl rfl (Nat.le_of_ble_eq_true (by kernel_rfl)) (by decide)⟩
theorem zrw:EqP Tryz.prog 162 (z7K 16 [.int .i32 0]) true 2:=ZO Tryz.underlying162 q21 ⟨_,(by kernel_rfl:Tryz.prog.info? 162=some Tryz.t162),rfl⟩
def zrK:EI:=⟨.array 16 21,16,64,some [.int .i32 0,.int .i32 0,.int .i32 0,.int .i32 0,.int .i32 0,.int .i32 0,.int .i32 0,.int .i32 0,.int .i32 0,.int .i32 0,.int .i32 0,.int .i32 0,.int .i32 0,.int .i32 0,.int .i32 0,.int .i32 0],true⟩
theorem ziu:z9j Tryz.prog 162 zrK:=⟨⟨Tryz.t162,by kernel_rfl,rfl,rfl,fun z h=>by cases h; exact ⟨_,rfl,rfl,WT rfl,rfl,⟨_,rfl⟩⟩⟩,Tryz.underlying162,fun _=>Z9 zrw rfl rfl (Nat.le_of_ble_eq_true (by kernel_rfl)) (by decide)⟩
theorem zrv:EqP Tryz.prog 216 (Uy [([.int .i64 0],false),([.int .i64 0],false),([.int .i64 0],false)]) true 2:=XW Tryz.underlying216 (by kernel_rfl) ⟨_,(by kernel_rfl:Tryz.prog.info? 216=some Tryz.t216),rfl⟩ (by decide) (y8.cons (by decide) rfl (q3.mono (by decide)) (y8.cons (by decide) rfl (q3.mono (by decide)) (y8.cons (by decide) rfl (q3.mono (by decide)) (y8.nil))))
def zrJ:EI:=⟨.struct [(0,3),(1,3),(2,3)],3,24,some [.int .i64 0,.int .i64 0,.int .i64 0],true⟩
theorem zoI:z9j Tryz.prog 216 zrJ:=⟨⟨Tryz.t216,by kernel_rfl,rfl,rfl,fun z h=>by cases h; exact ⟨_,rfl,rfl,WT rfl,rfl,⟨_,rfl⟩⟩⟩,⟨_,Tryz.underlying216,by kernel_rfl,by
  intro f hf
  simp only [List.mem_cons,List.not_mem_nil,or_false] at hf
  rcases hf with rfl | rfl | rfl
  ·exact ⟨Tryz.t3,by kernel_rfl⟩
  ·exact ⟨Tryz.t3,by kernel_rfl⟩
  ·exact ⟨Tryz.t3,by kernel_rfl⟩⟩,fun _=>Z9 zrv rfl rfl (Nat.le_of_ble_eq_true (by kernel_rfl)) (by decide)⟩
theorem zru:EqP Tryz.prog 217 (Uy [([.int .i64 0],false),([.int .i64 0],false),([.int .i64 0],false)]) true 2:=XW Tryz.underlying217 (by kernel_rfl) ⟨_,(by kernel_rfl:Tryz.prog.info? 217=some Tryz.t217),rfl⟩ (by decide) (y8.cons (by decide) rfl (q3.mono (by decide)) (y8.cons (by decide) rfl (q3.mono (by decide)) (y8.cons (by decide) rfl (q3.mono (by decide)) (y8.nil))))
def zrI:EI:=⟨.struct [(0,3),(1,3),(2,3)],3,24,some [.int .i64 0,.int .i64 0,.int .i64 0],true⟩
theorem zit:z9j Tryz.prog 217 zrI:=⟨⟨Tryz.t217,by kernel_rfl,rfl,rfl,fun z h=>by cases h; exact ⟨_,rfl,rfl,WT rfl,rfl,⟨_,rfl⟩⟩⟩,⟨_,Tryz.underlying217,by kernel_rfl,by
  intro f hf
  simp only [List.mem_cons,List.not_mem_nil,or_false] at hf
  rcases hf with rfl | rfl | rfl
  ·exact ⟨Tryz.t3,by kernel_rfl⟩
  ·exact ⟨Tryz.t3,by kernel_rfl⟩
  ·exact ⟨Tryz.t3,by kernel_rfl⟩⟩,fun _=>Z9 zru rfl rfl (Nat.le_of_ble_eq_true (by kernel_rfl)) (by decide)⟩
theorem zoq:EqP Tryz.prog 227 (z7K 2 [.int .i64 0]) true 2:=ZO Tryz.underlying227 q3 ⟨_,(by kernel_rfl:Tryz.prog.info? 227=some Tryz.t227),rfl⟩
def zrH:EI:=⟨.array 2 3,2,16,some [.int .i64 0,.int .i64 0],true⟩
theorem zis:z9j Tryz.prog 227 zrH:=⟨⟨Tryz.t227,by kernel_rfl,rfl,rfl,fun z h=>by cases h; exact ⟨_,rfl,rfl,WT rfl,rfl,⟨_,rfl⟩⟩⟩,Tryz.underlying227,fun _=>Z9 zoq rfl rfl (Nat.le_of_ble_eq_true (by kernel_rfl)) (by decide)⟩
theorem zrt:EqP Tryz.prog 255 (z7K 16 [.int .i64 0,.int .i64 0]) true 3:=ZO Tryz.underlying255 zoq ⟨_,(by kernel_rfl:Tryz.prog.info? 255=some Tryz.t255),rfl⟩
def zrG:EI:=⟨.array 16 227,32,256,some [.int .i64 0,.int .i64 0,.int .i64 0,.int .i64 0,.int .i64 0,.int .i64 0,.int .i64 0,.int .i64 0,.int .i64 0,.int .i64 0,.int .i64 0,.int .i64 0,.int .i64 0,.int .i64 0,.int .i64 0,.int .i64 0,.int .i64 0,.int .i64 0,.int .i64 0,.int .i64 0,.int .i64 0,.int .i64 0,.int .i64 0,.int .i64 0,.int .i64 0,.int .i64 0,.int .i64 0,.int .i64 0,.int .i64 0,.int .i64 0,.int .i64 0,.int .i64 0],true⟩
theorem zoH:z9j Tryz.prog 255 zrG:=⟨⟨Tryz.t255,by kernel_rfl,rfl,rfl,fun z h=>by cases h; exact ⟨_,rfl,rfl,WT rfl,rfl,⟨_,rfl⟩⟩⟩,Tryz.underlying255,fun _=>Z9 zrt rfl rfl (Nat.le_of_ble_eq_true (by kernel_rfl)) (by decide)⟩
theorem zop:EqP Tryz.prog 256 (z7K 16 [.int .i64 0,.int .i64 0]) true 3:=ZO Tryz.underlying256 zoq ⟨_,(by kernel_rfl:Tryz.prog.info? 256=some Tryz.t256),rfl⟩
def zrF:EI:=⟨.array 16 227,32,256,some [.int .i64 0,.int .i64 0,.int .i64 0,.int .i64 0,.int .i64 0,.int .i64 0,.int .i64 0,.int .i64 0,.int .i64 0,.int .i64 0,.int .i64 0,.int .i64 0,.int .i64 0,.int .i64 0,.int .i64 0,.int .i64 0,.int .i64 0,.int .i64 0,.int .i64 0,.int .i64 0,.int .i64 0,.int .i64 0,.int .i64 0,.int .i64 0,.int .i64 0,.int .i64 0,.int .i64 0,.int .i64 0,.int .i64 0,.int .i64 0,.int .i64 0,.int .i64 0],true⟩
theorem zir:z9j Tryz.prog 256 zrF:=⟨⟨Tryz.t256,by kernel_rfl,rfl,rfl,fun z h=>by cases h; exact ⟨_,rfl,rfl,WT rfl,rfl,⟨_,rfl⟩⟩⟩,Tryz.underlying256,fun _=>Z9 zop rfl rfl (Nat.le_of_ble_eq_true (by kernel_rfl)) (by decide)⟩
theorem zrs:EqP Tryz.prog 258 (Uy [([.int .i64 0],false),([.int .i64 0,.int .i64 0,.int .i64 0,.int .i64 0,.int .i64 0,.int .i64 0,.int .i64 0,.int .i64 0,.int .i64 0,.int .i64 0,.int .i64 0,.int .i64 0,.int .i64 0,.int .i64 0,.int .i64 0,.int .i64 0,.int .i64 0,.int .i64 0,.int .i64 0,.int .i64 0,.int .i64 0,.int .i64 0,.int .i64 0,.int .i64 0,.int .i64 0,.int .i64 0,.int .i64 0,.int .i64 0,.int .i64 0,.int .i64 0,.int .i64 0,.int .i64 0],true)]) true 4:=XW Tryz.underlying258 (by kernel_rfl) ⟨_,(by kernel_rfl:Tryz.prog.info? 258=some Tryz.t258),rfl⟩ (by decide) (y8.cons (by decide) rfl (q3.mono (by decide)) (y8.cons (by decide) rfl (zop.mono (by decide)) (y8.nil)))
def zrE:EI:=⟨.struct [(0,3),(1,256)],33,264,some [.int .i64 0,.int .i64 0,.int .i64 0,.int .i64 0,.int .i64 0,.int .i64 0,.int .i64 0,.int .i64 0,.int .i64 0,.int .i64 0,.int .i64 0,.int .i64 0,.int .i64 0,.int .i64 0,.int .i64 0,.int .i64 0,.int .i64 0,.int .i64 0,.int .i64 0,.int .i64 0,.int .i64 0,.int .i64 0,.int .i64 0,.int .i64 0,.int .i64 0,.int .i64 0,.int .i64 0,.int .i64 0,.int .i64 0,.int .i64 0,.int .i64 0,.int .i64 0,.int .i64 0],true⟩
theorem zoG:z9j Tryz.prog 258 zrE:=⟨⟨Tryz.t258,by kernel_rfl,rfl,rfl,fun z h=>by cases h; exact ⟨_,rfl,rfl,WT rfl,rfl,⟨_,rfl⟩⟩⟩,⟨_,Tryz.underlying258,by kernel_rfl,by
  intro f hf
  simp only [List.mem_cons,List.not_mem_nil,or_false] at hf
  rcases hf with rfl | rfl
  ·exact ⟨Tryz.t3,by kernel_rfl⟩
  ·exact ⟨Tryz.t256,by kernel_rfl⟩⟩,fun _=>Z9 zrs rfl rfl (Nat.le_of_ble_eq_true (by kernel_rfl)) (by decide)⟩
theorem zrr:EqP Tryz.prog 259 (Uy [([.int .i64 0],false),([.int .i64 0,.int .i64 0,.int .i64 0,.int .i64 0,.int .i64 0,.int .i64 0,.int .i64 0,.int .i64 0,.int .i64 0,.int .i64 0,.int .i64 0,.int .i64 0,.int .i64 0,.int .i64 0,.int .i64 0,.int .i64 0,.int .i64 0,.int .i64 0,.int .i64 0,.int .i64 0,.int .i64 0,.int .i64 0,.int .i64 0,.int .i64 0,.int .i64 0,.int .i64 0,.int .i64 0,.int .i64 0,.int .i64 0,.int .i64 0,.int .i64 0,.int .i64 0],true)]) true 4:=XW Tryz.underlying259 (by kernel_rfl) ⟨_,(by kernel_rfl:Tryz.prog.info? 259=some Tryz.t259),rfl⟩ (by decide) (y8.cons (by decide) rfl (q3.mono (by decide)) (y8.cons (by decide) rfl (zop.mono (by decide)) (y8.nil)))
def zrD:EI:=⟨.struct [(0,3),(1,256)],33,264,some [.int .i64 0,.int .i64 0,.int .i64 0,.int .i64 0,.int .i64 0,.int .i64 0,.int .i64 0,.int .i64 0,.int .i64 0,.int .i64 0,.int .i64 0,.int .i64 0,.int .i64 0,.int .i64 0,.int .i64 0,.int .i64 0,.int .i64 0,.int .i64 0,.int .i64 0,.int .i64 0,.int .i64 0,.int .i64 0,.int .i64 0,.int .i64 0,.int .i64 0,.int .i64 0,.int .i64 0,.int .i64 0,.int .i64 0,.int .i64 0,.int .i64 0,.int .i64 0,.int .i64 0],true⟩
theorem zcK:z9j Tryz.prog 259 zrD:=⟨⟨Tryz.t259,by kernel_rfl,rfl,rfl,fun z h=>by cases h; exact ⟨_,rfl,rfl,WT rfl,rfl,⟨_,rfl⟩⟩⟩,⟨_,Tryz.underlying259,by kernel_rfl,by
  intro f hf
  simp only [List.mem_cons,List.not_mem_nil,or_false] at hf
  rcases hf with rfl | rfl
  ·exact ⟨Tryz.t3,by kernel_rfl⟩
  ·exact ⟨Tryz.t256,by kernel_rfl⟩⟩,fun _=>Z9 zrr rfl rfl (Nat.le_of_ble_eq_true (by kernel_rfl)) (by decide)⟩
end Go.Ex

namespace Go.Own
open Go.Proofs
def zoF:Value → Bool
 | .int _ _=>true
 | _=>false
theorem z88:∀ {z vs us:List Value} {r:Bool},z.all zoF=true → z.length=vs.length → yX vs us=some r → Go.Ex.z75 z vs=true ∧ Go.Ex.yX vs us=some r
 | [],[],us,r,_,_,h=>by
  cases us with
  | nil=>simp only [yX,Option.some.injEq] at h; subst h; exact ⟨rfl,rfl⟩
  | cons u us=>simp [yX] at h
 | a :: z,v :: vs,us,r,hz,hl,h=>by
  have q:∃ k x u' k' y,v=.int k x ∧ us=.int k' y :: u' ∧ k=k':=by
   cases us with
   | nil=>cases v <;> simp [yX] at h
   | cons u us=>
    cases v <;> cases u <;> simp [yX] at h
    exact ⟨_,_,_,_,_,rfl,rfl,h.1⟩
  obtain ⟨k,x,u',k',y,rfl,rfl,hk⟩:=q
  simp only [yX,hk,if_true,Option.map_eq_some_iff] at h
  obtain ⟨r',e1,rfl⟩:=h
  simp only [List.all_cons,Bool.and_eq_true] at hz
  obtain ⟨q1,q2⟩:=z88 hz.2 (by simpa using hl) e1
  refine ⟨?_,by simp [Go.Ex.yX,hk,q2]⟩
  cases a <;> first | (simp [zoF] at hz; done) | simpa [Go.Ex.z75] using q1
 | [],_ :: _,_,_,_,hl,_=>by simp at hl
 | _ :: _,[],_,_,_,hl,_=>by simp at hl
variable {P:Program}
theorem Qi {t n:Nat} {i:Go.Ex.EI} (h:Go.Ex.zgW P t i) {z:List Value} (hz:i.zero=some z) (hi:z.all zoF=true) (hs:i.size=n) (hn:z.length=n):zgW P t n:={
 guard:=h.guard
 run:=fun vs us r w hv hu he=>by
  obtain ⟨q1,q2⟩:=z88 hi (by rw [hn,hv]) he
  exact h.run vs us r w (by rw [hs]; exact hv) (by rw [hs]; exact hu) (by simpa only [Go.Ex.zoL,hz] using q1) q2 }
variable {h:Array Obj}{S:zl}
theorem zc {v:Value} (hv:v.oneCell'=true):zJ S h (.atom v) [v] []:=by simp only [zJ,Rep]; exact ⟨⟨trivial,hv⟩,trivial⟩
theorem yc (sz:Nat):zJ S h (.osl sz true []) [.slice none 0 0] []:=by
 simp only [zJ]
 exact ⟨none,0,rfl,(fun _=>rfl),Nat.le_refl _,Nat.zero_le _,by simp,.inl ⟨trivial,rfl,rfl,trivial⟩⟩
theorem z9Y {sz:Nat}:zJ S h (.dop (nlQ sz [])) [.slice none 0 0] []:=by
 simp only [zJ,Rep]
 exact ⟨⟨_,rfl,zc8.2 ⟨by simp [Rep],fun _=>rfl⟩⟩,trivial⟩
variable {a:A}
theorem z0U {c:List Value} (q:zJ S h a c []):∀ n,zM S h (List.replicate n a) (List.replicate n c).flatten []
 | 0=>by simp [zM]
 | n + 1=>by
  rw [List.replicate_succ,List.replicate_succ,List.flatten_cons]
  simp only [zM]
  exact ⟨c,_,[],[],rfl,rfl,q,z0U q n⟩
theorem zlg {c c':List Value} (q:zJ S h a c []) (e:c'=c):zJ S h a c' []:=e ▸ q
variable {fs:List A}
theorem zF {cs:List Value} (q:zM S h fs cs []):zJ S h (.agg fs) cs []:=by simpa only [zJ] using q
theorem zA:zM S h [] [] []:=by simp [zM]
theorem za {c1 c2:List Value} (q1:zJ S h a c1 []) (q2:zM S h fs c2 []):zM S h (a :: fs) (c1 ++ c2) []:=by simp only [zM]; exact ⟨c1,c2,[],[],rfl,rfl,q1,q2⟩
def ti1:TI:=⟨.other,1,8,some (.atom .nilFunc),false⟩
theorem zjH:wX Tryz.prog 1 ti1:=⟨⟨Tryz.t1,by kernel_rfl,rfl,rfl,fun z h=>by cases h; exact ⟨_,rfl,rfl,fun S h=>zc rfl⟩⟩,⟨_,Tryz.underlying1,rfl⟩,by intro h; cases h⟩
def ti2:TI:=⟨.int .i64,1,8,some (.atom (.int .i64 0)),false⟩
theorem zjj:wX Tryz.prog 2 ti2:=⟨⟨Tryz.t2,by kernel_rfl,rfl,rfl,fun z h=>by cases h; exact ⟨_,rfl,rfl,fun S h=>zc rfl⟩⟩,Tryz.underlying2,by intro h; cases h⟩
def ti3:TI:=⟨.int .i64,1,8,some (.atom (.int .i64 0)),false⟩
theorem zji:wX Tryz.prog 3 ti3:=⟨⟨Tryz.t3,by kernel_rfl,rfl,rfl,fun z h=>by cases h; exact ⟨_,rfl,rfl,fun S h=>zc rfl⟩⟩,Tryz.underlying3,by intro h; cases h⟩
def ti4:TI:=⟨.bool,1,1,some (.atom (.bool false)),false⟩
theorem zjh:wX Tryz.prog 4 ti4:=⟨⟨Tryz.t4,by kernel_rfl,rfl,rfl,fun z h=>by cases h; exact ⟨_,rfl,rfl,fun S h=>zc rfl⟩⟩,Tryz.underlying4,by intro h; cases h⟩
def ti5:TI:=⟨.int .u8,1,1,some (.atom (.int .u8 0)),false⟩
theorem zjg:wX Tryz.prog 5 ti5:=⟨⟨Tryz.t5,by kernel_rfl,rfl,rfl,fun z h=>by cases h; exact ⟨_,rfl,rfl,fun S h=>zc rfl⟩⟩,Tryz.underlying5,by intro h; cases h⟩
def ti9:TI:=⟨.str,1,16,some (.atom (.string ⟨#[]⟩)),false⟩
theorem zjf:wX Tryz.prog 9 ti9:=⟨⟨Tryz.t9,by kernel_rfl,rfl,rfl,fun z h=>by cases h; exact ⟨_,rfl,rfl,fun S h=>zc rfl⟩⟩,Tryz.underlying9,by intro h; cases h⟩
def zqb:TI:=⟨.other,1,16,some (.atom .nilIface),false⟩
theorem zht:wX Tryz.prog 20 zqb:=⟨⟨Tryz.t20,by kernel_rfl,rfl,rfl,fun z h=>by cases h; exact ⟨_,rfl,rfl,fun S h=>zc rfl⟩⟩,⟨_,Tryz.underlying20,rfl⟩,by intro h; cases h⟩
def zqa:TI:=⟨.int .i32,1,4,some (.atom (.int .i32 0)),false⟩
theorem zhs:wX Tryz.prog 21 zqa:=⟨⟨Tryz.t21,by kernel_rfl,rfl,rfl,fun z h=>by cases h; exact ⟨_,rfl,rfl,fun S h=>zc rfl⟩⟩,Tryz.underlying21,by intro h; cases h⟩
def zq9:TI:=⟨.slice 5,1,24,some (.osl 1 true []),false⟩
theorem zhr:wX Tryz.prog 22 zq9:=⟨⟨Tryz.t22,by kernel_rfl,rfl,rfl,fun z h=>by cases h; exact ⟨_,rfl,rfl,fun S h=>yc _⟩⟩,Tryz.underlying22,by intro h; cases h⟩
def zq8:TI:=⟨.slice 43,1,24,some (.osl 1 true []),false⟩
theorem zhq:wX Tryz.prog 23 zq8:=⟨⟨Tryz.t23,by kernel_rfl,rfl,rfl,fun z h=>by cases h; exact ⟨_,rfl,rfl,fun S h=>yc _⟩⟩,Tryz.underlying23,by intro h; cases h⟩
def zq7:TI:=⟨.slice 96,1,24,some (.osl 1 true []),false⟩
theorem zhp:wX Tryz.prog 28 zq7:=⟨⟨Tryz.t28,by kernel_rfl,rfl,rfl,fun z h=>by cases h; exact ⟨_,rfl,rfl,fun S h=>yc _⟩⟩,Tryz.underlying28,by intro h; cases h⟩
def zq6:TI:=⟨.struct [(0,1),(1,1),(2,1)],3,40,some (.agg [.atom (.int .i64 0),.atom (.int .i64 0),.osl 1 true []]),false⟩
theorem zho:wX Tryz.prog 30 zq6:=⟨⟨Tryz.t30,by kernel_rfl,rfl,rfl,fun z h=>by cases h; exact ⟨_,rfl,rfl,fun S h=>zF (za (zc rfl) (za (zc rfl) (za (yc _) (zA))))⟩⟩,⟨_,Tryz.underlying30,by kernel_rfl,by
  intro f hf
  simp only [List.mem_cons,List.not_mem_nil,or_false] at hf
  rcases hf with rfl | rfl | rfl
  ·exact ⟨Tryz.t3,by kernel_rfl⟩
  ·exact ⟨Tryz.t3,by kernel_rfl⟩
  ·exact ⟨Tryz.t28,by kernel_rfl⟩⟩,by intro h; cases h⟩
def zq5:TI:=⟨.slice 51,1,24,some (.osl 1 true []),false⟩
theorem zhn:wX Tryz.prog 32 zq5:=⟨⟨Tryz.t32,by kernel_rfl,rfl,rfl,fun z h=>by cases h; exact ⟨_,rfl,rfl,fun S h=>yc _⟩⟩,Tryz.underlying32,by intro h; cases h⟩
def zq4:TI:=⟨.int .i64,1,8,some (.atom (.int .i64 0)),false⟩
theorem zhm:wX Tryz.prog 33 zq4:=⟨⟨Tryz.t33,by kernel_rfl,rfl,rfl,fun z h=>by cases h; exact ⟨_,rfl,rfl,fun S h=>zc rfl⟩⟩,Tryz.underlying33,by intro h; cases h⟩
def zq3:TI:=⟨.array 3 3,3,24,some (.agg [.atom (.int .i64 0),.atom (.int .i64 0),.atom (.int .i64 0)]),true⟩
theorem zhl:wX Tryz.prog 36 zq3:=⟨⟨Tryz.t36,by kernel_rfl,rfl,rfl,fun z h=>by cases h; exact ⟨_,rfl,rfl,fun S h=>zF (za (zc rfl) (za (zc rfl) (za (zc rfl) (zA))))⟩⟩,Tryz.underlying36,fun _=>Qi (Go.Ex.zl7.eqn rfl) rfl rfl rfl rfl⟩
def zq2:TI:=⟨.other,1,8,some (.atom .nilFunc),false⟩
theorem zhk:wX Tryz.prog 41 zq2:=⟨⟨Tryz.t41,by kernel_rfl,rfl,rfl,fun z h=>by cases h; exact ⟨_,rfl,rfl,fun S h=>zc rfl⟩⟩,⟨_,Tryz.underlying41,rfl⟩,by intro h; cases h⟩
def zq1:TI:=⟨.int .u16,1,2,some (.atom (.int .u16 0)),false⟩
theorem zhj:wX Tryz.prog 43 zq1:=⟨⟨Tryz.t43,by kernel_rfl,rfl,rfl,fun z h=>by cases h; exact ⟨_,rfl,rfl,fun S h=>zc rfl⟩⟩,Tryz.underlying43,by intro h; cases h⟩
def zq0:TI:=⟨.slice 97,1,24,some (.osl 4 true []),false⟩
theorem zhi:wX Tryz.prog 47 zq0:=⟨⟨Tryz.t47,by kernel_rfl,rfl,rfl,fun z h=>by cases h; exact ⟨_,rfl,rfl,fun S h=>yc _⟩⟩,Tryz.underlying47,by intro h; cases h⟩
def zpZ:TI:=⟨.struct [(0,1),(1,1)],2,48,some (.agg [.osl 1 true [],.osl 4 true []]),false⟩
theorem zhh:wX Tryz.prog 49 zpZ:=⟨⟨Tryz.t49,by kernel_rfl,rfl,rfl,fun z h=>by cases h; exact ⟨_,rfl,rfl,fun S h=>zF (za (yc _) (za (yc _) (zA)))⟩⟩,⟨_,Tryz.underlying49,by kernel_rfl,by
  intro f hf
  simp only [List.mem_cons,List.not_mem_nil,or_false] at hf
  rcases hf with rfl | rfl
  ·exact ⟨Tryz.t22,by kernel_rfl⟩
  ·exact ⟨Tryz.t47,by kernel_rfl⟩⟩,by intro h; cases h⟩
def zpY:TI:=⟨.slice 3,1,24,some (.osl 1 true []),false⟩
theorem zhg:wX Tryz.prog 51 zpY:=⟨⟨Tryz.t51,by kernel_rfl,rfl,rfl,fun z h=>by cases h; exact ⟨_,rfl,rfl,fun S h=>yc _⟩⟩,Tryz.underlying51,by intro h; cases h⟩
def zpX:TI:=⟨.struct [(0,1),(1,1),(2,1),(3,1),(4,1)],5,32,some (.agg [.atom (.int .u8 0),.atom (.int .u8 0),.atom (.int .u8 0),.atom (.bool false),.osl 1 true []]),false⟩
theorem zhf:wX Tryz.prog 67 zpX:=⟨⟨Tryz.t67,by kernel_rfl,rfl,rfl,fun z h=>by cases h; exact ⟨_,rfl,rfl,fun S h=>zF (za (zc rfl) (za (zc rfl) (za (zc rfl) (za (zc rfl) (za (yc _) (zA))))))⟩⟩,⟨_,Tryz.underlying67,by kernel_rfl,by
  intro f hf
  simp only [List.mem_cons,List.not_mem_nil,or_false] at hf
  rcases hf with rfl | rfl | rfl | rfl | rfl
  ·exact ⟨Tryz.t5,by kernel_rfl⟩
  ·exact ⟨Tryz.t5,by kernel_rfl⟩
  ·exact ⟨Tryz.t5,by kernel_rfl⟩
  ·exact ⟨Tryz.t4,by kernel_rfl⟩
  ·exact ⟨Tryz.t23,by kernel_rfl⟩⟩,by intro h; cases h⟩
def zpW:TI:=⟨.slice 22,1,24,some (.osl 1 true []),false⟩
theorem zhe:wX Tryz.prog 68 zpW:=⟨⟨Tryz.t68,by kernel_rfl,rfl,rfl,fun z h=>by cases h; exact ⟨_,rfl,rfl,fun S h=>yc _⟩⟩,Tryz.underlying68,by intro h; cases h⟩
def zpV:TI:=⟨.struct [(0,1),(1,1)],2,32,some (.agg [.atom (.int .u8 0),.osl 1 true []]),false⟩
theorem zhd:wX Tryz.prog 70 zpV:=⟨⟨Tryz.t70,by kernel_rfl,rfl,rfl,fun z h=>by cases h; exact ⟨_,rfl,rfl,fun S h=>zF (za (zc rfl) (za (yc _) (zA)))⟩⟩,⟨_,Tryz.underlying70,by kernel_rfl,by
  intro f hf
  simp only [List.mem_cons,List.not_mem_nil,or_false] at hf
  rcases hf with rfl | rfl
  ·exact ⟨Tryz.t5,by kernel_rfl⟩
  ·exact ⟨Tryz.t68,by kernel_rfl⟩⟩,by intro h; cases h⟩
def zpU:TI:=⟨.struct [],0,0,some (.agg []),false⟩
theorem zhc:wX Tryz.prog 77 zpU:=⟨⟨Tryz.t77,by kernel_rfl,rfl,rfl,fun z h=>by cases h; exact ⟨_,rfl,rfl,fun S h=>zF (zA)⟩⟩,⟨_,Tryz.underlying77,by kernel_rfl,by
  intro f hf
  cases hf⟩,by intro h; cases h⟩
def zpT:TI:=⟨.struct [],0,0,some (.agg []),false⟩
theorem zhb:wX Tryz.prog 78 zpT:=⟨⟨Tryz.t78,by kernel_rfl,rfl,rfl,fun z h=>by cases h; exact ⟨_,rfl,rfl,fun S h=>zF (zA)⟩⟩,⟨_,Tryz.underlying78,by kernel_rfl,by
  intro f hf
  cases hf⟩,by intro h; cases h⟩
def zpS:TI:=⟨.struct [],0,0,some (.agg []),false⟩
theorem zha:wX Tryz.prog 79 zpS:=⟨⟨Tryz.t79,by kernel_rfl,rfl,rfl,fun z h=>by cases h; exact ⟨_,rfl,rfl,fun S h=>zF (zA)⟩⟩,⟨_,Tryz.underlying79,by kernel_rfl,by
  intro f hf
  cases hf⟩,by intro h; cases h⟩
def zpR:TI:=⟨.ptr 119,1,8,some (.atom (.pointer none)),false⟩
theorem zh9:wX Tryz.prog 80 zpR:=⟨⟨Tryz.t80,by kernel_rfl,rfl,rfl,fun z h=>by cases h; exact ⟨_,rfl,rfl,fun S h=>zc rfl⟩⟩,Tryz.underlying80,by intro h; cases h⟩
def zpQ:TI:=⟨.slice 85,1,24,some (.osl 1 true []),false⟩
theorem zh8:wX Tryz.prog 83 zpQ:=⟨⟨Tryz.t83,by kernel_rfl,rfl,rfl,fun z h=>by cases h; exact ⟨_,rfl,rfl,fun S h=>yc _⟩⟩,Tryz.underlying83,by intro h; cases h⟩
def zpP:TI:=⟨.other,1,16,some (.atom .nilIface),false⟩
theorem zh7:wX Tryz.prog 85 zpP:=⟨⟨Tryz.t85,by kernel_rfl,rfl,rfl,fun z h=>by cases h; exact ⟨_,rfl,rfl,fun S h=>zc rfl⟩⟩,⟨_,Tryz.underlying85,rfl⟩,by intro h; cases h⟩
def zpO:TI:=⟨.ptr 91,1,8,some (.atom (.pointer none)),false⟩
theorem zh6:wX Tryz.prog 86 zpO:=⟨⟨Tryz.t86,by kernel_rfl,rfl,rfl,fun z h=>by cases h; exact ⟨_,rfl,rfl,fun S h=>zc rfl⟩⟩,Tryz.underlying86,by intro h; cases h⟩
def zpN:TI:=⟨.slice 162,1,24,some (.osl 16 true []),false⟩
theorem zh5:wX Tryz.prog 89 zpN:=⟨⟨Tryz.t89,by kernel_rfl,rfl,rfl,fun z h=>by cases h; exact ⟨_,rfl,rfl,fun S h=>yc _⟩⟩,Tryz.underlying89,by intro h; cases h⟩
def zpM:TI:=⟨.struct [(0,1),(1,1),(2,1)],3,40,some (.agg [.osl 16 true [],.atom (.int .i64 0),.atom (.int .i64 0)]),false⟩
theorem zh4:wX Tryz.prog 91 zpM:=⟨⟨Tryz.t91,by kernel_rfl,rfl,rfl,fun z h=>by cases h; exact ⟨_,rfl,rfl,fun S h=>zF (za (yc _) (za (zc rfl) (za (zc rfl) (zA))))⟩⟩,⟨_,Tryz.underlying91,by kernel_rfl,by
  intro f hf
  simp only [List.mem_cons,List.not_mem_nil,or_false] at hf
  rcases hf with rfl | rfl | rfl
  ·exact ⟨Tryz.t89,by kernel_rfl⟩
  ·exact ⟨Tryz.t3,by kernel_rfl⟩
  ·exact ⟨Tryz.t3,by kernel_rfl⟩⟩,by intro h; cases h⟩
def zpL:TI:=⟨.slice 99,1,24,some (.osl 2 true []),false⟩
theorem zh3:wX Tryz.prog 96 zpL:=⟨⟨Tryz.t96,by kernel_rfl,rfl,rfl,fun z h=>by cases h; exact ⟨_,rfl,rfl,fun S h=>yc _⟩⟩,Tryz.underlying96,by intro h; cases h⟩
def zpK:TI:=⟨.array 4 5,4,4,some (.agg [.atom (.int .u8 0),.atom (.int .u8 0),.atom (.int .u8 0),.atom (.int .u8 0)]),true⟩
theorem zh2:wX Tryz.prog 97 zpK:=⟨⟨Tryz.t97,by kernel_rfl,rfl,rfl,fun z h=>by cases h; exact ⟨_,rfl,rfl,fun S h=>zF (za (zc rfl) (za (zc rfl) (za (zc rfl) (za (zc rfl) (zA)))))⟩⟩,Tryz.underlying97,fun _=>Qi (Go.Ex.zl6.eqn rfl) rfl rfl rfl rfl⟩
def zpJ:TI:=⟨.struct [(0,1),(1,1)],2,16,some (.agg [.atom (.int .i64 0),.atom (.int .i64 0)]),true⟩
theorem zh1:wX Tryz.prog 99 zpJ:=⟨⟨Tryz.t99,by kernel_rfl,rfl,rfl,fun z h=>by cases h; exact ⟨_,rfl,rfl,fun S h=>zF (za (zc rfl) (za (zc rfl) (zA)))⟩⟩,⟨_,Tryz.underlying99,by kernel_rfl,by
  intro f hf
  simp only [List.mem_cons,List.not_mem_nil,or_false] at hf
  rcases hf with rfl | rfl
  ·exact ⟨Tryz.t3,by kernel_rfl⟩
  ·exact ⟨Tryz.t3,by kernel_rfl⟩⟩,fun _=>Qi (Go.Ex.zl5.eqn rfl) rfl rfl rfl rfl⟩
def zk9:TI:=⟨.slice 4,1,24,some (.osl 1 true []),false⟩
theorem zew:wX Tryz.prog 101 zk9:=⟨⟨Tryz.t101,by kernel_rfl,rfl,rfl,fun z h=>by cases h; exact ⟨_,rfl,rfl,fun S h=>yc _⟩⟩,Tryz.underlying101,by intro h; cases h⟩
def zk8:TI:=⟨.slice 30,1,24,some (.osl 3 true []),false⟩
theorem zev:wX Tryz.prog 104 zk8:=⟨⟨Tryz.t104,by kernel_rfl,rfl,rfl,fun z h=>by cases h; exact ⟨_,rfl,rfl,fun S h=>yc _⟩⟩,Tryz.underlying104,by intro h; cases h⟩
def zk7:TI:=⟨.other,1,8,some (.atom .nilFunc),false⟩
theorem zeu:wX Tryz.prog 109 zk7:=⟨⟨Tryz.t109,by kernel_rfl,rfl,rfl,fun z h=>by cases h; exact ⟨_,rfl,rfl,fun S h=>zc rfl⟩⟩,⟨_,Tryz.underlying109,rfl⟩,by intro h; cases h⟩
def zk6:TI:=⟨.other,1,8,some (.atom .nilFunc),false⟩
theorem zet:wX Tryz.prog 110 zk6:=⟨⟨Tryz.t110,by kernel_rfl,rfl,rfl,fun z h=>by cases h; exact ⟨_,rfl,rfl,fun S h=>zc rfl⟩⟩,⟨_,Tryz.underlying110,rfl⟩,by intro h; cases h⟩
def zk5:TI:=⟨.slice 32,1,24,some (.osl 1 true []),false⟩
theorem zes:wX Tryz.prog 117 zk5:=⟨⟨Tryz.t117,by kernel_rfl,rfl,rfl,fun z h=>by cases h; exact ⟨_,rfl,rfl,fun S h=>yc _⟩⟩,Tryz.underlying117,by intro h; cases h⟩
def zk4:TI:=⟨.struct [(0,3),(3,1),(4,1),(5,1),(6,1),(7,1),(8,1)],9,184,some (.agg [.agg [.atom (.int .i64 0),.atom (.int .i64 0),.osl 1 true []],.osl 1 true [],.osl 1 true [],.osl 1 true [],.osl 1 true [],.osl 1 true [],.osl 1 true []]),false⟩
theorem zer:wX Tryz.prog 119 zk4:=⟨⟨Tryz.t119,by kernel_rfl,rfl,rfl,fun z h=>by cases h; exact ⟨_,rfl,rfl,fun S h=>zF (za (zF (za (zc rfl) (za (zc rfl) (za (yc _) (zA))))) (za (yc _) (za (yc _) (za (yc _) (za (yc _) (za (yc _) (za (yc _) (zA))))))))⟩⟩,⟨_,Tryz.underlying119,by kernel_rfl,by
  intro f hf
  simp only [List.mem_cons,List.not_mem_nil,or_false] at hf
  rcases hf with rfl | rfl | rfl | rfl | rfl | rfl | rfl
  ·exact ⟨Tryz.t30,by kernel_rfl⟩
  ·exact ⟨Tryz.t32,by kernel_rfl⟩
  ·exact ⟨Tryz.t32,by kernel_rfl⟩
  ·exact ⟨Tryz.t32,by kernel_rfl⟩
  ·exact ⟨Tryz.t117,by kernel_rfl⟩
  ·exact ⟨Tryz.t32,by kernel_rfl⟩
  ·exact ⟨Tryz.t32,by kernel_rfl⟩⟩,by intro h; cases h⟩
def zk3:TI:=⟨.array 5 33,5,40,some (.agg [.atom (.int .i64 0),.atom (.int .i64 0),.atom (.int .i64 0),.atom (.int .i64 0),.atom (.int .i64 0)]),true⟩
theorem zeq:wX Tryz.prog 120 zk3:=⟨⟨Tryz.t120,by kernel_rfl,rfl,rfl,fun z h=>by cases h; exact ⟨_,rfl,rfl,fun S h=>zF (za (zc rfl) (za (zc rfl) (za (zc rfl) (za (zc rfl) (za (zc rfl) (zA))))))⟩⟩,Tryz.underlying120,fun _=>Qi (Go.Ex.ziv.eqn rfl) rfl rfl rfl rfl⟩
def zk2:TI:=⟨.struct [],0,0,some (.agg []),false⟩
theorem zep:wX Tryz.prog 124 zk2:=⟨⟨Tryz.t124,by kernel_rfl,rfl,rfl,fun z h=>by cases h; exact ⟨_,rfl,rfl,fun S h=>zF (zA)⟩⟩,⟨_,Tryz.underlying124,by kernel_rfl,by
  intro f hf
  cases hf⟩,by intro h; cases h⟩
def zk1:TI:=⟨.other,1,8,some (.atom .nilFunc),false⟩
theorem zeo:wX Tryz.prog 130 zk1:=⟨⟨Tryz.t130,by kernel_rfl,rfl,rfl,fun z h=>by cases h; exact ⟨_,rfl,rfl,fun S h=>zc rfl⟩⟩,⟨_,Tryz.underlying130,rfl⟩,by intro h; cases h⟩
def zk0:TI:=⟨.other,1,8,some (.atom .nilFunc),false⟩
theorem zen:wX Tryz.prog 132 zk0:=⟨⟨Tryz.t132,by kernel_rfl,rfl,rfl,fun z h=>by cases h; exact ⟨_,rfl,rfl,fun S h=>zc rfl⟩⟩,⟨_,Tryz.underlying132,rfl⟩,by intro h; cases h⟩
def zjZ:TI:=⟨.other,1,8,some (.atom .nilFunc),false⟩
theorem zem:wX Tryz.prog 133 zjZ:=⟨⟨Tryz.t133,by kernel_rfl,rfl,rfl,fun z h=>by cases h; exact ⟨_,rfl,rfl,fun S h=>zc rfl⟩⟩,⟨_,Tryz.underlying133,rfl⟩,by intro h; cases h⟩
def zjY:TI:=⟨.other,1,8,some (.atom .nilFunc),false⟩
theorem zel:wX Tryz.prog 134 zjY:=⟨⟨Tryz.t134,by kernel_rfl,rfl,rfl,fun z h=>by cases h; exact ⟨_,rfl,rfl,fun S h=>zc rfl⟩⟩,⟨_,Tryz.underlying134,rfl⟩,by intro h; cases h⟩
def zjX:TI:=⟨.struct [(0,1),(1,1)],2,16,some (.agg [.atom (.int .i64 0),.atom .nilFunc]),false⟩
theorem zek:wX Tryz.prog 141 zjX:=⟨⟨Tryz.t141,by kernel_rfl,rfl,rfl,fun z h=>by cases h; exact ⟨_,rfl,rfl,fun S h=>zF (za (zc rfl) (za (zc rfl) (zA)))⟩⟩,⟨_,Tryz.underlying141,by kernel_rfl,by
  intro f hf
  simp only [List.mem_cons,List.not_mem_nil,or_false] at hf
  rcases hf with rfl | rfl
  ·exact ⟨Tryz.t33,by kernel_rfl⟩
  ·exact ⟨Tryz.t41,by kernel_rfl⟩⟩,by intro h; cases h⟩
def zjW:TI:=⟨.array 3 141,6,48,some (.agg [.agg [.atom (.int .i64 0),.atom .nilFunc],.agg [.atom (.int .i64 0),.atom .nilFunc],.agg [.atom (.int .i64 0),.atom .nilFunc]]),false⟩
theorem zej:wX Tryz.prog 142 zjW:=⟨⟨Tryz.t142,by kernel_rfl,rfl,rfl,fun z h=>by cases h; exact ⟨_,rfl,rfl,fun S h=>zF (za (zF (za (zc rfl) (za (zc rfl) (zA)))) (za (zF (za (zc rfl) (za (zc rfl) (zA)))) (za (zF (za (zc rfl) (za (zc rfl) (zA)))) (zA))))⟩⟩,Tryz.underlying142,by intro h; cases h⟩
def zjV:TI:=⟨.other,1,8,some (.atom .nilFunc),false⟩
theorem zei:wX Tryz.prog 144 zjV:=⟨⟨Tryz.t144,by kernel_rfl,rfl,rfl,fun z h=>by cases h; exact ⟨_,rfl,rfl,fun S h=>zc rfl⟩⟩,⟨_,Tryz.underlying144,rfl⟩,by intro h; cases h⟩
def zjU:TI:=⟨.struct [(0,1),(1,1)],2,32,some (.agg [.atom (.int .i32 0),.osl 1 true []]),false⟩
theorem zeh:wX Tryz.prog 159 zjU:=⟨⟨Tryz.t159,by kernel_rfl,rfl,rfl,fun z h=>by cases h; exact ⟨_,rfl,rfl,fun S h=>zF (za (zc rfl) (za (yc _) (zA)))⟩⟩,⟨_,Tryz.underlying159,by kernel_rfl,by
  intro f hf
  simp only [List.mem_cons,List.not_mem_nil,or_false] at hf
  rcases hf with rfl | rfl
  ·exact ⟨Tryz.t21,by kernel_rfl⟩
  ·exact ⟨Tryz.t51,by kernel_rfl⟩⟩,by intro h; cases h⟩
def zjT:TI:=⟨.slice 159,1,24,some (.osl 2 true []),false⟩
theorem zeg:wX Tryz.prog 160 zjT:=⟨⟨Tryz.t160,by kernel_rfl,rfl,rfl,fun z h=>by cases h; exact ⟨_,rfl,rfl,fun S h=>yc _⟩⟩,Tryz.underlying160,by intro h; cases h⟩
def zjS:TI:=⟨.array 16 21,16,64,some (.agg [.atom (.int .i32 0),.atom (.int .i32 0),.atom (.int .i32 0),.atom (.int .i32 0),.atom (.int .i32 0),.atom (.int .i32 0),.atom (.int .i32 0),.atom (.int .i32 0),.atom (.int .i32 0),.atom (.int .i32 0),.atom (.int .i32 0),.atom (.int .i32 0),.atom (.int .i32 0),.atom (.int .i32 0),.atom (.int .i32 0),.atom (.int .i32 0)]),true⟩
theorem zef:wX Tryz.prog 162 zjS:=⟨⟨Tryz.t162,by kernel_rfl,rfl,rfl,fun z h=>by cases h; exact ⟨_,rfl,rfl,fun S h=>zF (za (zc rfl) (za (zc rfl) (za (zc rfl) (za (zc rfl) (za (zc rfl) (za (zc rfl) (za (zc rfl) (za (zc rfl) (za (zc rfl) (za (zc rfl) (za (zc rfl) (za (zc rfl) (za (zc rfl) (za (zc rfl) (za (zc rfl) (za (zc rfl) (zA)))))))))))))))))⟩⟩,Tryz.underlying162,fun _=>Qi (Go.Ex.ziu.eqn rfl) rfl rfl rfl rfl⟩
def zjR:TI:=⟨.other,1,8,some (.atom .nilFunc),false⟩
theorem zee:wX Tryz.prog 167 zjR:=⟨⟨Tryz.t167,by kernel_rfl,rfl,rfl,fun z h=>by cases h; exact ⟨_,rfl,rfl,fun S h=>zc rfl⟩⟩,⟨_,Tryz.underlying167,rfl⟩,by intro h; cases h⟩
def zjQ:TI:=⟨.other,1,8,some (.atom .nilFunc),false⟩
theorem zed:wX Tryz.prog 168 zjQ:=⟨⟨Tryz.t168,by kernel_rfl,rfl,rfl,fun z h=>by cases h; exact ⟨_,rfl,rfl,fun S h=>zc rfl⟩⟩,⟨_,Tryz.underlying168,rfl⟩,by intro h; cases h⟩
def zjP:TI:=⟨.other,1,8,some (.atom .nilFunc),false⟩
theorem zec:wX Tryz.prog 174 zjP:=⟨⟨Tryz.t174,by kernel_rfl,rfl,rfl,fun z h=>by cases h; exact ⟨_,rfl,rfl,fun S h=>zc rfl⟩⟩,⟨_,Tryz.underlying174,rfl⟩,by intro h; cases h⟩
def zjO:TI:=⟨.other,1,8,some (.atom .nilFunc),false⟩
theorem zeb:wX Tryz.prog 175 zjO:=⟨⟨Tryz.t175,by kernel_rfl,rfl,rfl,fun z h=>by cases h; exact ⟨_,rfl,rfl,fun S h=>zc rfl⟩⟩,⟨_,Tryz.underlying175,rfl⟩,by intro h; cases h⟩
def zjN:TI:=⟨.struct [(0,1),(1,1)],2,32,some (.agg [.osl 1 true [],.atom (.bool false)]),false⟩
theorem zea:wX Tryz.prog 186 zjN:=⟨⟨Tryz.t186,by kernel_rfl,rfl,rfl,fun z h=>by cases h; exact ⟨_,rfl,rfl,fun S h=>zF (za (yc _) (za (zc rfl) (zA)))⟩⟩,⟨_,Tryz.underlying186,by kernel_rfl,by
  intro f hf
  simp only [List.mem_cons,List.not_mem_nil,or_false] at hf
  rcases hf with rfl | rfl
  ·exact ⟨Tryz.t51,by kernel_rfl⟩
  ·exact ⟨Tryz.t4,by kernel_rfl⟩⟩,by intro h; cases h⟩
def zjM:TI:=⟨.struct [(0,1),(1,1)],2,32,some (.agg [.osl 1 true [],.atom (.bool false)]),false⟩
theorem ze9:wX Tryz.prog 187 zjM:=⟨⟨Tryz.t187,by kernel_rfl,rfl,rfl,fun z h=>by cases h; exact ⟨_,rfl,rfl,fun S h=>zF (za (yc _) (za (zc rfl) (zA)))⟩⟩,⟨_,Tryz.underlying187,by kernel_rfl,by
  intro f hf
  simp only [List.mem_cons,List.not_mem_nil,or_false] at hf
  rcases hf with rfl | rfl
  ·exact ⟨Tryz.t51,by kernel_rfl⟩
  ·exact ⟨Tryz.t4,by kernel_rfl⟩⟩,by intro h; cases h⟩
def zjL:TI:=⟨.other,1,8,some (.atom .nilFunc),false⟩
theorem ze8:wX Tryz.prog 189 zjL:=⟨⟨Tryz.t189,by kernel_rfl,rfl,rfl,fun z h=>by cases h; exact ⟨_,rfl,rfl,fun S h=>zc rfl⟩⟩,⟨_,Tryz.underlying189,rfl⟩,by intro h; cases h⟩
def zjK:TI:=⟨.other,1,8,some (.atom .nilFunc),false⟩
theorem ze7:wX Tryz.prog 191 zjK:=⟨⟨Tryz.t191,by kernel_rfl,rfl,rfl,fun z h=>by cases h; exact ⟨_,rfl,rfl,fun S h=>zc rfl⟩⟩,⟨_,Tryz.underlying191,rfl⟩,by intro h; cases h⟩
def zjJ:TI:=⟨.other,1,8,some (.atom .nilFunc),false⟩
theorem ze6:wX Tryz.prog 192 zjJ:=⟨⟨Tryz.t192,by kernel_rfl,rfl,rfl,fun z h=>by cases h; exact ⟨_,rfl,rfl,fun S h=>zc rfl⟩⟩,⟨_,Tryz.underlying192,rfl⟩,by intro h; cases h⟩
def zjI:TI:=⟨.other,1,8,some (.atom .nilFunc),false⟩
theorem ze5:wX Tryz.prog 199 zjI:=⟨⟨Tryz.t199,by kernel_rfl,rfl,rfl,fun z h=>by cases h; exact ⟨_,rfl,rfl,fun S h=>zc rfl⟩⟩,⟨_,Tryz.underlying199,rfl⟩,by intro h; cases h⟩
def zjG:TI:=⟨.slice 227,1,24,some (.osl 2 true []),false⟩
theorem ze4:wX Tryz.prog 202 zjG:=⟨⟨Tryz.t202,by kernel_rfl,rfl,rfl,fun z h=>by cases h; exact ⟨_,rfl,rfl,fun S h=>yc _⟩⟩,Tryz.underlying202,by intro h; cases h⟩
def zjF:TI:=⟨.other,1,8,some (.atom .nilFunc),false⟩
theorem ze3:wX Tryz.prog 204 zjF:=⟨⟨Tryz.t204,by kernel_rfl,rfl,rfl,fun z h=>by cases h; exact ⟨_,rfl,rfl,fun S h=>zc rfl⟩⟩,⟨_,Tryz.underlying204,rfl⟩,by intro h; cases h⟩
def zjE:TI:=⟨.other,1,8,some (.atom .nilFunc),false⟩
theorem ze2:wX Tryz.prog 205 zjE:=⟨⟨Tryz.t205,by kernel_rfl,rfl,rfl,fun z h=>by cases h; exact ⟨_,rfl,rfl,fun S h=>zc rfl⟩⟩,⟨_,Tryz.underlying205,rfl⟩,by intro h; cases h⟩
def zjD:TI:=⟨.int .u64,1,8,some (.atom (.int .u64 0)),false⟩
theorem ze1:wX Tryz.prog 209 zjD:=⟨⟨Tryz.t209,by kernel_rfl,rfl,rfl,fun z h=>by cases h; exact ⟨_,rfl,rfl,fun S h=>zc rfl⟩⟩,Tryz.underlying209,by intro h; cases h⟩
def zjC:TI:=⟨.other,1,8,some (.atom .nilFunc),false⟩
theorem ze0:wX Tryz.prog 213 zjC:=⟨⟨Tryz.t213,by kernel_rfl,rfl,rfl,fun z h=>by cases h; exact ⟨_,rfl,rfl,fun S h=>zc rfl⟩⟩,⟨_,Tryz.underlying213,rfl⟩,by intro h; cases h⟩
def zjB:TI:=⟨.other,1,8,some (.atom .nilFunc),false⟩
theorem zdZ:wX Tryz.prog 214 zjB:=⟨⟨Tryz.t214,by kernel_rfl,rfl,rfl,fun z h=>by cases h; exact ⟨_,rfl,rfl,fun S h=>zc rfl⟩⟩,⟨_,Tryz.underlying214,rfl⟩,by intro h; cases h⟩
def zjA:TI:=⟨.struct [(0,1),(1,1),(2,1)],3,24,some (.agg [.atom (.int .i64 0),.atom (.int .i64 0),.atom (.int .i64 0)]),true⟩
theorem zdY:wX Tryz.prog 217 zjA:=⟨⟨Tryz.t217,by kernel_rfl,rfl,rfl,fun z h=>by cases h; exact ⟨_,rfl,rfl,fun S h=>zF (za (zc rfl) (za (zc rfl) (za (zc rfl) (zA))))⟩⟩,⟨_,Tryz.underlying217,by kernel_rfl,by
  intro f hf
  simp only [List.mem_cons,List.not_mem_nil,or_false] at hf
  rcases hf with rfl | rfl | rfl
  ·exact ⟨Tryz.t3,by kernel_rfl⟩
  ·exact ⟨Tryz.t3,by kernel_rfl⟩
  ·exact ⟨Tryz.t3,by kernel_rfl⟩⟩,fun _=>Qi (Go.Ex.zit.eqn rfl) rfl rfl rfl rfl⟩
def zjz:TI:=⟨.other,1,8,some (.atom (.map none)),false⟩
theorem zdX:wX Tryz.prog 218 zjz:=⟨⟨Tryz.t218,by kernel_rfl,rfl,rfl,fun z h=>by cases h; exact ⟨_,rfl,rfl,fun S h=>zc rfl⟩⟩,⟨_,Tryz.underlying218,rfl⟩,by intro h; cases h⟩
def zjy:TI:=⟨.array 64 51,64,1536,some (.agg (List.replicate 64 (.dop (nlQ 1 [])))),false⟩
theorem zdW:wX Tryz.prog 221 zjy:=⟨⟨Tryz.t221,by kernel_rfl,rfl,rfl,fun z h=>by cases h; exact ⟨_,rfl,by kernel_rfl,fun S h=>zlg (zF (z0U (z9Y) 64)) (by kernel_rfl)⟩⟩,Tryz.underlying221,by intro h; cases h⟩
def zjx:TI:=⟨.ptr 246,1,8,some (.atom (.pointer none)),false⟩
theorem zdV:wX Tryz.prog 222 zjx:=⟨⟨Tryz.t222,by kernel_rfl,rfl,rfl,fun z h=>by cases h; exact ⟨_,rfl,rfl,fun S h=>zc rfl⟩⟩,Tryz.underlying222,by intro h; cases h⟩
def zjw:TI:=⟨.other,1,8,some (.atom .nilFunc),false⟩
theorem zdU:wX Tryz.prog 224 zjw:=⟨⟨Tryz.t224,by kernel_rfl,rfl,rfl,fun z h=>by cases h; exact ⟨_,rfl,rfl,fun S h=>zc rfl⟩⟩,⟨_,Tryz.underlying224,rfl⟩,by intro h; cases h⟩
def zjv:TI:=⟨.other,1,8,some (.atom .nilFunc),false⟩
theorem zdT:wX Tryz.prog 225 zjv:=⟨⟨Tryz.t225,by kernel_rfl,rfl,rfl,fun z h=>by cases h; exact ⟨_,rfl,rfl,fun S h=>zc rfl⟩⟩,⟨_,Tryz.underlying225,rfl⟩,by intro h; cases h⟩
def zju:TI:=⟨.array 2 3,2,16,some (.agg [.atom (.int .i64 0),.atom (.int .i64 0)]),true⟩
theorem zdS:wX Tryz.prog 227 zju:=⟨⟨Tryz.t227,by kernel_rfl,rfl,rfl,fun z h=>by cases h; exact ⟨_,rfl,rfl,fun S h=>zF (za (zc rfl) (za (zc rfl) (zA)))⟩⟩,Tryz.underlying227,fun _=>Qi (Go.Ex.zis.eqn rfl) rfl rfl rfl rfl⟩
def zjt:TI:=⟨.other,1,8,some (.atom .nilFunc),false⟩
theorem zdR:wX Tryz.prog 229 zjt:=⟨⟨Tryz.t229,by kernel_rfl,rfl,rfl,fun z h=>by cases h; exact ⟨_,rfl,rfl,fun S h=>zc rfl⟩⟩,⟨_,Tryz.underlying229,rfl⟩,by intro h; cases h⟩
def zjs:TI:=⟨.other,1,8,some (.atom .nilFunc),false⟩
theorem zdQ:wX Tryz.prog 243 zjs:=⟨⟨Tryz.t243,by kernel_rfl,rfl,rfl,fun z h=>by cases h; exact ⟨_,rfl,rfl,fun S h=>zc rfl⟩⟩,⟨_,Tryz.underlying243,rfl⟩,by intro h; cases h⟩
def zjr:TI:=⟨.slice 217,1,24,some (.osl 3 true []),false⟩
theorem zdP:wX Tryz.prog 244 zjr:=⟨⟨Tryz.t244,by kernel_rfl,rfl,rfl,fun z h=>by cases h; exact ⟨_,rfl,rfl,fun S h=>yc _⟩⟩,Tryz.underlying244,by intro h; cases h⟩
def zjq:TI:=⟨.array 64 221,4096,98304,some (.agg (List.replicate 64 (.agg (List.replicate 64 (.dop (nlQ 1 [])))))),false⟩
theorem zdO:wX Tryz.prog 246 zjq:=⟨⟨Tryz.t246,by kernel_rfl,rfl,rfl,fun z h=>by cases h; exact ⟨_,rfl,by kernel_rfl,fun S h=>zlg (zF (z0U (zF (z0U (z9Y) 64)) 64)) (by kernel_rfl)⟩⟩,Tryz.underlying246,by intro h; cases h⟩
def zjp:TI:=⟨.slice 251,1,24,some (.osl 4 true []),false⟩
theorem zdN:wX Tryz.prog 247 zjp:=⟨⟨Tryz.t247,by kernel_rfl,rfl,rfl,fun z h=>by cases h; exact ⟨_,rfl,rfl,fun S h=>yc _⟩⟩,Tryz.underlying247,by intro h; cases h⟩
def zjo:TI:=⟨.struct [(0,1),(1,1),(2,1),(3,1)],4,48,some (.agg [.atom (.int .i64 0),.atom (.int .i64 0),.osl 1 true [],.atom (.bool false)]),false⟩
theorem zdM:wX Tryz.prog 251 zjo:=⟨⟨Tryz.t251,by kernel_rfl,rfl,rfl,fun z h=>by cases h; exact ⟨_,rfl,rfl,fun S h=>zF (za (zc rfl) (za (zc rfl) (za (yc _) (za (zc rfl) (zA)))))⟩⟩,⟨_,Tryz.underlying251,by kernel_rfl,by
  intro f hf
  simp only [List.mem_cons,List.not_mem_nil,or_false] at hf
  rcases hf with rfl | rfl | rfl | rfl
  ·exact ⟨Tryz.t3,by kernel_rfl⟩
  ·exact ⟨Tryz.t3,by kernel_rfl⟩
  ·exact ⟨Tryz.t51,by kernel_rfl⟩
  ·exact ⟨Tryz.t4,by kernel_rfl⟩⟩,by intro h; cases h⟩
def zjn:TI:=⟨.other,1,8,some (.atom .nilFunc),false⟩
theorem zdL:wX Tryz.prog 253 zjn:=⟨⟨Tryz.t253,by kernel_rfl,rfl,rfl,fun z h=>by cases h; exact ⟨_,rfl,rfl,fun S h=>zc rfl⟩⟩,⟨_,Tryz.underlying253,rfl⟩,by intro h; cases h⟩
def zjm:TI:=⟨.other,1,8,some (.atom (.map none)),false⟩
theorem zdK:wX Tryz.prog 254 zjm:=⟨⟨Tryz.t254,by kernel_rfl,rfl,rfl,fun z h=>by cases h; exact ⟨_,rfl,rfl,fun S h=>zc rfl⟩⟩,⟨_,Tryz.underlying254,rfl⟩,by intro h; cases h⟩
def zjl:TI:=⟨.array 16 227,32,256,some (.agg [.agg [.atom (.int .i64 0),.atom (.int .i64 0)],.agg [.atom (.int .i64 0),.atom (.int .i64 0)],.agg [.atom (.int .i64 0),.atom (.int .i64 0)],.agg [.atom (.int .i64 0),.atom (.int .i64 0)],.agg [.atom (.int .i64 0),.atom (.int .i64 0)],.agg [.atom (.int .i64 0),.atom (.int .i64 0)],.agg [.atom (.int .i64 0),.atom (.int .i64 0)],.agg [.atom (.int .i64 0),.atom (.int .i64 0)],.agg [.atom (.int .i64 0),.atom (.int .i64 0)],.agg [.atom (.int .i64 0),.atom (.int .i64 0)],.agg [.atom (.int .i64 0),.atom (.int .i64 0)],.agg [.atom (.int .i64 0),.atom (.int .i64 0)],.agg [.atom (.int .i64 0),.atom (.int .i64 0)],.agg [.atom (.int .i64 0),.atom (.int .i64 0)],.agg [.atom (.int .i64 0),.atom (.int .i64 0)],.agg [.atom (.int .i64 0),.atom (.int .i64 0)]]),true⟩
theorem zdJ:wX Tryz.prog 256 zjl:=⟨⟨Tryz.t256,by kernel_rfl,rfl,rfl,fun z h=>by cases h; exact ⟨_,rfl,rfl,fun S h=>zF (za (zF (za (zc rfl) (za (zc rfl) (zA)))) (za (zF (za (zc rfl) (za (zc rfl) (zA)))) (za (zF (za (zc rfl) (za (zc rfl) (zA)))) (za (zF (za (zc rfl) (za (zc rfl) (zA)))) (za (zF (za (zc rfl) (za (zc rfl) (zA)))) (za (zF (za (zc rfl) (za (zc rfl) (zA)))) (za (zF (za (zc rfl) (za (zc rfl) (zA)))) (za (zF (za (zc rfl) (za (zc rfl) (zA)))) (za (zF (za (zc rfl) (za (zc rfl) (zA)))) (za (zF (za (zc rfl) (za (zc rfl) (zA)))) (za (zF (za (zc rfl) (za (zc rfl) (zA)))) (za (zF (za (zc rfl) (za (zc rfl) (zA)))) (za (zF (za (zc rfl) (za (zc rfl) (zA)))) (za (zF (za (zc rfl) (za (zc rfl) (zA)))) (za (zF (za (zc rfl) (za (zc rfl) (zA)))) (za (zF (za (zc rfl) (za (zc rfl) (zA)))) (zA)))))))))))))))))⟩⟩,Tryz.underlying256,fun _=>Qi (Go.Ex.zir.eqn rfl) rfl rfl rfl rfl⟩
def zjk:TI:=⟨.struct [(0,1),(1,32)],33,264,some (.agg [.atom (.int .i64 0),.agg [.agg [.atom (.int .i64 0),.atom (.int .i64 0)],.agg [.atom (.int .i64 0),.atom (.int .i64 0)],.agg [.atom (.int .i64 0),.atom (.int .i64 0)],.agg [.atom (.int .i64 0),.atom (.int .i64 0)],.agg [.atom (.int .i64 0),.atom (.int .i64 0)],.agg [.atom (.int .i64 0),.atom (.int .i64 0)],.agg [.atom (.int .i64 0),.atom (.int .i64 0)],.agg [.atom (.int .i64 0),.atom (.int .i64 0)],.agg [.atom (.int .i64 0),.atom (.int .i64 0)],.agg [.atom (.int .i64 0),.atom (.int .i64 0)],.agg [.atom (.int .i64 0),.atom (.int .i64 0)],.agg [.atom (.int .i64 0),.atom (.int .i64 0)],.agg [.atom (.int .i64 0),.atom (.int .i64 0)],.agg [.atom (.int .i64 0),.atom (.int .i64 0)],.agg [.atom (.int .i64 0),.atom (.int .i64 0)],.agg [.atom (.int .i64 0),.atom (.int .i64 0)]]]),true⟩
theorem z9l:wX Tryz.prog 259 zjk:=⟨⟨Tryz.t259,by kernel_rfl,rfl,rfl,fun z h=>by cases h; exact ⟨_,rfl,rfl,fun S h=>zF (za (zc rfl) (za (zF (za (zF (za (zc rfl) (za (zc rfl) (zA)))) (za (zF (za (zc rfl) (za (zc rfl) (zA)))) (za (zF (za (zc rfl) (za (zc rfl) (zA)))) (za (zF (za (zc rfl) (za (zc rfl) (zA)))) (za (zF (za (zc rfl) (za (zc rfl) (zA)))) (za (zF (za (zc rfl) (za (zc rfl) (zA)))) (za (zF (za (zc rfl) (za (zc rfl) (zA)))) (za (zF (za (zc rfl) (za (zc rfl) (zA)))) (za (zF (za (zc rfl) (za (zc rfl) (zA)))) (za (zF (za (zc rfl) (za (zc rfl) (zA)))) (za (zF (za (zc rfl) (za (zc rfl) (zA)))) (za (zF (za (zc rfl) (za (zc rfl) (zA)))) (za (zF (za (zc rfl) (za (zc rfl) (zA)))) (za (zF (za (zc rfl) (za (zc rfl) (zA)))) (za (zF (za (zc rfl) (za (zc rfl) (zA)))) (za (zF (za (zc rfl) (za (zc rfl) (zA)))) (zA)))))))))))))))))) (zA)))⟩⟩,⟨_,Tryz.underlying259,by kernel_rfl,by
  intro f hf
  simp only [List.mem_cons,List.not_mem_nil,or_false] at hf
  rcases hf with rfl | rfl
  ·exact ⟨Tryz.t3,by kernel_rfl⟩
  ·exact ⟨Tryz.t256,by kernel_rfl⟩⟩,fun _=>Qi (Go.Ex.zcK.eqn rfl) rfl rfl rfl rfl⟩
def tiL:List (Nat × TI):=[(1,ti1),(2,ti2),(3,ti3),(4,ti4),(5,ti5),(9,ti9),(20,zqb),(21,zqa),(22,zq9),(23,zq8),(28,zq7),(30,zq6),(32,zq5),(33,zq4),(36,zq3),(41,zq2),(43,zq1),(47,zq0),(49,zpZ),(51,zpY),(67,zpX),(68,zpW),(70,zpV),(77,zpU),(78,zpT),(79,zpS),(80,zpR),(83,zpQ),(85,zpP),(86,zpO),(89,zpN),(91,zpM),(96,zpL),(97,zpK),(99,zpJ),(101,zk9),(104,zk8),(109,zk7),(110,zk6),(117,zk5),(119,zk4),(120,zk3),(124,zk2),(130,zk1),(132,zk0),(133,zjZ),(134,zjY),(141,zjX),(142,zjW),(144,zjV),(159,zjU),(160,zjT),(162,zjS),(167,zjR),(168,zjQ),(174,zjP),(175,zjO),(186,zjN),(187,zjM),(189,zjL),(191,zjK),(192,zjJ),(199,zjI),(202,zjG),(204,zjF),(205,zjE),(209,zjD),(213,zjC),(214,zjB),(217,zjA),(218,zjz),(221,zjy),(222,zjx),(224,zjw),(225,zjv),(227,zju),(229,zjt),(243,zjs),(244,zjr),(246,zjq),(247,zjp),(251,zjo),(253,zjn),(254,zjm),(256,zjl),(259,zjk)]
def y9:TT:=fun t=>(tiL.find? fun p=>p.1 == t).map (·.2)
def zdz (P:Program):List (Nat × TI) → Prop
 | []=>True
 | p :: l=>wX P p.1 p.2 ∧ zdz P l
theorem zdz.mem:∀ {l:List (Nat × TI)},zdz P l → ∀ p ∈ l,wX P p.1 p.2
 | p :: _,h,q,hq=>by
  rcases List.mem_cons.1 hq with rfl | hq
  ·exact h.1
  ·exact zdz.mem h.2 q hq
 | [],_,_,hq=>by cases hq
theorem zje:zdz Tryz.prog tiL:=⟨zjH,zjj,zji,zjh,zjg,zjf,zht,zhs,zhr,zhq,zhp,zho,zhn,zhm,zhl,zhk,zhj,zhi,zhh,zhg,zhf,zhe,zhd,zhc,zhb,zha,zh9,zh8,zh7,zh6,zh5,zh4,zh3,zh2,zh1,zew,zev,zeu,zet,zes,zer,zeq,zep,zeo,zen,zem,zel,zek,zej,zei,zeh,zeg,zef,zee,zed,zec,zeb,zea,ze9,ze8,ze7,ze6,ze5,ze4,ze3,ze2,ze1,ze0,zdZ,zdY,zdX,zdW,zdV,zdU,zdT,zdS,zdR,zdQ,zdP,zdO,zdN,zdM,zdL,zdK,zdJ,z9l,trivial⟩
theorem zt:xq Tryz.prog y9:=by
 intro t i h
 unfold y9 at h
 rw [Option.map_eq_some_iff] at h
 obtain ⟨p,h1,rfl⟩:=h
 have h2:=List.find?_some h1
 have h3:=zje.mem p (List.mem_of_find?_eq_some h1)
 rw [beq_iff_eq.1 h2] at h3
 exact h3
theorem zrV:y9 1=some ⟨.other,1,8,some (.atom .nilFunc),false⟩:=rfl
theorem zrU:y9 2=some ⟨.int .i64,1,8,some (.atom (.int .i64 0)),false⟩:=rfl
theorem zrT:y9 3=some ⟨.int .i64,1,8,some (.atom (.int .i64 0)),false⟩:=rfl
theorem zrS:y9 4=some ⟨.bool,1,1,some (.atom (.bool false)),false⟩:=rfl
theorem zrR:y9 5=some ⟨.int .u8,1,1,some (.atom (.int .u8 0)),false⟩:=rfl
theorem zrQ:y9 9=some ⟨.str,1,16,some (.atom (.string ⟨#[]⟩)),false⟩:=rfl
theorem zpo:y9 20=some ⟨.other,1,16,some (.atom .nilIface),false⟩:=rfl
theorem zpn:y9 21=some ⟨.int .i32,1,4,some (.atom (.int .i32 0)),false⟩:=rfl
theorem zpm:y9 22=some ⟨.slice 5,1,24,some (.osl 1 true []),false⟩:=rfl
theorem zpl:y9 23=some ⟨.slice 43,1,24,some (.osl 1 true []),false⟩:=rfl
theorem zpk:y9 28=some ⟨.slice 96,1,24,some (.osl 1 true []),false⟩:=rfl
theorem zpj:y9 30=some ⟨.struct [(0,1),(1,1),(2,1)],3,40,some (.agg [.atom (.int .i64 0),.atom (.int .i64 0),.osl 1 true []]),false⟩:=rfl
theorem zpi:y9 32=some ⟨.slice 51,1,24,some (.osl 1 true []),false⟩:=rfl
theorem zph:y9 33=some ⟨.int .i64,1,8,some (.atom (.int .i64 0)),false⟩:=rfl
theorem zpg:y9 36=some ⟨.array 3 3,3,24,some (.agg [.atom (.int .i64 0),.atom (.int .i64 0),.atom (.int .i64 0)]),true⟩:=rfl
theorem zpf:y9 41=some ⟨.other,1,8,some (.atom .nilFunc),false⟩:=rfl
theorem zpe:y9 43=some ⟨.int .u16,1,2,some (.atom (.int .u16 0)),false⟩:=rfl
theorem zpd:y9 47=some ⟨.slice 97,1,24,some (.osl 4 true []),false⟩:=rfl
theorem zpc:y9 49=some ⟨.struct [(0,1),(1,1)],2,48,some (.agg [.osl 1 true [],.osl 4 true []]),false⟩:=rfl
theorem zpb:y9 51=some ⟨.slice 3,1,24,some (.osl 1 true []),false⟩:=rfl
theorem zpa:y9 67=some ⟨.struct [(0,1),(1,1),(2,1),(3,1),(4,1)],5,32,some (.agg [.atom (.int .u8 0),.atom (.int .u8 0),.atom (.int .u8 0),.atom (.bool false),.osl 1 true []]),false⟩:=rfl
theorem zp9:y9 68=some ⟨.slice 22,1,24,some (.osl 1 true []),false⟩:=rfl
theorem zp8:y9 70=some ⟨.struct [(0,1),(1,1)],2,32,some (.agg [.atom (.int .u8 0),.osl 1 true []]),false⟩:=rfl
theorem zp7:y9 77=some ⟨.struct [],0,0,some (.agg []),false⟩:=rfl
theorem zp6:y9 78=some ⟨.struct [],0,0,some (.agg []),false⟩:=rfl
theorem zp5:y9 79=some ⟨.struct [],0,0,some (.agg []),false⟩:=rfl
theorem zp4:y9 80=some ⟨.ptr 119,1,8,some (.atom (.pointer none)),false⟩:=rfl
theorem zp3:y9 83=some ⟨.slice 85,1,24,some (.osl 1 true []),false⟩:=rfl
theorem zp2:y9 85=some ⟨.other,1,16,some (.atom .nilIface),false⟩:=rfl
theorem zp1:y9 86=some ⟨.ptr 91,1,8,some (.atom (.pointer none)),false⟩:=rfl
theorem zp0:y9 89=some ⟨.slice 162,1,24,some (.osl 16 true []),false⟩:=rfl
theorem zoZ:y9 91=some ⟨.struct [(0,1),(1,1),(2,1)],3,40,some (.agg [.osl 16 true [],.atom (.int .i64 0),.atom (.int .i64 0)]),false⟩:=rfl
theorem zoY:y9 96=some ⟨.slice 99,1,24,some (.osl 2 true []),false⟩:=rfl
theorem zoX:y9 97=some ⟨.array 4 5,4,4,some (.agg [.atom (.int .u8 0),.atom (.int .u8 0),.atom (.int .u8 0),.atom (.int .u8 0)]),true⟩:=rfl
theorem zoW:y9 99=some ⟨.struct [(0,1),(1,1)],2,16,some (.agg [.atom (.int .i64 0),.atom (.int .i64 0)]),true⟩:=rfl
theorem zmd:y9 101=some ⟨.slice 4,1,24,some (.osl 1 true []),false⟩:=rfl
theorem zmc:y9 104=some ⟨.slice 30,1,24,some (.osl 3 true []),false⟩:=rfl
theorem zmb:y9 109=some ⟨.other,1,8,some (.atom .nilFunc),false⟩:=rfl
theorem zma:y9 110=some ⟨.other,1,8,some (.atom .nilFunc),false⟩:=rfl
theorem zm9:y9 117=some ⟨.slice 32,1,24,some (.osl 1 true []),false⟩:=rfl
theorem zm8:y9 119=some ⟨.struct [(0,3),(3,1),(4,1),(5,1),(6,1),(7,1),(8,1)],9,184,some (.agg [.agg [.atom (.int .i64 0),.atom (.int .i64 0),.osl 1 true []],.osl 1 true [],.osl 1 true [],.osl 1 true [],.osl 1 true [],.osl 1 true [],.osl 1 true []]),false⟩:=rfl
theorem zm7:y9 120=some ⟨.array 5 33,5,40,some (.agg [.atom (.int .i64 0),.atom (.int .i64 0),.atom (.int .i64 0),.atom (.int .i64 0),.atom (.int .i64 0)]),true⟩:=rfl
theorem zm6:y9 124=some ⟨.struct [],0,0,some (.agg []),false⟩:=rfl
theorem zm5:y9 130=some ⟨.other,1,8,some (.atom .nilFunc),false⟩:=rfl
theorem zm4:y9 132=some ⟨.other,1,8,some (.atom .nilFunc),false⟩:=rfl
theorem zm3:y9 133=some ⟨.other,1,8,some (.atom .nilFunc),false⟩:=rfl
theorem zm2:y9 134=some ⟨.other,1,8,some (.atom .nilFunc),false⟩:=rfl
theorem zm1:y9 141=some ⟨.struct [(0,1),(1,1)],2,16,some (.agg [.atom (.int .i64 0),.atom .nilFunc]),false⟩:=rfl
theorem zm0:y9 142=some ⟨.array 3 141,6,48,some (.agg [.agg [.atom (.int .i64 0),.atom .nilFunc],.agg [.atom (.int .i64 0),.atom .nilFunc],.agg [.atom (.int .i64 0),.atom .nilFunc]]),false⟩:=rfl
theorem zlZ:y9 144=some ⟨.other,1,8,some (.atom .nilFunc),false⟩:=rfl
theorem zlY:y9 159=some ⟨.struct [(0,1),(1,1)],2,32,some (.agg [.atom (.int .i32 0),.osl 1 true []]),false⟩:=rfl
theorem zlX:y9 160=some ⟨.slice 159,1,24,some (.osl 2 true []),false⟩:=rfl
theorem zlW:y9 162=some ⟨.array 16 21,16,64,some (.agg [.atom (.int .i32 0),.atom (.int .i32 0),.atom (.int .i32 0),.atom (.int .i32 0),.atom (.int .i32 0),.atom (.int .i32 0),.atom (.int .i32 0),.atom (.int .i32 0),.atom (.int .i32 0),.atom (.int .i32 0),.atom (.int .i32 0),.atom (.int .i32 0),.atom (.int .i32 0),.atom (.int .i32 0),.atom (.int .i32 0),.atom (.int .i32 0)]),true⟩:=rfl
theorem zlV:y9 167=some ⟨.other,1,8,some (.atom .nilFunc),false⟩:=rfl
theorem zlU:y9 168=some ⟨.other,1,8,some (.atom .nilFunc),false⟩:=rfl
theorem zlT:y9 174=some ⟨.other,1,8,some (.atom .nilFunc),false⟩:=rfl
theorem zlS:y9 175=some ⟨.other,1,8,some (.atom .nilFunc),false⟩:=rfl
theorem zlR:y9 186=some ⟨.struct [(0,1),(1,1)],2,32,some (.agg [.osl 1 true [],.atom (.bool false)]),false⟩:=rfl
theorem zlQ:y9 187=some ⟨.struct [(0,1),(1,1)],2,32,some (.agg [.osl 1 true [],.atom (.bool false)]),false⟩:=rfl
theorem zlP:y9 189=some ⟨.other,1,8,some (.atom .nilFunc),false⟩:=rfl
theorem zlO:y9 191=some ⟨.other,1,8,some (.atom .nilFunc),false⟩:=rfl
theorem zlN:y9 192=some ⟨.other,1,8,some (.atom .nilFunc),false⟩:=rfl
theorem zlM:y9 199=some ⟨.other,1,8,some (.atom .nilFunc),false⟩:=rfl
theorem zlL:y9 202=some ⟨.slice 227,1,24,some (.osl 2 true []),false⟩:=rfl
theorem zlK:y9 204=some ⟨.other,1,8,some (.atom .nilFunc),false⟩:=rfl
theorem zlJ:y9 205=some ⟨.other,1,8,some (.atom .nilFunc),false⟩:=rfl
theorem zlI:y9 209=some ⟨.int .u64,1,8,some (.atom (.int .u64 0)),false⟩:=rfl
theorem zlH:y9 213=some ⟨.other,1,8,some (.atom .nilFunc),false⟩:=rfl
theorem zlG:y9 214=some ⟨.other,1,8,some (.atom .nilFunc),false⟩:=rfl
theorem zlF:y9 217=some ⟨.struct [(0,1),(1,1),(2,1)],3,24,some (.agg [.atom (.int .i64 0),.atom (.int .i64 0),.atom (.int .i64 0)]),true⟩:=rfl
theorem zlE:y9 218=some ⟨.other,1,8,some (.atom (.map none)),false⟩:=rfl
theorem zlD:y9 221=some ⟨.array 64 51,64,1536,some (.agg (List.replicate 64 (.dop (nlQ 1 [])))),false⟩:=rfl
theorem zlC:y9 222=some ⟨.ptr 246,1,8,some (.atom (.pointer none)),false⟩:=rfl
theorem zlB:y9 224=some ⟨.other,1,8,some (.atom .nilFunc),false⟩:=rfl
theorem zlA:y9 225=some ⟨.other,1,8,some (.atom .nilFunc),false⟩:=rfl
theorem zlz:y9 227=some ⟨.array 2 3,2,16,some (.agg [.atom (.int .i64 0),.atom (.int .i64 0)]),true⟩:=rfl
theorem zly:y9 229=some ⟨.other,1,8,some (.atom .nilFunc),false⟩:=rfl
theorem zlx:y9 243=some ⟨.other,1,8,some (.atom .nilFunc),false⟩:=rfl
theorem zlw:y9 244=some ⟨.slice 217,1,24,some (.osl 3 true []),false⟩:=rfl
theorem zlv:y9 246=some ⟨.array 64 221,4096,98304,some (.agg (List.replicate 64 (.agg (List.replicate 64 (.dop (nlQ 1 [])))))),false⟩:=rfl
theorem zlu:y9 247=some ⟨.slice 251,1,24,some (.osl 4 true []),false⟩:=rfl
theorem zlt:y9 251=some ⟨.struct [(0,1),(1,1),(2,1),(3,1)],4,48,some (.agg [.atom (.int .i64 0),.atom (.int .i64 0),.osl 1 true [],.atom (.bool false)]),false⟩:=rfl
theorem zls:y9 253=some ⟨.other,1,8,some (.atom .nilFunc),false⟩:=rfl
theorem zlr:y9 254=some ⟨.other,1,8,some (.atom (.map none)),false⟩:=rfl
theorem zlq:y9 256=some ⟨.array 16 227,32,256,some (.agg [.agg [.atom (.int .i64 0),.atom (.int .i64 0)],.agg [.atom (.int .i64 0),.atom (.int .i64 0)],.agg [.atom (.int .i64 0),.atom (.int .i64 0)],.agg [.atom (.int .i64 0),.atom (.int .i64 0)],.agg [.atom (.int .i64 0),.atom (.int .i64 0)],.agg [.atom (.int .i64 0),.atom (.int .i64 0)],.agg [.atom (.int .i64 0),.atom (.int .i64 0)],.agg [.atom (.int .i64 0),.atom (.int .i64 0)],.agg [.atom (.int .i64 0),.atom (.int .i64 0)],.agg [.atom (.int .i64 0),.atom (.int .i64 0)],.agg [.atom (.int .i64 0),.atom (.int .i64 0)],.agg [.atom (.int .i64 0),.atom (.int .i64 0)],.agg [.atom (.int .i64 0),.atom (.int .i64 0)],.agg [.atom (.int .i64 0),.atom (.int .i64 0)],.agg [.atom (.int .i64 0),.atom (.int .i64 0)],.agg [.atom (.int .i64 0),.atom (.int .i64 0)]]),true⟩:=rfl
theorem zlp:y9 259=some ⟨.struct [(0,1),(1,32)],33,264,some (.agg [.atom (.int .i64 0),.agg [.agg [.atom (.int .i64 0),.atom (.int .i64 0)],.agg [.atom (.int .i64 0),.atom (.int .i64 0)],.agg [.atom (.int .i64 0),.atom (.int .i64 0)],.agg [.atom (.int .i64 0),.atom (.int .i64 0)],.agg [.atom (.int .i64 0),.atom (.int .i64 0)],.agg [.atom (.int .i64 0),.atom (.int .i64 0)],.agg [.atom (.int .i64 0),.atom (.int .i64 0)],.agg [.atom (.int .i64 0),.atom (.int .i64 0)],.agg [.atom (.int .i64 0),.atom (.int .i64 0)],.agg [.atom (.int .i64 0),.atom (.int .i64 0)],.agg [.atom (.int .i64 0),.atom (.int .i64 0)],.agg [.atom (.int .i64 0),.atom (.int .i64 0)],.agg [.atom (.int .i64 0),.atom (.int .i64 0)],.agg [.atom (.int .i64 0),.atom (.int .i64 0)],.agg [.atom (.int .i64 0),.atom (.int .i64 0)],.agg [.atom (.int .i64 0),.atom (.int .i64 0)]]]),true⟩:=rfl
attribute [go_sem] zrV zrU zrT zrS zrR zrQ zpo zpn zpm zpl zpk zpj zpi zph zpg zpf zpe zpd zpc zpb zpa zp9 zp8 zp7 zp6 zp5 zp4 zp3 zp2 zp1 zp0 zoZ zoY zoX zoW zmd zmc zmb zma zm9 zm8 zm7 zm6 zm5 zm4 zm3 zm2 zm1 zm0 zlZ zlY zlX zlW zlV zlU zlT zlS zlR zlQ zlP zlO zlN zlM zlL zlK zlJ zlI zlH zlG zlF zlE zlD zlC zlB zlA zlz zly zlx zlw zlv zlu zlt zls zlr zlq zlp
end Go.Own

namespace Go.Proofs
open Go.RowKit Go.Lib
theorem Tryz.groI:(Tryz.prog.info? 3).map (fun i=>(i.size,i.bytes,i.zero))=some (1,8,some (.int .i64 0)):=by kernel_rfl
set_option maxHeartbeats 4000000 in
set_option maxRecDepth 100000 in
theorem Tryz.gro_run (p:Option Addr) (n:Nat) (w:World) (h0:0 < n) (h1:n ≤ 1000000) :
  Calls Tryz.prog 202 #[.slice p 0 0,.int .i64 n] w fun e w'=>
   e=.returned (.slice (some ⟨w.heap.size,0,none⟩) 0 (grownCap w n 0 3)) ∧
   w'=w.drew.alloc (.cells (#[] ++ Builtin.zeroCells (Value.int .i64 0).cells n ++ Builtin.zeroCells (Value.int .i64 0).cells (grownCap w n 0 3 - n)) 3):=by
 obtain ⟨i0,hi0,hi⟩:=Option.map_eq_some_iff.1 Tryz.groI
 obtain ⟨hs0,hi⟩:=Prod.mk.inj hi
 obtain ⟨hb0,hz0⟩:=Prod.mk.inj hi
 have mixed:Tryz.prog.follows .mixedOrders=true:=by kernel_rfl
 have h1':¬ ((n:Int) < 0):=by omega
 have h3:wrap64 ((n:Int))=(n:Int):=by unfold wrap64; omega
 have h4:(n:Int) > 0:=by omega
 have hold:(Builtin.firstCells i0.size 0 (.slice p 0 0)).run Tryz.prog w.drew=.ok ([]:List Value).toArray w.drew:=by
  cases p with
  | none=>exact run_firstCells_none w.drew i0.size 0 0 0
  | some a=>exact run_firstCells_some w.drew i0.size 0 a 0 0 [] (by simp) (fun j v hj=>by simp at hj)
 have hrz:∀ ty,(Builtin.append_ #[51,3] ty #[.slice p 0 0,.int .i64 (n:Int)]).run Tryz.prog w =
   .ok (.slice (some ⟨w.heap.size,0,none⟩) n (grownCap w n 0 3)) (w.drew.alloc (.cells (#[] ++ Builtin.zeroCells (Value.int .i64 0).cells n ++ Builtin.zeroCells (Value.int .i64 0).cells (grownCap w n 0 3 - n)) 3)):=fun ty=>by
  have h:=Lib.run_append_grow_zeros w 51 3 ty 3 i0 (.int .i64 0) .i64 .i64 Tryz.underlying51 Tryz.underlying3 hi0 hz0 p 0 0 [] hold n h0 (by omega) (by omega) (by omega)
   (by rw [hb0]; omega)
   (by rw [Nat.zero_add]; exact growslice_fits h0 (by rw [hb0]; omega))
  rw [Nat.zero_add] at h
  exact h
 have hGn:n ≤ grownCap w n 0 3:=grownCap_ge w _ _ _
 obtain ⟨G,hG⟩:∃ G,G=grownCap w n 0 3:=⟨_,rfl⟩
 rw [← hG] at hrz hGn ⊢
 have hG63:G ≤ 9223372036854775807:=by
  have:=grownCap_le_maxLen w n 0 3 (by unfold maxLen; omega)
  rw [← hG] at this
  unfold maxLen at this
  omega
 clear hold hG
 go_enter Tryz.func202,Tryz.ntmps202
 cases p with
 | none=>
  go_wp2_with (at_builtin; refine Lib.wpList_append_run _ rfl _ _ _ _ rfl _ _ rfl rfl _ _ (hrz _) ?_)
  all_goals (go_ret; exact ⟨rfl,rfl⟩)
 | some a=>
  obtain ⟨ab,ao,asp⟩:=a
  go_wp2_with (at_builtin; refine Lib.wpList_append_run _ rfl _ _ _ _ rfl _ _ rfl rfl _ _ (hrz _) ?_)
  all_goals (go_ret; exact ⟨rfl,rfl⟩)
end Go.Proofs
namespace Go.Own
open Go.Proofs
theorem zcN (n:Int) (h0:0 < n) (h1:n ≤ 1000000):Y5 Tryz.prog 202 [.sl 1 true [],eI .i64 n] (.osl 1 false []):=by
 refine ⟨⟨_,Tryz.func202,by kernel_rfl,by kernel_rfl⟩,?_⟩
 intro S w vs F hS hq hF
 obtain ⟨m,rfl⟩:∃ m:Nat,n=(m:Int):=⟨n.toNat,by omega⟩
 match vs,hq with
 | [u,v],q=>
  obtain ⟨F1,F2,rfl,q1,F3,F4,rfl,q2,q3⟩:=q
  have e3:F4=[]:=q3
  subst e3
  have d:∀ {x:A} {u:Value} {F:List Nat},x.isD=true → Has S w.heap x u F → wT S x u ∧ F=[]:=by
   intro x u F hx q
   rcases q with ⟨q,rfl⟩ | ⟨cs,q1,q2,q3⟩
   ·exact ⟨q.rep1 hx,rfl⟩
   ·obtain ⟨r,rfl⟩:=q1.isD hx
    exact ⟨⟨cs,r,q3⟩,rfl⟩
  obtain ⟨⟨cs,r1,e1⟩,rfl⟩:=d rfl q1
  obtain ⟨⟨ds,r2,e2⟩,rfl⟩:=d rfl q2
  simp only [Rep] at r1
  obtain ⟨p,c,rfl,hc,_⟩:=r1
  obtain rfl:c=0:=by simpa using hc
  have hv:v=.int .i64 (m:Int):=by
   rw [e2]
   obtain ⟨rfl,_⟩:ds=[.int .i64 (m:Int)] ∧ _:=by simpa only [eI,Rep] using r2
   rfl
  have hu:u=.slice p 0 0:=by rw [e1]; rfl
  subst hv hu
  refine (Tryz.gro_run p m w (by omega) (by omega)).mono ?_
  rintro e' w' ⟨rfl,rfl⟩
  have hsz:∀ k,(Builtin.zeroCells (Value.int .i64 0).cells k).size=k:=fun k=>by simp [Builtin.zeroCells,Value.cells]
  have hGn:m ≤ grownCap w m 0 3:=grownCap_ge w _ _ _
  have hGm:=grownCap_le_maxLen w m 0 3 (by unfold maxLen; omega)
  have hfr:∀ o,S w.heap.size o=none:=fun o=>by
   cases hh:S w.heap.size o with
   | none=>rfl
   | some x=>have:=hS _ _ _ hh; simp [y5] at this
  generalize grownCap w m 0 3=G at hGn hGm ⊢
  refine ⟨_,S,[w.heap.size],rfl,((Xb.refl _ _).drew).alloc (.inl (Nat.le_refl _)) _,fun _ _ _ h=>h,fun _ _ _ _=>rfl,⟨fun b o v h=>?_,hS.gok,hS.blk.of (fun _ _ _ q=>q) fun g x e=>?_⟩,.inr ⟨[.slice (some ⟨w.heap.size,0,none⟩) 0 G],?_,by simp,rfl⟩,by simp,by simp⟩
  ·have h':=hS _ _ _ h
   have hne:b ≠ w.heap.size:=by rintro rfl; rw [hfr] at h; cases h
   show y5 (w.heap.push _) b o=some v
   unfold y5 at h' ⊢
   rw [Array.getElem?_push,if_neg hne]
   exact h'
  ·have hlt:=hS.blk.lt e
   show (w.heap.push _)[g]?=_
   rw [Array.getElem?_push,if_neg (by omega)]
  ·simp only [zJ]
   refine ⟨_,G,rfl,by simp,by simp,hGm,by simp,.inr ⟨w.heap.size,_,3,[],[],rfl,by show (w.heap.push _)[w.heap.size]?=_; rw [Array.getElem?_push,if_pos rfl],?_,by simp,⟨rfl,rfl⟩,rfl,hfr⟩⟩
   simp only [Array.size_append,hsz,Array.size_empty]
   omega
end Go.Own

namespace Go.Proofs
open Go.RowKit Go.Lib
theorem Tryz.meth77 (w:World):(method 392 77 (.agg #[]) "gauntlet/suites.fill").run Tryz.prog w=.ok (218,.agg #[]) w:=by kernel_rfl
theorem Tryz.meth78 (w:World):(method 392 78 (.agg #[]) "gauntlet/suites.fill").run Tryz.prog w=.ok (220,.agg #[]) w:=by kernel_rfl
theorem Tryz.meth79 (w:World):(method 392 79 (.agg #[]) "gauntlet/suites.fill").run Tryz.prog w=.ok (229,.agg #[]) w:=by kernel_rfl
theorem Tryz.tas (w:World):(Instr.typeAssert (.iface 124 (.agg #[])) 20 124 true).run Tryz.prog w=.ok (.tuple #[.agg #[],.bool true]) w:=by kernel_rfl
theorem Tryz.mk1 (w:World):(Instr.makeSlice 89 (.int .i64 1) (.int .i64 1)).run Tryz.prog w=.ok (.slice (some ⟨w.heap.size,0,none⟩) 1 1) (w.alloc (.cells (Array.replicate 16 (.int .i32 0)) 162)):=by
 have h:(Tryz.prog.info? 162).map (fun i=>(i.size,i.bytes,i.zero))=some (16,64,some (.agg (Array.replicate 16 (.int .i32 0)))):=by kernel_rfl
 obtain ⟨i0,hi0,hi⟩:=Option.map_eq_some_iff.1 h
 obtain ⟨hs0,hi⟩:=Prod.mk.inj hi
 obtain ⟨hb0,hz0⟩:=Prod.mk.inj hi
 have q:=run_makeSlice (P:=Tryz.prog) (w:=w) 89 162 i0 _ Tryz.underlying89 hi0 hz0 .i64 .i64 1 1 (by omega) (by omega) (by rw [hs0]; decide) (by rw [hb0]; omega) (by omega)
 rw [hs0,show madeCells (Value.agg (Array.replicate 16 (Value.int .i32 0))).cells (Int.toNat 1 * 16)=Array.replicate 16 (.int .i32 0) from by kernel_rfl] at q
 exact q
def Tryz.gw4 (w:World) (most:Int):World :=
 (((w.alloc (.cells #[.pointer (some ⟨w.heap.size + 1 + 1 + 1,0,none⟩)] 86)).alloc (.cells #[.bool false] 4)).alloc (.cells (Array.replicate 16 (.int .i32 0)) 162)).alloc (.cells #[.slice (some ⟨w.heap.size + 1 + 1,0,none⟩) 1 1,.int .i64 0,.int .i64 most] 91)
theorem Tryz.catch_idle (p q:Addr) (w:World) :
  CallsD Tryz.prog 77 #[.pointer (some p),.pointer (some q)] .returning w fun e u' w'=>e=.returned (.tuple #[]) ∧ u'=.returning ∧ w'=w:=by
 refine callsD_of_wpS Tryz.func77 rfl fun c₀ cs hu=>?_
 apply wpS_seq
 apply wpS_region
 simp [wpOpsS,go_sem,recoverD,hu,Tryz.ntmps77,Exit.thenS]
 apply wpS_seq
 apply wpS_region
 simp [wpOpsS,go_sem,recoverD,hu,Tryz.ntmps77,Exit.thenS]
 refine wpS_cond (t:=false) (by simp [Act.eval,Array.replicate]) ?_
 simp only [Bool.false_eq_true,if_false]
 refine wpS_of_wp (wp_skip ?_)
 cases c₀
 simp_all [bodyPostS,results,Tryz.results77]
theorem Tryz.catch_panicking (n:Nat) (older:List PanicEntry) (w:World) (x:Value) (y:Value) (h1:w.heap[n]?=some (.cells #[x] 86)) (h2:w.heap[n + 1]?=some (.cells #[y] 4)) :
  CallsD Tryz.prog 77 #[.pointer (some ⟨n,0,none⟩),.pointer (some ⟨n + 1,0,none⟩)] (.panicking ({ v:=.iface 124 (.agg #[]),recovered:=false } :: older)) w fun e u' w'=>
   e=.returned (.tuple #[]) ∧ u'=.panicking ({ v:=.iface 124 (.agg #[]),recovered:=true } :: older) ∧ w'=((w.alloc (.cells #[] 124)).setCell ⟨n,0,none⟩ (.pointer none)).setCell ⟨n + 1,0,none⟩ (.bool false):=by
 have ht:=Tryz.tas
 refine callsD_of_wpS Tryz.func77 rfl fun c₀ cs hu=>?_
 apply wpS_seq
 apply wpS_region
 simp [wpOpsS,go_sem,recoverD,hu,Tryz.ntmps77,Exit.thenS]
 apply wpS_seq
 apply wpS_region
 simp [wpOpsS,go_sem,recoverD,hu,Tryz.ntmps77,Exit.thenS]
 refine wpS_cond (t:=true) (by simp [Act.eval,Array.replicate]) ?_
 simp only [if_true]
 apply wpS_seq
 apply wpS_seq
 apply wpS_region
 simp [wpOpsS,go_sem,recoverD,hu,Tryz.ntmps77,Exit.thenS,ht]
 apply wpS_seq
 apply wpS_region
 simp [wpOpsS,go_sem,recoverD,hu,Tryz.ntmps77,Exit.thenS,ht]
 refine wpS_cond (t:=false) (by simp [Act.eval,Array.replicate]) ?_
 simp only [Bool.false_eq_true,if_false]
 refine wpS_of_wp (wp_skip ?_)
 simp only [Exit.thenS]
 apply wpS_region
 have l1:=(Array.getElem?_eq_some_iff.1 h1).1
 have l2:=(Array.getElem?_eq_some_iff.1 h2).1
 have g1:(w.alloc (.cells #[] 124)).heap[n]?=some (.cells #[x] 86):=by
  simp only [World.alloc]
  rw [Array.getElem?_push,if_neg (by omega),h1]
 have g2:(w.alloc (.cells #[] 124)).heap[n + 1]?=some (.cells #[y] 4):=by
  simp only [World.alloc]
  rw [Array.getElem?_push,if_neg (by omega),h2]
 have hp1:(w.alloc (.cells #[] 124)).cell? ⟨n,0,none⟩=some x:=by simp [World.cell?,g1]
 have hz1:(w.alloc (.cells #[] 124)).frozen? ⟨n,0,none⟩=false:=by simp [World.frozen?,g1]
 have g3:((w.alloc (.cells #[] 124)).setCell ⟨n,0,none⟩ (.pointer none)).heap[n + 1]?=some (.cells #[y] 4):=by
  simp only [World.setCell,Array.getElem?_modify]
  rw [if_neg (by omega),g2]
 have hp2:((w.alloc (.cells #[] 124)).setCell ⟨n,0,none⟩ (.pointer none)).cell? ⟨n + 1,0,none⟩=some y:=by simp only [World.cell?,g3]; rfl
 have hz2:((w.alloc (.cells #[] 124)).setCell ⟨n,0,none⟩ (.pointer none)).frozen? ⟨n + 1,0,none⟩=false:=by simp only [World.frozen?,g3]; rfl
 simp [wpOpsS,go_sem,recoverD,hu,Tryz.ntmps77,Exit.thenS,ht,hp1,hz1,hp2,hz2]
 cases c₀
 simp_all [bodyPostS,results,Tryz.results77]
set_option maxHeartbeats 4000000 in
set_option maxRecDepth 100000 in
theorem Tryz.gat_run (T kf:Nat) (hmeth:∀ w,(method 392 T (.agg #[]) "gauntlet/suites.fill").run Tryz.prog w=.ok (kf,.agg #[]) w) (hcf:∀ args w,(callFunc kf args).run Tryz.prog w=.ok (.enter kf args) w) (xv:Value) (most:Int) (w:World) (K:World → Prop)
  (hcall:Calls Tryz.prog kf #[.agg #[],xv,.pointer (some ⟨w.heap.size + 1 + 1 + 1,0,none⟩)] (Tryz.gw4 w most) fun e w5=>e=.returned (.tuple #[]) ∧ w5.heap[w.heap.size]?=some (.cells #[.pointer (some ⟨w.heap.size + 1 + 1 + 1,0,none⟩)] 86) ∧ w5.heap[w.heap.size + 1]?=some (.cells #[.bool false] 4) ∧ K w5) :
  Calls Tryz.prog 37 #[xv,.iface T (.agg #[]),.int .i64 most] w fun e w'=>e=.returned (.tuple #[.pointer (some ⟨w.heap.size + 1 + 1 + 1,0,none⟩),.bool true]) ∧ ∃ w5,K w5 ∧ w'=(w5.setCell ⟨w.heap.size,0,none⟩ (.pointer (some ⟨w.heap.size + 1 + 1 + 1,0,none⟩))).setCell ⟨w.heap.size + 1,0,none⟩ (.bool true):=by
 have hmf:∀ (fn:Fn) (first cap:Array Value) (w:World),(Instr.makeFunc fn first cap).run Tryz.prog w=.ok (.func fn first cap) w:=fun _ _ _ _=>rfl
 have hmk:=Tryz.mk1
 go_enter_defers Tryz.func37,Tryz.ntmps37
 go_wp2
 refine Calls.mono hcall ?_
 rintro e w5 ⟨rfl,h1,h2,h3⟩
 have hc1:w5.cell? ⟨w.heap.size,0,none⟩=some (.pointer (some ⟨w.heap.size + 1 + 1 + 1,0,none⟩)):=by simp [World.cell?,h1]
 have hc2:w5.cell? ⟨w.heap.size + 1,0,none⟩=some (.bool false):=by simp [World.cell?,h2]
 have hz1:w5.frozen? ⟨w.heap.size,0,none⟩=false:=by simp [World.frozen?,h1]
 have hz2:w5.frozen? ⟨w.heap.size + 1,0,none⟩=false:=by simp [World.frozen?,h2]
 dsimp only
 go_wp2
 refine leaves_cons (f:=77) (args:=#[.pointer (some ⟨w.heap.size,0,none⟩),.pointer (some ⟨w.heap.size + 1,0,none⟩)]) (by simp) (by simp [go_sem]) ?_
 refine (Tryz.catch_idle _ _ _).mono ?_
 rintro e u' w'' ⟨rfl,rfl,rfl⟩
 have hcA:(w5.setCell ⟨w.heap.size,0,none⟩ (.pointer (some ⟨w.heap.size + 1 + 1 + 1,0,none⟩))).cell? ⟨w.heap.size,0,none⟩=some (.pointer (some ⟨w.heap.size + 1 + 1 + 1,0,none⟩)):=by
  simp [World.cell?,World.setCell,Array.getElem?_modify,h1]
 have hcB:((w5.setCell ⟨w.heap.size,0,none⟩ (.pointer (some ⟨w.heap.size + 1 + 1 + 1,0,none⟩))).setCell ⟨w.heap.size + 1,0,none⟩ (.bool true)).cell? ⟨w.heap.size + 1,0,none⟩=some (.bool true):=by
  simp [World.cell?,World.setCell,Array.getElem?_modify,h2]
 simp [Leaves,settle,results,Tryz.results37,go_sem,hcA,hcB]
 exact ⟨w5,h3,rfl⟩
set_option maxHeartbeats 4000000 in
set_option maxRecDepth 100000 in
theorem Tryz.gat_die (T kf:Nat) (hmeth:∀ w,(method 392 T (.agg #[]) "gauntlet/suites.fill").run Tryz.prog w=.ok (kf,.agg #[]) w) (hcf:∀ args w,(callFunc kf args).run Tryz.prog w=.ok (.enter kf args) w) (xv:Value) (most:Int) (w:World) (K:World → Prop)
  (hcall:Calls Tryz.prog kf #[.agg #[],xv,.pointer (some ⟨w.heap.size + 1 + 1 + 1,0,none⟩)] (Tryz.gw4 w most) fun e w5=>e=.panicked (Own.Za (.iface 124 (.agg #[]))) ∧ w5.heap[w.heap.size]?=some (.cells #[.pointer (some ⟨w.heap.size + 1 + 1 + 1,0,none⟩)] 86) ∧ w5.heap[w.heap.size + 1]?=some (.cells #[.bool false] 4) ∧ K w5) :
  Calls Tryz.prog 37 #[xv,.iface T (.agg #[]),.int .i64 most] w fun e w'=>e=.returned (.tuple #[.pointer none,.bool false]) ∧ ∃ w5,K w5 ∧ w'=((w5.alloc (.cells #[] 124)).setCell ⟨w.heap.size,0,none⟩ (.pointer none)).setCell ⟨w.heap.size + 1,0,none⟩ (.bool false):=by
 have hmf:∀ (fn:Fn) (first cap:Array Value) (w:World),(Instr.makeFunc fn first cap).run Tryz.prog w=.ok (.func fn first cap) w:=fun _ _ _ _=>rfl
 have hmk:=Tryz.mk1
 go_enter_defers Tryz.func37,Tryz.ntmps37
 go_wp2
 refine Calls.mono hcall ?_
 rintro e w5 ⟨rfl,h1,h2,h3⟩
 have l1:=(Array.getElem?_eq_some_iff.1 h1).1
 have l2:=(Array.getElem?_eq_some_iff.1 h2).1
 have g1:(w5.alloc (.cells #[] 124)).heap[w.heap.size]?=some (.cells #[.pointer (some ⟨w.heap.size + 1 + 1 + 1,0,none⟩)] 86):=by
  simp only [World.alloc]
  rw [Array.getElem?_push,if_neg (by omega),h1]
 have g2:(w5.alloc (.cells #[] 124)).heap[w.heap.size + 1]?=some (.cells #[.bool false] 4):=by
  simp only [World.alloc]
  rw [Array.getElem?_push,if_neg (by omega),h2]
 dsimp only [Own.Za]
 refine leaves_cons (f:=77) (args:=#[.pointer (some ⟨w.heap.size,0,none⟩),.pointer (some ⟨w.heap.size + 1,0,none⟩)]) (by simp) (by simp [go_sem]) ?_
 refine (Tryz.catch_panicking w.heap.size [] w5 _ _ h1 h2).mono ?_
 rintro e u' w'' ⟨rfl,rfl,rfl⟩
 have hcA:((w5.alloc (.cells #[] 124)).setCell ⟨w.heap.size,0,none⟩ (.pointer none)).cell? ⟨w.heap.size,0,none⟩=some (.pointer none):=by
  simp [World.cell?,World.setCell,Array.getElem?_modify,g1]
 have hcB:(((w5.alloc (.cells #[] 124)).setCell ⟨w.heap.size,0,none⟩ (.pointer none)).setCell ⟨w.heap.size + 1,0,none⟩ (.bool false)).cell? ⟨w.heap.size + 1,0,none⟩=some (.bool false):=by
  simp [World.cell?,World.setCell,Array.getElem?_modify,g2]
 simp [Leaves,settle,results,Tryz.results37,go_sem,hcA,hcB]
 exact ⟨w5,h3,rfl⟩
end Go.Proofs
namespace Go.Own
open Go.Proofs
theorem z97 {T kf:Nat} (hmeth:∀ w,(method 392 T (.agg #[]) "gauntlet/suites.fill").run Tryz.prog w=.ok (kf,.agg #[]) w) (hcf:∀ args w,(callFunc kf args).run Tryz.prog w=.ok (.enter kf args) w) {xs y z:A} {most:Int} {died:Bool} (hxs:xs.isD=true) (hl:y.live=true) (hz:y.shut=z)
  (hfill:∀ bv,z9i Tryz.prog kf [.agg [],xs,.atom bv] [(bv,.box (.agg [.osl 16 false [.agg (List.replicate 16 (.atom (.int .i32 0)))],.atom (.int .i64 0),.atom (.int .i64 most)]))] died (.iface 124 (.agg #[])) (.tup []) [.box y]) :
  Y5 Tryz.prog 37 [xs,.atom (.iface T (.agg #[])),.atom (.int .i64 most)] (.tup [bif died then .atom (.pointer none) else .sptr z,.atom (.bool (!died))]):=by
 refine ⟨⟨_,Tryz.func37,by kernel_rfl,by kernel_rfl⟩,?_⟩
 intro S w vs F hS hq hF
 match vs,hq with
 | [u,v,x],q=>
  obtain ⟨F1,F2,rfl,q1,F3,F4,rfl,q2,F5,F6,rfl,q3,q4⟩:=q
  have e4:F6=[]:=q4
  subst e4
  have d:∀ {x:A} {u:Value} {F:List Nat},x.isD=true → Has S w.heap x u F → wT S x u ∧ F=[]:=by
   intro x u F hx q
   rcases q with ⟨q,rfl⟩ | ⟨cs,q1,q2,q3⟩
   ·exact ⟨q.rep1 hx,rfl⟩
   ·obtain ⟨r,rfl⟩:=q1.isD hx
    exact ⟨⟨cs,r,q3⟩,rfl⟩
  obtain ⟨r1,rfl⟩:=d hxs q1
  obtain ⟨r2,rfl⟩:=d rfl q2
  obtain ⟨r3,rfl⟩:=d rfl q3
  obtain rfl:v=.iface T (.agg #[]):=(yW.1 r2).1
  obtain rfl:x=.int .i64 most:=(yW.1 r3).1
  have hnew:∀ b o,w.heap.size ≤ b → S b o=none:=fun b o hb=>by
   cases hh:S b o with
   | none=>rfl
   | some x=>
    have:=hS _ _ _ hh
    simp [y5,Array.getElem?_eq_none hb] at this
  have hsz:(Tryz.gw4 w most).heap.size=w.heap.size + 4:=by simp only [Tryz.gw4,World.alloc,Array.size_push]
  have hold:∀ b,b < w.heap.size → (Tryz.gw4 w most).heap[b]?=w.heap[b]?:=fun b hb=>by
   simp only [Tryz.gw4,World.alloc]
   simp only [Array.getElem?_push,Array.size_push]
   rw [if_neg (by omega),if_neg (by omega),if_neg (by omega),if_neg (by omega)]
  have c0:(Tryz.gw4 w most).heap[w.heap.size]?=some (.cells #[.pointer (some ⟨w.heap.size + 1 + 1 + 1,0,none⟩)] 86):=by
   simp only [Tryz.gw4,World.alloc]
   simp only [Array.getElem?_push,Array.size_push]
   rw [if_neg (by omega),if_neg (by omega),if_neg (by omega),if_pos trivial]
  have c1:(Tryz.gw4 w most).heap[w.heap.size + 1]?=some (.cells #[.bool false] 4):=by
   simp only [Tryz.gw4,World.alloc]
   simp only [Array.getElem?_push,Array.size_push]
   rw [if_neg (by omega),if_neg (by omega),if_pos trivial]
  have c2:(Tryz.gw4 w most).heap[w.heap.size + 1 + 1]?=some (.cells (Array.replicate 16 (.int .i32 0)) 162):=by
   simp only [Tryz.gw4,World.alloc]
   simp only [Array.getElem?_push,Array.size_push]
   rw [if_neg (by omega),if_pos trivial]
  have c3:(Tryz.gw4 w most).heap[w.heap.size + 1 + 1 + 1]?=some (.cells #[.slice (some ⟨w.heap.size + 1 + 1,0,none⟩) 1 1,.int .i64 0,.int .i64 most] 91):=by
   simp only [Tryz.gw4,World.alloc]
   simp only [Array.getElem?_push,Array.size_push]
   rw [if_pos trivial]
  have hK4:Xb (fun k=>w.heap.size ≤ k ∨ k ∈ ([]:List Nat)) w (Tryz.gw4 w most):=by
   unfold Tryz.gw4
   refine ((((Xb.refl _ _).alloc (.inl (Nat.le_refl _)) _).alloc (.inl ?_) _).alloc (.inl ?_) _).alloc (.inl ?_) _
   all_goals simp only [World.alloc,Array.size_push]; omega
  have hS4:yn S (Tryz.gw4 w most):=by
   refine ⟨fun b o u h=>?_,hS.gok,hS.blk.of (fun _ _ _ q=>q) fun g x e=>hold g (hS.blk.lt e)⟩
   have h':=hS _ _ _ h
   have hb:b < w.heap.size:=by
    rcases Nat.lt_or_ge b w.heap.size with h1 | h1
    ·exact h1
    ·rw [hnew b o h1] at h; cases h
   unfold y5 at h' ⊢
   rw [hold b hb]
   exact h'
  have hbag:XZ S (Tryz.gw4 w most).heap [.box (.agg [.osl 16 false [.agg (List.replicate 16 (.atom (.int .i32 0)))],.atom (.int .i64 0),.atom (.int .i64 most)])] [.pointer (some ⟨w.heap.size + 1 + 1 + 1,0,none⟩)] [w.heap.size + 1 + 1 + 1,w.heap.size + 1 + 1]:=by
   have hcc:∀ l:List Value,(∀ v ∈ l,v.oneCell'=true) → zM S (Tryz.gw4 w most).heap (l.map .atom) l []:=by
    intro l
    induction l with
    | nil=>intro _; simp [zM]
    | cons a l ih=>
     intro h
     simp only [List.map_cons,zM]
     exact ⟨[a],l,[],[],rfl,rfl,by simp only [zJ,Rep]; simp [h a (by simp)],ih fun v hv=>h v (by simp [hv])⟩
   have ho:zJ S (Tryz.gw4 w most).heap (.osl 16 false [.agg (List.replicate 16 (.atom (.int .i32 0)))]) [.slice (some ⟨w.heap.size + 1 + 1,0,none⟩) 1 1] [w.heap.size + 1 + 1]:=by
    simp only [zJ]
    refine ⟨some ⟨w.heap.size + 1 + 1,0,none⟩,1,by simp,by simp,by simp,by unfold maxLen; omega,?_,.inr ⟨w.heap.size + 1 + 1,_,162,List.replicate 16 (.int .i32 0),[],rfl,c2,by simp,by simp,?_,by simp,fun o=>hnew _ o (by omega)⟩⟩
    ·intro x hx
     simp only [List.mem_cons,List.not_mem_nil,or_false] at hx
     subst hx
     rfl
    ·simp only [zM]
     exact ⟨List.replicate 16 (.int .i32 0),[],[],[],by simp,rfl,by simp only [zJ]; exact hcc (List.replicate 16 (.int .i32 0)) (by intro v hv; rw [List.eq_of_mem_replicate hv]; rfl),rfl,rfl⟩
   refine ⟨[w.heap.size + 1 + 1 + 1,w.heap.size + 1 + 1],[],by simp,.inr ⟨[.pointer (some ⟨w.heap.size + 1 + 1 + 1,0,none⟩)],?_,by simp,rfl⟩,rfl⟩
   simp only [zJ]
   refine ⟨w.heap.size + 1 + 1 + 1,91,[.slice (some ⟨w.heap.size + 1 + 1,0,none⟩) 1 1,.int .i64 0,.int .i64 most],[w.heap.size + 1 + 1],rfl,c3,?_,rfl,fun o=>hnew _ o (by omega)⟩
   simp only [zM]
   exact ⟨_,_,[w.heap.size + 1 + 1],[],rfl,rfl,ho,[.int .i64 0],_,[],[],rfl,rfl,⟨by simp [Rep,Value.oneCell'],rfl⟩,[.int .i64 most],[],[],[],rfl,rfl,⟨by simp [Rep,Value.oneCell'],rfl⟩,rfl,rfl⟩
  have hfree:∀ k ∈ [w.heap.size + 1 + 1 + 1,w.heap.size + 1 + 1],k=w.heap.size + 1 + 1 + 1 ∨ k=w.heap.size + 1 + 1:=fun k hk=>by simpa using hk
  have hargs:Xc (wT S) [.agg [],xs,.atom (.pointer (some ⟨w.heap.size + 1 + 1 + 1,0,none⟩))] [.agg #[],u,.pointer (some ⟨w.heap.size + 1 + 1 + 1,0,none⟩)] :=
   ⟨⟨[],by simp [Rep,yd],rfl⟩,r1,yW.2 ⟨rfl,rfl⟩,trivial⟩
  have hfv:wT S (.fn kf []) (.func (.func kf) #[] #[]):=⟨[.func (.func kf) #[] #[]],by simp [Rep,yd],rfl⟩
  obtain ⟨hok,hdie⟩:=hfill (.pointer (some ⟨w.heap.size + 1 + 1 + 1,0,none⟩))
  have hkept:∀ {w5:World},Xb (fun k=>(Tryz.gw4 w most).heap.size ≤ k ∨ k ∈ [w.heap.size + 1 + 1 + 1,w.heap.size + 1 + 1]) (Tryz.gw4 w most) w5 → w5.heap[w.heap.size]?=some (.cells #[.pointer (some ⟨w.heap.size + 1 + 1 + 1,0,none⟩)] 86) ∧ w5.heap[w.heap.size + 1]?=some (.cells #[.bool false] 4):=fun h=>
   have hm:∀ k,k < w.heap.size + 2 → ¬ ((Tryz.gw4 w most).heap.size ≤ k ∨ k ∈ [w.heap.size + 1 + 1 + 1,w.heap.size + 1 + 1]):=fun k hk q=>by
    rcases q with q | q
    ·rw [hsz] at q; omega
    ·have:=hfree _ q; omega
   ⟨(h.block _ (hm _ (by omega))).trans c0,(h.block _ (hm _ (by omega))).trans c1⟩
  have hset:∀ (w5:World) (a b:Value),Xb (fun k=>w.heap.size ≤ k ∨ k ∈ ([]:List Nat)) w5 ((w5.setCell ⟨w.heap.size,0,none⟩ a).setCell ⟨w.heap.size + 1,0,none⟩ b):=fun w5 a b=>
   ⟨rfl,rfl,rfl,Nat.le_refl _,by simp [World.setCell],fun k hk=>by
    simp only [World.setCell,Array.getElem?_modify]
    rw [if_neg (by rintro rfl; exact hk (.inl (by omega))),if_neg (by rintro rfl; exact hk (.inl (by omega)))]⟩
  have hset2:∀ (w5:World) (a b:Value) (k:Nat),k ≠ w.heap.size → k ≠ w.heap.size + 1 → ((w5.setCell ⟨w.heap.size,0,none⟩ a).setCell ⟨w.heap.size + 1,0,none⟩ b).heap[k]?=w5.heap[k]?:=fun w5 a b k h1 h2=>by
   simp only [World.setCell,Array.getElem?_modify]
   rw [if_neg (Ne.symm h2),if_neg (Ne.symm h1)]
  have hstay:∀ {w5 w6:World} {S5:zl},yn S5 w5 → (∀ o,S5 w.heap.size o=none) → (∀ o,S5 (w.heap.size + 1) o=none) → (∀ k,k < w5.heap.size → k ≠ w.heap.size → k ≠ w.heap.size + 1 → w6.heap[k]?=w5.heap[k]?) → yn S5 w6:=by
   intro w5 w6 S5 h k1 k2 hb
   have hne:∀ b o u,S5 b o=some u → b ≠ w.heap.size ∧ b ≠ w.heap.size + 1:=fun b o u q=>⟨(by rintro rfl; rw [k1] at q; cases q),(by rintro rfl; rw [k2] at q; cases q)⟩
   refine ⟨fun b o u q=>?_,h.gok,h.blk.of (fun _ _ _ q=>q) fun g x e=>?_⟩
   ·have h':=h _ _ _ q
    have hlt:b < w5.heap.size:=by
     unfold y5 at h'
     cases hh:w5.heap[b]? with
     | none=>rw [hh] at h'; cases h'
     | some y=>exact (Array.getElem?_eq_some_iff.1 hh).1
    unfold y5 at h' ⊢
    rw [hb b hlt (hne b o u q).1 (hne b o u q).2]
    exact h'
   ·obtain ⟨_,v,hv⟩:=h.blk g x e
    exact hb g (h.blk.lt e) (hne g 0 v hv).1 (hne g 0 v hv).2
  cases died with
  | false=>
   have ha:=hok rfl S (Tryz.gw4 w most) _ _ _ hS4 hfv hargs hbag (by simp)
   rcases ha with ⟨k,caps,fn,e1,_,_,_,h5⟩ | ⟨L,q,e1,_⟩
   ·cases e1
    refine Calls.mono (Tryz.gat_run T kf hmeth hcf u most w (fun w5=>∃ (S':zl) (G:List Nat),Xb (fun k=>(Tryz.gw4 w most).heap.size ≤ k ∨ k ∈ [w.heap.size + 1 + 1 + 1,w.heap.size + 1 + 1]) (Tryz.gw4 w most) w5 ∧ (∀ b o u,S b o=some u → S' b o=some u) ∧ (∀ b o,b < (Tryz.gw4 w most).heap.size → b ∉ [w.heap.size + 1 + 1 + 1,w.heap.size + 1 + 1] → S' b o=S b o) ∧ yn S' w5 ∧
     Has S' w5.heap (.box y) (.pointer (some ⟨w.heap.size + 1 + 1 + 1,0,none⟩)) G ∧ G.Nodup ∧ ∀ k ∈ G,(Tryz.gw4 w most).heap.size ≤ k ∨ k ∈ [w.heap.size + 1 + 1 + 1,w.heap.size + 1 + 1]) (Calls.mono h5 ?_)) ?_
    ·rintro e w5 ⟨v,rfl,S',F',G,b1,b2,b3,b4,b5,b6,b7,b8⟩
     have hv:v=.tuple #[]:=by
      rcases b5 with ⟨q,_⟩ | ⟨cs,q,_⟩
      ·simp only [xe] at q
       obtain ⟨us,rfl,q⟩:=q
       cases us with
       | nil=>rfl
       | cons a l=>exact q.elim
      ·simp only [zJ] at q
     subst hv
     obtain ⟨H1,H2,rfl,g1,g2⟩:=b6
     have eH:H2=[]:=g2
     subst eH
     simp only [List.nil_append] at b7 b8
     exact ⟨rfl,(hkept b1).1,(hkept b1).2,S',H1,b1,b2,b3,b4,g1,(List.nodup_append.1 b7).1,fun k hk=>b8 k (by simp [hk])⟩
    ·rintro e w' ⟨rfl,w5,⟨S',G,b1,b2,b3,b4,b5,b6,b7⟩,rfl⟩
     have hG:∀ k ∈ G,w.heap.size + 2 ≤ k:=fun k hk=>by
      rcases b7 k hk with q | q
      ·rw [hsz] at q; omega
      ·have:=hfree k q; omega
     have n1:∀ o,S' w.heap.size o=none:=fun o=>by rw [b3 _ _ (by rw [hsz]; omega) (fun q=>by have:=hfree _ q; omega)]; exact hnew _ _ (Nat.le_refl _)
     have n2:∀ o,S' (w.heap.size + 1) o=none:=fun o=>by rw [b3 _ _ (by rw [hsz]; omega) (fun q=>by have:=hfree _ q; omega)]; exact hnew _ _ (by omega)
     have hown:=b5.own
     have hmono:=VP (S:=S') (h:=w5.heap) (F:=G) (fun k hk=>(hown k hk).2)
     have hm5:yn (zY S' w5.heap G) w5:=⟨fun b o u q=>by
      unfold zY at q
      split at q
      ·exact q
      ·exact b4 b o u q,Gok.mono hmono b4.gok,b4.blk.of hmono fun _ _ _=>rfl⟩
     have hng:∀ k,k < w.heap.size + 2 → k ∉ G:=fun k hk q=>by have:=hG k q; omega
     refine ⟨_,zY S' w5.heap G,[],rfl,(hK4.trans (b1.mono (fun k hk=>.inl (by
       rcases hk with q | q
       ·rw [hsz] at q; omega
       ·have:=hfree k q; omega)))).trans (hset _ _ _),fun b o u q=>hmono b o u (b2 b o u q),fun b o hb hbF=>?_,hstay hm5 (fun o=>?_) (fun o=>?_) (fun k _ h1 h2=>hset2 _ _ _ k h1 h2),.inl ⟨?_,rfl⟩,by simp,by simp⟩
     ·unfold zY
      rw [if_neg (hng b (by omega))]
      exact b3 b o (by rw [hsz]; omega) (fun q=>by have:=hfree _ q; omega)
     ·unfold zY
      rw [if_neg (hng _ (by omega))]
      exact n1 o
     ·unfold zY
      rw [if_neg (hng _ (by omega))]
      exact n2 o
     ·simp only [xe]
      refine ⟨[_,_],rfl,?_,yW.2 ⟨rfl,rfl⟩,trivial⟩
      rcases b5 with ⟨q,_⟩ | ⟨cs,q1,q2,q3⟩
      ·simp only [xe,wT,Rep,false_and,exists_false] at q
      ·refine ⟨cs,?_,q3⟩
       have:=q1.shut hmono (by simpa only [A.live] using hl) (fun k hk o=>by unfold zY; rw [if_pos hk])
       simp only [A.shut,hz] at this
       exact this
   ·cases e1
  | true=>
   obtain ⟨_,hcall⟩:=hdie rfl
   refine Calls.mono (Tryz.gat_die T kf hmeth hcf u most w (fun w5=>∃ S':zl,Xb (fun k=>(Tryz.gw4 w most).heap.size ≤ k ∨ k ∈ [w.heap.size + 1 + 1 + 1,w.heap.size + 1 + 1]) (Tryz.gw4 w most) w5 ∧ (∀ b o u,S b o=some u → S' b o=some u) ∧ (∀ b o,b < (Tryz.gw4 w most).heap.size → b ∉ [w.heap.size + 1 + 1 + 1,w.heap.size + 1 + 1] → S' b o=S b o) ∧ yn S' w5) (Calls.mono (hcall S (Tryz.gw4 w most) _ _ hS4 hargs hbag (by simp)) ?_)) ?_
   ·rintro e w5 ⟨rfl,S',b1,b2,b3,b4⟩
    exact ⟨rfl,(hkept b1).1,(hkept b1).2,S',b1,b2,b3,b4⟩
   ·rintro e w' ⟨rfl,w5,⟨S',b1,b2,b3,b4⟩,rfl⟩
    have n1:∀ o,S' w.heap.size o=none:=fun o=>by rw [b3 _ _ (by rw [hsz]; omega) (fun q=>by have:=hfree _ q; omega)]; exact hnew _ _ (Nat.le_refl _)
    have n2:∀ o,S' (w.heap.size + 1) o=none:=fun o=>by rw [b3 _ _ (by rw [hsz]; omega) (fun q=>by have:=hfree _ q; omega)]; exact hnew _ _ (by omega)
    have hs5:w.heap.size ≤ w5.heap.size:=by have:=b1.size; rw [hsz] at this; omega
    refine ⟨_,S',[],rfl,(hK4.trans (b1.mono (fun k hk=>.inl (by
      rcases hk with q | q
      ·rw [hsz] at q; omega
      ·have:=hfree k q; omega)))).trans (((Xb.refl _ _).alloc (.inl hs5) _).trans (hset _ _ _)),b2,fun b o hb hbF=>b3 b o (by rw [hsz]; omega) (fun q=>by have:=hfree _ q; omega),hstay b4 n1 n2 (fun k hk h1 h2=>?_),.inl ⟨?_,rfl⟩,by simp,by simp⟩
    ·rw [hset2 _ _ _ k h1 h2]
     show (w5.heap.push _)[k]?=_
     rw [Array.getElem?_push,if_neg (by omega)]
    ·simp only [xe]
     exact ⟨[_,_],rfl,yW.2 ⟨rfl,rfl⟩,yW.2 ⟨rfl,rfl⟩,trivial⟩
structure wR (α:Type) where
 e0:α
 e1:α
 deriving DecidableEq
instance {α:Type} [BEq α]:BEq (wR α):=⟨fun x y=>(x.e0 == y.e0) && (x.e1 == y.e1)⟩
section
variable {α:Type}
def z0T (f:α → A) (x:wR α):A:=.agg [f x.e0,f x.e1]
instance (f:α → A) [h:z0v f]:z0v (z0T f):=⟨fun x=>by simp [z0T,A.isD,A.areD,h.isD]⟩
instance (f g:α → A) [h:Xr f g]:Xr (z0T f) (z0T g):=⟨fun x=>by simp [z0T,A.loose,A.looses,h.lo]⟩
instance (f g:α → A) [h:z2u f g]:z2u (z0T f) (z0T g):=⟨fun x=>by simp [z0T,A.live,A.lives,h.live],fun x=>by simp [z0T,A.shut,A.shuts,h.sh]⟩
instance (f:α → A) [h:vL f]:vL (z0T f):=⟨fun x y q=>by
 simp only [z0T,A.agg.injEq,List.cons.injEq,and_true] at q
 cases x; cases y
 simp only [wR.mk.injEq]
 exact ⟨h.inj _ _ q.1,h.inj _ _ q.2⟩⟩
end
structure Ui (α:Type) where
 e0:α
 e1:α
 e2:α
 deriving DecidableEq
section
variable {α:Type}
def ziC (f:α → A) (x:Ui α):A:=.agg [f x.e0,f x.e1,f x.e2]
end
section
variable {α:Type}
def Ui.toL (x:Ui α):List α:=[x.e0,x.e1,x.e2]
def Ui.ofL:List α → Ui α → Ui α
 | [x0,x1,x2],_=>⟨x0,x1,x2⟩
 | _,d=>d
theorem Ui.toL_ofL (l:List α) (d:Ui α) (h:l.length=3):(Ui.ofL l d).toL=l:=by
 match l,h with
 | [x0,x1,x2],_=>rfl
def Ui.setI (x:Ui α) (i:Int) (v:α):Ui α:=Ui.ofL (x.toL.set i.toNat v) x
theorem Ui.setL (f:α → A) (x:Ui α) (i:Int) (v:α):(x.toL.map f).set i.toNat (f v)=((Ui.setI x i v).toL).map f:=by
 unfold Ui.setI
 rw [Ui.toL_ofL _ _ (by simp [Ui.toL]),List.map_set]
end
structure zaU (α:Type) where
 e0:α
 e1:α
 e2:α
 e3:α
 deriving DecidableEq
section
variable {α:Type}
def Kv (f:α → A) (x:zaU α):A:=.agg [f x.e0,f x.e1,f x.e2,f x.e3]
instance (f g:α → A) [h:Xr f g]:Xr (Kv f) (Kv g):=⟨fun x=>by simp [Kv,A.loose,A.looses,h.lo]⟩
instance (f:α → A) [h:vL f]:vL (Kv f):=⟨fun x y q=>by
 simp only [Kv,A.agg.injEq,List.cons.injEq,and_true] at q
 cases x; cases y
 simp only [zaU.mk.injEq]
 exact ⟨h.inj _ _ q.1,h.inj _ _ q.2.1,h.inj _ _ q.2.2.1,h.inj _ _ q.2.2.2⟩⟩
end
structure zz (α:Type) where
 e0:α
 e1:α
 e2:α
 e3:α
 e4:α
 e5:α
 e6:α
 e7:α
 e8:α
 e9:α
 e10:α
 e11:α
 e12:α
 e13:α
 e14:α
 e15:α
 deriving DecidableEq
instance {α:Type} [BEq α]:BEq (zz α):=⟨fun x y=>(x.e0 == y.e0) && (x.e1 == y.e1) && (x.e2 == y.e2) && (x.e3 == y.e3) && (x.e4 == y.e4) && (x.e5 == y.e5) && (x.e6 == y.e6) && (x.e7 == y.e7) && (x.e8 == y.e8) && (x.e9 == y.e9) && (x.e10 == y.e10) && (x.e11 == y.e11) && (x.e12 == y.e12) && (x.e13 == y.e13) && (x.e14 == y.e14) && (x.e15 == y.e15)⟩
section
variable {α:Type}
def WJ (f:α → A) (x:zz α):A:=.agg [f x.e0,f x.e1,f x.e2,f x.e3,f x.e4,f x.e5,f x.e6,f x.e7,f x.e8,f x.e9,f x.e10,f x.e11,f x.e12,f x.e13,f x.e14,f x.e15]
instance (f:α → A) [h:z0v f]:z0v (WJ f):=⟨fun x=>by simp [WJ,A.isD,A.areD,h.isD]⟩
instance (f g:α → A) [h:Xr f g]:Xr (WJ f) (WJ g):=⟨fun x=>by simp [WJ,A.loose,A.looses,h.lo]⟩
instance (f g:α → A) [h:z2u f g]:z2u (WJ f) (WJ g):=⟨fun x=>by simp [WJ,A.live,A.lives,h.live],fun x=>by simp [WJ,A.shut,A.shuts,h.sh]⟩
instance (f:α → A) [h:vL f]:vL (WJ f):=⟨fun x y q=>by
 simp only [WJ,A.agg.injEq,List.cons.injEq,and_true] at q
 cases x; cases y
 simp only [zz.mk.injEq]
 exact ⟨h.inj _ _ q.1,h.inj _ _ q.2.1,h.inj _ _ q.2.2.1,h.inj _ _ q.2.2.2.1,h.inj _ _ q.2.2.2.2.1,h.inj _ _ q.2.2.2.2.2.1,h.inj _ _ q.2.2.2.2.2.2.1,h.inj _ _ q.2.2.2.2.2.2.2.1,h.inj _ _ q.2.2.2.2.2.2.2.2.1,h.inj _ _ q.2.2.2.2.2.2.2.2.2.1,h.inj _ _ q.2.2.2.2.2.2.2.2.2.2.1,h.inj _ _ q.2.2.2.2.2.2.2.2.2.2.2.1,h.inj _ _ q.2.2.2.2.2.2.2.2.2.2.2.2.1,h.inj _ _ q.2.2.2.2.2.2.2.2.2.2.2.2.2.1,h.inj _ _ q.2.2.2.2.2.2.2.2.2.2.2.2.2.2.1,h.inj _ _ q.2.2.2.2.2.2.2.2.2.2.2.2.2.2.2⟩⟩
end
section
variable {α:Type}
def zz.toL (x:zz α):List α:=[x.e0,x.e1,x.e2,x.e3,x.e4,x.e5,x.e6,x.e7,x.e8,x.e9,x.e10,x.e11,x.e12,x.e13,x.e14,x.e15]
def zz.ofL:List α → zz α → zz α
 | [x0,x1,x2,x3,x4,x5,x6,x7,x8,x9,du,ew,x12,dw,lb,x15],_=>⟨x0,x1,x2,x3,x4,x5,x6,x7,x8,x9,du,ew,x12,dw,lb,x15⟩
 | _,d=>d
theorem zz.toL_ofL (l:List α) (d:zz α) (h:l.length=16):(zz.ofL l d).toL=l:=by
 match l,h with
 | [x0,x1,x2,x3,x4,x5,x6,x7,x8,x9,du,ew,x12,dw,lb,x15],_=>rfl
def zz.setI (x:zz α) (i:Int) (v:α):zz α:=zz.ofL (x.toL.set i.toNat v) x
theorem zz.setL (f:α → A) (x:zz α) (i:Int) (v:α):(x.toL.map f).set i.toNat (f v)=((zz.setI x i v).toL).map f:=by
 unfold zz.setI
 rw [zz.toL_ofL _ _ (by simp [zz.toL]),List.map_set]
end
structure yf where
 States:Int
 Inputs:Int
 Outputs:Int
 Partial:Bool
 Edges:List Int
def X5 (f0:Int → A) (f1:Int → A) (f2:Int → A) (f3:Bool → A) (f4:List Int → A) (x:yf):A:=.agg [f0 x.States,f1 x.Inputs,f2 x.Outputs,f3 x.Partial,f4 x.Edges]
instance (f0:Int → A) (f1:Int → A) (f2:Int → A) (f3:Bool → A) (f4:List Int → A) (g0:Int → A) (g1:Int → A) (g2:Int → A) (g3:Bool → A) (g4:List Int → A) [h0:Xr f0 g0] [h1:Xr f1 g1] [h2:Xr f2 g2] [h3:Xr f3 g3] [h4:Xr f4 g4]:Xr (X5 f0 f1 f2 f3 f4) (X5 g0 g1 g2 g3 g4):=⟨fun x=>by simp [X5,A.loose,A.looses,h0.lo,h1.lo,h2.lo,h3.lo,h4.lo]⟩
instance (f0:Int → A) (f1:Int → A) (f2:Int → A) (f3:Bool → A) (f4:List Int → A) [h0:vL f0] [h1:vL f1] [h2:vL f2] [h3:vL f3] [h4:vL f4]:vL (X5 f0 f1 f2 f3 f4):=⟨fun x y h=>by
 simp only [X5,A.agg.injEq,List.cons.injEq,and_true] at h
 cases x; cases y
 simp only [yf.mk.injEq]
 exact ⟨h0.inj _ _ h.1,h1.inj _ _ h.2.1,h2.inj _ _ h.2.2.1,h3.inj _ _ h.2.2.2.1,h4.inj _ _ h.2.2.2.2⟩⟩
structure yG where
 Copies:List Int
 Changes:List (zaU Int)
def X3 (f0:List Int → A) (f1:List (zaU Int) → A) (x:yG):A:=.agg [f0 x.Copies,f1 x.Changes]
instance (f0:List Int → A) (f1:List (zaU Int) → A) (g0:List Int → A) (g1:List (zaU Int) → A) [h0:Xr f0 g0] [h1:Xr f1 g1]:Xr (X3 f0 f1) (X3 g0 g1):=⟨fun x=>by simp [X3,A.loose,A.looses,h0.lo,h1.lo]⟩
instance (f0:List Int → A) (f1:List (zaU Int) → A) [h0:vL f0] [h1:vL f1]:vL (X3 f0 f1):=⟨fun x y h=>by
 simp only [X3,A.agg.injEq,List.cons.injEq,and_true] at h
 cases x; cases y
 simp only [yG.mk.injEq]
 exact ⟨h0.inj _ _ h.1,h1.inj _ _ h.2⟩⟩
structure yN where
 Inputs:Int
 Words:List (List Int)
def X4 (f0:Int → A) (f1:List (List Int) → A) (x:yN):A:=.agg [f0 x.Inputs,f1 x.Words]
instance (f0:Int → A) (f1:List (List Int) → A) (g0:Int → A) (g1:List (List Int) → A) [h0:Xr f0 g0] [h1:Xr f1 g1]:Xr (X4 f0 f1) (X4 g0 g1):=⟨fun x=>by simp [X4,A.loose,A.looses,h0.lo,h1.lo]⟩
instance (f0:Int → A) (f1:List (List Int) → A) [h0:vL f0] [h1:vL f1]:vL (X4 f0 f1):=⟨fun x y h=>by
 simp only [X4,A.agg.injEq,List.cons.injEq,and_true] at h
 cases x; cases y
 simp only [yN.mk.injEq]
 exact ⟨h0.inj _ _ h.1,h1.inj _ _ h.2⟩⟩
structure z8 where
 To:Int
 Out:Int
def wZ (f0:Int → A) (f1:Int → A) (x:z8):A:=.agg [f0 x.To,f1 x.Out]
instance (f0:Int → A) (f1:Int → A) [h0:z0v f0] [h1:z0v f1]:z0v (wZ f0 f1):=⟨fun x=>by simp [wZ,A.isD,A.areD,h0.isD,h1.isD]⟩
instance (f0:Int → A) (f1:Int → A) (g0:Int → A) (g1:Int → A) [h0:Xr f0 g0] [h1:Xr f1 g1]:Xr (wZ f0 f1) (wZ g0 g1):=⟨fun x=>by simp [wZ,A.loose,A.looses,h0.lo,h1.lo]⟩
instance (f0:Int → A) (f1:Int → A) (g0:Int → A) (g1:Int → A) [h0:z2u f0 g0] [h1:z2u f1 g1]:z2u (wZ f0 f1) (wZ g0 g1):=⟨fun x=>by simp [wZ,A.live,A.lives,h0.live,h1.live],fun x=>by simp [wZ,A.shut,A.shuts,h0.sh,h1.sh]⟩
instance (f0:Int → A) (f1:Int → A) [h0:vL f0] [h1:vL f1]:vL (wZ f0 f1):=⟨fun x y h=>by
 simp only [wZ,A.agg.injEq,List.cons.injEq,and_true] at h
 cases x; cases y
 simp only [z8.mk.injEq]
 exact ⟨h0.inj _ _ h.1,h1.inj _ _ h.2⟩⟩
structure z6 where
 Inputs:Int
 Outputs:Int
 Rows:List (List z8)
def up (f0:Int → A) (f1:Int → A) (f2:List (List z8) → A) (x:z6):A:=.agg [f0 x.Inputs,f1 x.Outputs,f2 x.Rows]
instance (f0:Int → A) (f1:Int → A) (f2:List (List z8) → A) (g0:Int → A) (g1:Int → A) (g2:List (List z8) → A) [h0:Xr f0 g0] [h1:Xr f1 g1] [h2:Xr f2 g2]:Xr (up f0 f1 f2) (up g0 g1 g2):=⟨fun x=>by simp [up,A.loose,A.looses,h0.lo,h1.lo,h2.lo]⟩
instance (f0:Int → A) (f1:Int → A) (f2:List (List z8) → A) [h0:vL f0] [h1:vL f1] [h2:vL f2]:vL (up f0 f1 f2):=⟨fun x y h=>by
 simp only [up,A.agg.injEq,List.cons.injEq,and_true] at h
 cases x; cases y
 simp only [z6.mk.injEq]
 exact ⟨h0.inj _ _ h.1,h1.inj _ _ h.2.1,h2.inj _ _ h.2.2⟩⟩
structure zI where
 block_:Int
 signature_:zz (wR Int)
instance:BEq zI:=⟨fun x y=>(x.block_ == y.block_) && (x.signature_ == y.signature_)⟩
def Qj (f0:Int → A) (f1:zz (wR Int) → A) (x:zI):A:=.agg [f0 x.block_,f1 x.signature_]
structure zm where
 state_:Int
 from_:Int
 input_:Int
def WI (f0:Int → A) (f1:Int → A) (f2:Int → A) (x:zm):A:=.agg [f0 x.state_,f1 x.from_,f2 x.input_]
instance (f0:Int → A) (f1:Int → A) (f2:Int → A) [h0:z0v f0] [h1:z0v f1] [h2:z0v f2]:z0v (WI f0 f1 f2):=⟨fun x=>by simp [WI,A.isD,A.areD,h0.isD,h1.isD,h2.isD]⟩
structure zP where
 S:Int
 T:Int
 Word:List Int
 Apart:Bool
def zT (f0:Int → A) (f1:Int → A) (f2:List Int → A) (f3:Bool → A) (x:zP):A:=.agg [f0 x.S,f1 x.T,f2 x.Word,f3 x.Apart]
instance (f0:Int → A) (f1:Int → A) (f2:List Int → A) (f3:Bool → A) [h0:z0v f0] [h1:z0v f1] [h2:z0v f2] [h3:z0v f3]:z0v (zT f0 f1 f2 f3):=⟨fun x=>by simp [zT,A.isD,A.areD,h0.isD,h1.isD,h2.isD,h3.isD]⟩
instance (f0:Int → A) (f1:Int → A) (f2:List Int → A) (f3:Bool → A) (g0:Int → A) (g1:Int → A) (g2:List Int → A) (g3:Bool → A) [h0:z2u f0 g0] [h1:z2u f1 g1] [h2:z2u f2 g2] [h3:z2u f3 g3]:z2u (zT f0 f1 f2 f3) (zT g0 g1 g2 g3):=⟨fun x=>by simp [zT,A.live,A.lives,h0.live,h1.live,h2.live,h3.live],fun x=>by simp [zT,A.shut,A.shuts,h0.sh,h1.sh,h2.sh,h3.sh]⟩
structure zj where
 m_:z6
 q_:List (List Int)
 p_:List (List Int)
 all_:List (List Int)
 each_:List (List (List Int))
 short_:List (List Int)
 exact_:List (List Int)
def jD (f0:z6 → A) (f1:List (List Int) → A) (f2:List (List Int) → A) (f3:List (List Int) → A) (f4:List (List (List Int)) → A) (f5:List (List Int) → A) (f6:List (List Int) → A) (x:zj):A:=.agg [f0 x.m_,f1 x.q_,f2 x.p_,f3 x.all_,f4 x.each_,f5 x.short_,f6 x.exact_]
instance (f0:z6 → A) (f1:List (List Int) → A) (f2:List (List Int) → A) (f3:List (List Int) → A) (f4:List (List (List Int)) → A) (f5:List (List Int) → A) (f6:List (List Int) → A) (g0:z6 → A) (g1:List (List Int) → A) (g2:List (List Int) → A) (g3:List (List Int) → A) (g4:List (List (List Int)) → A) (g5:List (List Int) → A) (g6:List (List Int) → A) [h0:Xr f0 g0] [h1:Xr f1 g1] [h2:Xr f2 g2] [h3:Xr f3 g3] [h4:Xr f4 g4] [h5:Xr f5 g5] [h6:Xr f6 g6]:Xr (jD f0 f1 f2 f3 f4 f5 f6) (jD g0 g1 g2 g3 g4 g5 g6):=⟨fun x=>by simp [jD,A.loose,A.looses,h0.lo,h1.lo,h2.lo,h3.lo,h4.lo,h5.lo,h6.lo]⟩
instance (f0:z6 → A) (f1:List (List Int) → A) (f2:List (List Int) → A) (f3:List (List Int) → A) (f4:List (List (List Int)) → A) (f5:List (List Int) → A) (f6:List (List Int) → A) [h0:vL f0] [h1:vL f1] [h2:vL f2] [h3:vL f3] [h4:vL f4] [h5:vL f5] [h6:vL f6]:vL (jD f0 f1 f2 f3 f4 f5 f6):=⟨fun x y h=>by
 simp only [jD,A.agg.injEq,List.cons.injEq,and_true] at h
 cases x; cases y
 simp only [zj.mk.injEq]
 exact ⟨h0.inj _ _ h.1,h1.inj _ _ h.2.1,h2.inj _ _ h.2.2.1,h3.inj _ _ h.2.2.2.1,h4.inj _ _ h.2.2.2.2.1,h5.inj _ _ h.2.2.2.2.2.1,h6.inj _ _ h.2.2.2.2.2.2⟩⟩
structure K4 where
structure zg where
 nodes_:List (zz Int)
 leaves_:Int
 most_:Int
def yg (f0:List (zz Int) → A) (f1:Int → A) (f2:Int → A) (x:zg):A:=.agg [f0 x.nodes_,f1 x.leaves_,f2 x.most_]
instance (f0:List (zz Int) → A) (f1:Int → A) (f2:Int → A) (g0:List (zz Int) → A) (g1:Int → A) (g2:Int → A) [h0:Xr f0 g0] [h1:Xr f1 g1] [h2:Xr f2 g2]:Xr (yg f0 f1 f2) (yg g0 g1 g2):=⟨fun x=>by simp [yg,A.loose,A.looses,h0.lo,h1.lo,h2.lo]⟩
instance (f0:List (zz Int) → A) (f1:Int → A) (f2:Int → A) (g0:List (zz Int) → A) (g1:Int → A) (g2:Int → A) [h0:z2u f0 g0] [h1:z2u f1 g1] [h2:z2u f2 g2]:z2u (yg f0 f1 f2) (yg g0 g1 g2):=⟨fun x=>by simp [yg,A.live,A.lives,h0.live,h1.live,h2.live],fun x=>by simp [yg,A.shut,A.shuts,h0.sh,h1.sh,h2.sh]⟩
instance (f0:List (zz Int) → A) (f1:Int → A) (f2:Int → A) [h0:vL f0] [h1:vL f1] [h2:vL f2]:vL (yg f0 f1 f2):=⟨fun x y h=>by
 simp only [yg,A.agg.injEq,List.cons.injEq,and_true] at h
 cases x; cases y
 simp only [zg.mk.injEq]
 exact ⟨h0.inj _ _ h.1,h1.inj _ _ h.2.1,h2.inj _ _ h.2.2⟩⟩
structure QH where
structure UD where
structure zi where
 at_:Int
 w_:List Int
def yY (f0:Int → A) (f1:List Int → A) (x:zi):A:=.agg [f0 x.at_,f1 x.w_]
instance (f0:Int → A) (f1:List Int → A) [h0:z0v f0] [h1:z0v f1]:z0v (yY f0 f1):=⟨fun x=>by simp [yY,A.isD,A.areD,h0.isD,h1.isD]⟩
instance (f0:Int → A) (f1:List Int → A) (g0:Int → A) (g1:List Int → A) (x:zi) [∀ y,LeA (f0 y) (g0 y)] [∀ y,LeA (f1 y) (g1 y)] [∀ y,SzA (f0 y) (g0 y)] [∀ y,SzA (f1 y) (g1 y)]:LeA (yY f0 f1 x) (yY g0 g1 x):=by unfold yY; infer_instance
instance (f0:Int → A) (f1:List Int → A) (g0:Int → A) (g1:List Int → A) (x y:zi) [∀ y z,SzA (f0 y) (g0 z)] [∀ y z,SzA (f1 y) (g1 z)]:SzA (yY f0 f1 x) (yY g0 g1 y):=by unfold yY; infer_instance
instance:zpE (K:=zI) (Qj (eI .i64) (WJ (z0T (eI .i64)))):=⟨fun x y=>by
 obtain ⟨_,⟨⟨_,_⟩,⟨_,_⟩,⟨_,_⟩,⟨_,_⟩,⟨_,_⟩,⟨_,_⟩,⟨_,_⟩,⟨_,_⟩,⟨_,_⟩,⟨_,_⟩,⟨_,_⟩,⟨_,_⟩,⟨_,_⟩,⟨_,_⟩,⟨_,_⟩,⟨_,_⟩⟩⟩:=x
 obtain ⟨_,⟨⟨_,_⟩,⟨_,_⟩,⟨_,_⟩,⟨_,_⟩,⟨_,_⟩,⟨_,_⟩,⟨_,_⟩,⟨_,_⟩,⟨_,_⟩,⟨_,_⟩,⟨_,_⟩,⟨_,_⟩,⟨_,_⟩,⟨_,_⟩,⟨_,_⟩,⟨_,_⟩⟩⟩:=y
 simp only [WJ,z0T,Qj,eI,z1o,z5p,z5p.keyLs,zS,BEq.beq,Option.map_some,Option.some.injEq,Value.agg.injEq,List.cons_append,List.nil_append,List.append_nil,Array.mk.injEq,List.cons.injEq,Value.int.injEq,true_and,and_true,Bool.and_eq_true,decide_eq_true_eq,and_assoc]⟩
def XJ (x_:yf) (ka:List (List z8)):Option z6 :=
 some (z6.mk (w64 (1 + (w64 (Int.tmod x_.Inputs 3)))) (w64 (1 + (w64 (Int.tmod x_.Outputs 3)))) ka)
def XI (s_:Int) (jz:List (List z8)):Option (LR (List (List z8) × Int) (List (List z8))) :=
 some (.next (jz,w64 (s_ + 1)))
def XG (br:List (List z8)) (s_:Int) (row:List z8):Option (LR (List (List z8) × Int) (List (List z8))) :=
 gd (br.length + ([row]:List (List z8)).length ≤ 4294967296) <|
 XI s_ (br ++ ([row]:List (List z8)))
def ZK (i_:Int) (ln:List z8):Option (LR (List z8 × Int) (List z8)) :=
 some (.next (ln,w64 (i_ + 1)))
def un (x_:yf) (d0:List z8) (i_:Int) (v_:Int):Option (LR (List z8 × Int) (List z8)) :=
 bif x_.Partial then (
  gd ((4:Int) ≠ 0) <|
  bif (Int.tmod v_ 4) == 3 then (
   gd (d0.length + ([(z8.mk (-1) (-1))]:List z8).length ≤ 4294967296) <|
   ZK i_ (d0 ++ ([(z8.mk (-1) (-1))]:List z8)))
  else (
   gd ((4:Int) ≠ 0) <|
   gd (((w64 (1 + (w64 (Int.tmod x_.States 6)))):Int) ≠ 0) <|
   gd ((4:Int) ≠ 0) <|
   gd (((w64 (1 + (w64 (Int.tmod x_.States 6)))):Int) ≠ 0) <|
   gd (((w64 (1 + (w64 (Int.tmod x_.Outputs 3)))):Int) ≠ 0) <|
   gd (d0.length + ([(z8.mk (Int.tmod (w64 (Int.tdiv v_ 4)) (w64 (1 + (w64 (Int.tmod x_.States 6))))) (Int.tmod (w64 (Int.tdiv (w64 (Int.tdiv v_ 4)) (w64 (1 + (w64 (Int.tmod x_.States 6)))))) (w64 (1 + (w64 (Int.tmod x_.Outputs 3))))))]:List z8).length ≤ 4294967296) <|
   ZK i_ (d0 ++ ([(z8.mk (Int.tmod (w64 (Int.tdiv v_ 4)) (w64 (1 + (w64 (Int.tmod x_.States 6))))) (Int.tmod (w64 (Int.tdiv (w64 (Int.tdiv v_ 4)) (w64 (1 + (w64 (Int.tmod x_.States 6)))))) (w64 (1 + (w64 (Int.tmod x_.Outputs 3))))))]:List z8))))
 else (
  gd ((4:Int) ≠ 0) <|
  gd (((w64 (1 + (w64 (Int.tmod x_.States 6)))):Int) ≠ 0) <|
  gd ((4:Int) ≠ 0) <|
  gd (((w64 (1 + (w64 (Int.tmod x_.States 6)))):Int) ≠ 0) <|
  gd (((w64 (1 + (w64 (Int.tmod x_.Outputs 3)))):Int) ≠ 0) <|
  gd (d0.length + ([(z8.mk (Int.tmod (w64 (Int.tdiv v_ 4)) (w64 (1 + (w64 (Int.tmod x_.States 6))))) (Int.tmod (w64 (Int.tdiv (w64 (Int.tdiv v_ 4)) (w64 (1 + (w64 (Int.tmod x_.States 6)))))) (w64 (1 + (w64 (Int.tmod x_.Outputs 3))))))]:List z8).length ≤ 4294967296) <|
  ZK i_ (d0 ++ ([(z8.mk (Int.tmod (w64 (Int.tdiv v_ 4)) (w64 (1 + (w64 (Int.tmod x_.States 6))))) (Int.tmod (w64 (Int.tdiv (w64 (Int.tdiv v_ 4)) (w64 (1 + (w64 (Int.tmod x_.States 6)))))) (w64 (1 + (w64 (Int.tmod x_.Outputs 3))))))]:List z8)))
def ZJ (x_:yf) (s_:Int) (d0:List z8) (i_:Int):Option (LR (List z8 × Int) (List z8)) :=
 bif decide (i_ < (w64 (1 + (w64 (Int.tmod x_.Inputs 3))))) then (
  bif decide ((w64 ((w64 (s_ * (w64 (1 + (w64 (Int.tmod x_.Inputs 3)))))) + i_)) < ((x_.Edges.length:Nat):Int)) then (
   (idx x_.Edges (w64 ((w64 (s_ * (w64 (1 + (w64 (Int.tmod x_.Inputs 3)))))) + i_))).bind fun lp=>
   un x_ d0 i_ (w64 (lp)))
  else (
   un x_ d0 i_ 0))
 else (
  some (.done d0))
def XF (x_:yf) (br:List (List z8)) (s_:Int):Option (LR (List (List z8) × Int) (List (List z8))) :=
 bif decide (s_ < (w64 (1 + (w64 (Int.tmod x_.States 6))))) then (
  (loop (fun s=>ZJ x_ s_ s.1 s.2) (([]:List z8),0)).bind fun t5=>
  XG br s_ t5)
 else (
  some (.done br))
def XV (x_:yf):Option z6 :=
 gd ((6:Int) ≠ 0) <|
 gd ((3:Int) ≠ 0) <|
 gd ((3:Int) ≠ 0) <|
 (loop (fun s=>XF x_ s.1 s.2) (([]:List (List z8)),0)).bind fun t2=>
 XJ x_ t2
def XC (m_:z6) (i7:List (List z8)):Option z6 :=
 some (z6.mk m_.Inputs m_.Outputs i7)
def jB (m_:z6) (bc:List (List z8)) (i_:Int) (bt:zaU Int) (ku:Int) (j6:Int):Option (LR (List (List z8) × Int) (List (List z8))) :=
 gd ((((bc.length:Nat):Int):Int) ≠ 0) <|
 (idx bc (Int.tmod (w64 (bt.e0)) ((bc.length:Nat):Int))).bind fun ig=>
 gd ((m_.Inputs:Int) ≠ 0) <|
 (idx ig (Int.tmod (w64 (bt.e1)) m_.Inputs)).bind fun l8=>
 some (.next ((bc.set (Int.tmod (w64 (bt.e0)) ((bc.length:Nat):Int)).toNat (ig.set (Int.tmod (w64 (bt.e1)) m_.Inputs).toNat (z8.mk ku j6))),w64 (i_ + 1)))
def jA (x_:yG) (m_:z6) (bc:List (List z8)) (i_:Int):Option (LR (List (List z8) × Int) (List (List z8))) :=
 bif decide (i_ < ((x_.Changes.length:Nat):Int)) then (
  bif decide (i_ < 40) then (
   (idx x_.Changes i_).bind fun bt=>
   gd ((((bc.length:Nat):Int):Int) ≠ 0) <|
   gd (((w64 (m_.Outputs + 1)):Int) ≠ 0) <|
   bif (Int.tmod (w64 (bt.e3)) (w64 (m_.Outputs + 1))) == m_.Outputs then (
    jB m_ bc i_ bt (-1) (-1))
   else (
    jB m_ bc i_ bt (Int.tmod (w64 (bt.e2)) ((bc.length:Nat):Int)) (Int.tmod (w64 (bt.e3)) (w64 (m_.Outputs + 1)))))
  else (
   some (.done bc)))
 else (
  some (.done bc))
def XD (x_:yG) (m_:z6) (ii:List (List z8)):Option z6 :=
 (loop (fun s=>jA x_ m_ s.1 s.2) (ii,0)).bind fun t4=>
 XC m_ t4
def qZ (x_:yG) (m_:z6) (d8:List (List z8)) (dx:Int):Option (LR (List (List z8) × Int) (List (List z8))) :=
 bif decide (dx < ((x_.Copies.length:Nat):Int)) then (
  bif decide (dx < 2) then (
   (idx x_.Copies dx).bind fun l9=>
   gd ((((m_.Rows.length:Nat):Int):Int) ≠ 0) <|
   (idx m_.Rows (Int.tmod (w64 (l9)) ((m_.Rows.length:Nat):Int))).bind fun am=>
   gd (([]:List z8).length + am.length ≤ 4294967296) <|
   gd (d8.length + ([am]:List (List z8)).length ≤ 4294967296) <|
   some (.next ((d8 ++ ([am]:List (List z8))),w64 (dx + 1))))
  else (
   some (.done d8)))
 else (
  some (.done d8))
def XE (x_:yG) (m_:z6) (iw:List (List z8)):Option z6 :=
 (loop (fun s=>qZ x_ m_ s.1 s.2) (iw,0)).bind fun t6=>
 XD x_ m_ t6
def qY (m_:z6) (fj:List (List z8)) (s_:Int):Option (LR (List (List z8) × Int) (List (List z8))) :=
 bif decide (s_ < ((m_.Rows.length:Nat):Int)) then (
  (idx m_.Rows s_).bind fun gc=>
  gd (([]:List z8).length + gc.length ≤ 4294967296) <|
  gd (fj.length + ([gc]:List (List z8)).length ≤ 4294967296) <|
  some (.next ((fj ++ ([gc]:List (List z8))),w64 (s_ + 1))))
 else (
  some (.done fj))
def Ut (x_:yG) (m_:z6):Option z6 :=
 (loop (fun s=>qY m_ s.1 s.2) (([]:List (List z8)),0)).bind fun t7=>
 XE x_ m_ t7
def wm (x_:yN):Option Int :=
 gd ((3:Int) ≠ 0) <|
 some (w64 (1 + (w64 (Int.tmod x_.Inputs 3))))
def VS (out:List (List Int)):Option (List (List Int)) :=
 some out
def YS (i_:Int) (a7:List (List Int)):Option (LR (List (List Int) × Int) (List (List Int))) :=
 some (.next (a7,w64 (i_ + 1)))
def YR (ak:List (List Int)) (i_:Int) (w_:List Int):Option (LR (List (List Int) × Int) (List (List Int))) :=
 gd (ak.length + ([w_]:List (List Int)).length ≤ 4294967296) <|
 YS i_ (ak ++ ([w_]:List (List Int)))
def uH (x_:yN) (i_:Int) (gw:List Int) (k_:Int):Option (LR (List Int × Int) (List Int)) :=
 (idx x_.Words i_).bind fun lq=>
 bif decide (k_ < ((lq.length:Nat):Int)) then (
  bif decide (k_ < 12) then (
   (idx x_.Words i_).bind fun ma=>
   (idx ma k_).bind fun ic=>
   (wm x_).bind fun r_=>
   gd ((r_:Int) ≠ 0) <|
   gd (gw.length + ([Int.tmod (w64 (ic)) r_]:List Int).length ≤ 4294967296) <|
   some (.next ((gw ++ ([Int.tmod (w64 (ic)) r_]:List Int)),w64 (k_ + 1))))
  else (
   some (.done gw)))
 else (
  some (.done gw))
def jV (x_:yN) (ak:List (List Int)) (i_:Int):Option (LR (List (List Int) × Int) (List (List Int))) :=
 bif decide (i_ < ((x_.Words.length:Nat):Int)) then (
  bif decide (i_ < 40) then (
   (loop (fun s=>uH x_ i_ s.1 s.2) (([]:List Int),0)).bind fun t5=>
   YR ak i_ t5)
  else (
   some (.done ak)))
 else (
  some (.done ak))
def WD (x_:yN):Option (List (List Int)) :=
 (loop (fun s=>jV x_ s.1 s.2) (([]:List (List Int)),0)).bind fun t2=>
 VS t2
def Xm:Option Int :=
 some 0
def uv (a_:List Int) (b_:List Int) (i_:Int):Option (LR Int (Unit ⊕ Int)) :=
 bif decide (i_ < ((a_.length:Nat):Int)) then (
  (idx a_ i_).bind fun fh=>
  (idx b_ i_).bind fun dv=>
  bif decide (fh < dv) then (
   some (.done (.inr (-1))))
  else (
   (idx a_ i_).bind fun mw=>
   (idx b_ i_).bind fun my=>
   bif decide (mw > my) then (
    some (.done (.inr 1)))
   else (
    some (.next (w64 (i_ + 1))))))
 else (
  some (.done (.inl ())))
def uj (a_:List Int) (b_:List Int):Option Int :=
 bif ((a_.length:Nat):Int) != ((b_.length:Nat):Int) then (
  bif decide (((a_.length:Nat):Int) < ((b_.length:Nat):Int)) then (
   some (-1))
  else (
   some 1))
 else (
  (loop (fun s=>uv a_ b_ s) 0).bind fun t2=>
  match t2 with
  | .inl p=>Xm
  | .inr p=>some p)
def Vs (w_:List Int) (fg:Int) (de:List (List Int)):Option (List (List Int)) :=
 gd (([]:List Int).length + w_.length ≤ 4294967296) <|
 (idx de fg).bind fun cb=>
 some (de.set fg.toNat w_)
def YZ (fg:Int) (jg:List (List Int)) (i_:Int):Option (LR (List (List Int) × Int) (List (List Int))) :=
 bif decide (i_ > fg) then (
  (idx jg (w64 (i_ - 1))).bind fun ft=>
  (idx jg i_).bind fun ni=>
  some (.next ((jg.set i_.toNat ft),w64 (i_ - 1))))
 else (
  some (.done jg))
def Zf (l_:List (List Int)) (w_:List Int) (fg:Int):Option (List (List Int)) :=
 gd (l_.length + ([[]]:List (List Int)).length ≤ 4294967296) <|
 (loop (fun s=>YZ fg s.1 s.2) ((l_ ++ ([[]]:List (List Int))),w64 ((((l_ ++ ([[]]:List (List Int))).length:Nat):Int) - 1))).bind fun t4=>
 Vs w_ fg t4
def Vt (l_:List (List Int)) (w_:List Int) (fg:Int):Option (List (List Int)) :=
 bif decide (fg < ((l_.length:Nat):Int)) then (
  (idx l_ fg).bind fun lf=>
  (uj lf w_).bind fun r_=>
  bif r_ == 0 then (
   some l_)
  else (
   Zf l_ w_ fg))
 else (
  Zf l_ w_ fg)
def YX (l_:List (List Int)) (w_:List Int) (ix:Int) (jl:Int):Option (LR (Int × Int) Int) :=
 bif decide (ix < jl) then (
  gd ((2:Int) ≠ 0) <|
  (idx l_ (w64 (Int.tdiv (w64 (ix + jl)) 2))).bind fun lh=>
  (uj lh w_).bind fun ah=>
  bif decide (ah < 0) then (
   some (.next (w64 ((w64 (Int.tdiv (w64 (ix + jl)) 2)) + 1),jl)))
  else (
   some (.next (ix,w64 (Int.tdiv (w64 (ix + jl)) 2)))))
 else (
  some (.done ix))
def JP (l_:List (List Int)) (w_:List Int):Option (List (List Int)) :=
 (loop (fun s=>YX l_ w_ s.1 s.2) (0,((l_.length:Nat):Int))).bind fun t5=>
 Vt l_ w_ t5
def Q7 (out:List (List Int)):Option (List (List Int)) :=
 some out
def vb (l_:List (List Int)) (ak:List (List Int)) (i_:Int):Option (LR (List (List Int) × Int) (List (List Int))) :=
 bif decide (i_ < ((l_.length:Nat):Int)) then (
  (idx l_ i_).bind fun cb=>
  (JP ak cb).bind fun r_=>
  some (.next (r_,w64 (i_ + 1))))
 else (
  some (.done ak))
def XT (l_:List (List Int)):Option (List (List Int)) :=
 (loop (fun s=>vb l_ s.1 s.2) (([]:List (List Int)),0)).bind fun t2=>
 Q7 t2
def Uu (x_:yN):Option (List (List Int)) :=
 (WD x_).bind fun r_=>
 (XT r_).bind fun ah=>
 some ah
def ul:Option z8 :=
 some (z8.mk (-1) (-1))
def ZI (m_:z6) (x_:z8):Option Bool :=
 (ul).bind fun r_=>
 bif (x_.To == r_.To) && ((x_.Out == r_.Out) && true) then (
  some true)
 else (
  bif decide (x_.To ≥ 0) then (
   bif decide (x_.To < ((m_.Rows.length:Nat):Int)) then (
    bif decide (x_.Out ≥ 0) then (
     some (decide (x_.Out < m_.Outputs)))
    else (
     some false))
   else (
    some false))
  else (
   some false))
def kC (x_:z8) (x1:z6):Option Bool :=
 (ZI x1 x_).bind fun r_=>
 some (!r_)
def yS:Option Int :=
 some (-1)
def zR (s_:List z8) (f_:z6) (x8:Int):Option (LR Int (Unit ⊕ Int)) :=
 bif decide (x8 < ((s_.length:Nat):Int)) then (
  (idx s_ x8).bind fun da=>
  (kC da f_).bind fun r_=>
  bif r_ then (
   some (.done (.inr x8)))
  else (
   some (.next (w64 (x8 + 1)))))
 else (
  some (.done (.inl ())))
def yj (s_:List z8) (f_:z6):Option Int :=
 (loop (fun s=>zR s_ f_ s) 0).bind fun t2=>
 match t2 with
 | .inl p=>yS
 | .inr p=>some p
def y4 (s_:List z8) (f_:z6):Option Bool :=
 (yj s_ f_).bind fun r_=>
 some (decide (r_ ≥ 0))
def Yv:Option Int :=
 some 0
def wD (m_:z6) (ij:Int):Option (LR Int (Unit ⊕ Int)) :=
 bif decide (ij < ((m_.Rows.length:Nat):Int)) then (
  (idx m_.Rows ij).bind fun am=>
  bif ((am.length:Nat):Int) != m_.Inputs then (
   some (.done (.inr 1)))
  else (
   (y4 am m_).bind fun r_=>
   bif r_ then (
    some (.done (.inr 1)))
   else (
    some (.next (w64 (ij + 1))))))
 else (
  some (.done (.inl ())))
def yH (m_:z6):Option Int :=
 bif decide (m_.Inputs > 16) then (
  some 3)
 else (
  bif decide (m_.Outputs > 16) then (
   some 3)
  else (
   bif decide (((m_.Rows.length:Nat):Int) > 64) then (
    some 3)
   else (
    bif decide (m_.Inputs < 1) then (
     some 1)
    else (
     bif decide (m_.Outputs < 1) then (
      some 1)
     else (
      bif decide (((m_.Rows.length:Nat):Int) < 1) then (
       some 1)
      else (
       (loop (fun s=>wD m_ s) 0).bind fun t2=>
       match t2 with
       | .inl p=>Yv
       | .inr p=>some p))))))
def Xt (c_:Int) (x1:Int):Option Bool :=
 bif decide (c_ < 0) then (
  some true)
 else (
  some (decide (c_ ≥ x1)))
def wK:Option Int :=
 some (-1)
def ye (s_:List Int) (f_:Int) (x8:Int):Option (LR Int (Unit ⊕ Int)) :=
 bif decide (x8 < ((s_.length:Nat):Int)) then (
  (idx s_ x8).bind fun da=>
  (Xt da f_).bind fun r_=>
  bif r_ then (
   some (.done (.inr x8)))
  else (
   some (.next (w64 (x8 + 1)))))
 else (
  some (.done (.inl ())))
def wb (s_:List Int) (f_:Int):Option Int :=
 (loop (fun s=>ye s_ f_ s) 0).bind fun t2=>
 match t2 with
 | .inl p=>wK
 | .inr p=>some p
def xy (s_:List Int) (f_:Int):Option Bool :=
 (wb s_ f_).bind fun r_=>
 some (decide (r_ ≥ 0))
def u4 (w_:List Int) (inputs:Int):Option Int :=
 bif decide (inputs > 16) then (
  some 3)
 else (
  bif decide (((w_.length:Nat):Int) > 256) then (
   some 3)
  else (
   bif decide (inputs < 1) then (
    some 1)
   else (
    (xy w_ inputs).bind fun r_=>
    bif r_ then (
     some 1)
    else (
     some 0))))
def VC:Option Int :=
 some 0
def uD (l_:List (List Int)) (inputs:Int) (d9:Int):Option (LR Int (Unit ⊕ Int)) :=
 bif decide (d9 < ((l_.length:Nat):Int)) then (
  (idx l_ d9).bind fun cb=>
  (u4 cb inputs).bind fun r_=>
  bif r_ != 0 then (
   some (.done (.inr r_)))
  else (
   some (.next (w64 (d9 + 1)))))
 else (
  some (.done (.inl ())))
def Y7 (l_:List (List Int)) (inputs:Int):Option Int :=
 bif decide (inputs > 16) then (
  some 3)
 else (
  bif decide (((l_.length:Nat):Int) > 4096) then (
   some 3)
  else (
   bif decide (inputs < 1) then (
    some 1)
   else (
    (loop (fun s=>uD l_ inputs s) 0).bind fun t2=>
    match t2 with
    | .inl p=>VC
    | .inr p=>some p)))
def ZR (x_:Int):Option Bool :=
 some (x_ != x_)
def vW (x_:Int) (y_:Int):Option Int :=
 (ZR x_).bind fun r_=>
 (ZR y_).bind fun ah=>
 bif r_ then (
  bif ah then (
   some 0)
  else (
   some (-1)))
 else (
  bif ah then (
   some 1)
  else (
   bif decide (x_ < y_) then (
    some (-1))
   else (
    bif decide (x_ > y_) then (
     some 1)
    else (
     some 0))))
def xR (s1:List Int) (s2:List Int):Option Int :=
 bif decide (((s1.length:Nat):Int) < ((s2.length:Nat):Int)) then (
  some (-1))
 else (
  some 0)
def yl (s1:List Int) (s2:List Int) (ew:Int):Option (LR Int (Unit ⊕ Int)) :=
 bif decide (ew < ((s1.length:Nat):Int)) then (
  (idx s1 ew).bind fun lu=>
  bif decide (ew ≥ ((s2.length:Nat):Int)) then (
   some (.done (.inr 1)))
  else (
   (idx s2 ew).bind fun kw=>
   (vW lu kw).bind fun r_=>
   bif r_ != 0 then (
    some (.done (.inr r_)))
   else (
    some (.next (w64 (ew + 1))))))
 else (
  some (.done (.inl ())))
def xJ (s1:List Int) (s2:List Int):Option Int :=
 (loop (fun s=>yl s1 s2 s) 0).bind fun t2=>
 match t2 with
 | .inl p=>xR s1 s2
 | .inr p=>some p
def XL:Option Int :=
 some 0
def jE (vals:List Int) (x8:Int):Option (LR Int (Unit ⊕ Int)) :=
 bif decide (x8 < ((vals.length:Nat):Int)) then (
  (idx vals x8).bind fun mf=>
  bif mf != 0 then (
   some (.done (.inr mf)))
  else (
   some (.next (w64 (x8 + 1)))))
 else (
  some (.done (.inl ())))
def UA (vals:List Int):Option Int :=
 (loop (fun s=>jE vals s) 0).bind fun t2=>
 match t2 with
 | .inl p=>XL
 | .inr p=>some p
def wq (a_:List Int) (b_:List Int):Option Int :=
 (vW ((a_.length:Nat):Int) ((b_.length:Nat):Int)).bind fun r_=>
 (xJ a_ b_).bind fun ah=>
 (UA ([r_,ah])).bind fun aj=>
 some aj
def YI:Option Bool :=
 some true
def uE (l_:List (List Int)) (i_:Int):Option (LR Int (Unit ⊕ Bool)) :=
 bif decide (i_ < ((l_.length:Nat):Int)) then (
  (idx l_ (w64 (i_ - 1))).bind fun cb=>
  (idx l_ i_).bind fun ft=>
  (wq cb ft).bind fun r_=>
  bif decide (r_ ≥ 0) then (
   some (.done (.inr false)))
  else (
   some (.next (w64 (i_ + 1)))))
 else (
  some (.done (.inl ())))
def W5 (l_:List (List Int)):Option Bool :=
 (loop (fun s=>uE l_ s) 1).bind fun t2=>
 match t2 with
 | .inl p=>YI
 | .inr p=>some p
def VB (n_:Int):Option Int :=
 some n_
def uC (l_:List (List Int)) (dj:Int) (x7:Int):Option (LR (Int × Int) Int) :=
 bif decide (x7 < ((l_.length:Nat):Int)) then (
  (idx l_ x7).bind fun cb=>
  some (.next (w64 (dj + ((cb.length:Nat):Int)),w64 (x7 + 1))))
 else (
  some (.done dj))
def Y6 (l_:List (List Int)):Option Int :=
 (loop (fun s=>uC l_ s.1 s.2) (0,0)).bind fun t2=>
 VB t2
def u6 (l_:List (List Int)) (inputs:Int):Option Int :=
 (Y7 l_ inputs).bind fun r_=>
 bif r_ != 0 then (
  some r_)
 else (
  (W5 l_).bind fun ah=>
  bif !ah then (
   some 1)
  else (
   (Y6 l_).bind fun aj=>
   bif decide (aj > 65536) then (
    some 3)
   else (
    some 0)))
def uG (m_:z6) (s_:Int):Option Int :=
 (yH m_).bind fun r_=>
 bif r_ != 0 then (
  some r_)
 else (
  bif decide (s_ < 0) then (
   some 1)
  else (
   bif decide (s_ ≥ ((m_.Rows.length:Nat):Int)) then (
    some 1)
   else (
    some 0)))
def ZH (cr:Int) (out:List Int):Option (List Int × Int) :=
 some (out,cr)
def wM (ak:List Int) (ar:Int) (lv:Int) (kl:Int):Option (LR (Int × List Int × Int) ((Int × List Int))) :=
 (idx ak ar).bind fun jj=>
 some (.next (lv,(ak.set ar.toNat kl),w64 (ar + 1)))
def ZG (m_:z6) (w_:List Int) (dg:Int) (ak:List Int) (ar:Int):Option (LR (Int × List Int × Int) ((Int × List Int))) :=
 bif decide (ar < ((w_.length:Nat):Int)) then (
  (idx w_ ar).bind fun iy=>
  (ul).bind fun r_=>
  bif dg != (-1) then (
   (idx m_.Rows dg).bind fun am=>
   (idx am iy).bind fun au=>
   wM ak ar au.To au.Out)
  else (
   wM ak ar r_.To r_.Out))
 else (
  some (.done (dg,ak)))
def Zi (m_:z6) (s_:Int) (w_:List Int):Option (List Int × Int) :=
 gd ((0:Int) ≤ ((w_.length:Nat):Int) ∧ (((w_.length:Nat):Int):Int) ≤ 4294967296) <|
 (loop (fun s=>ZG m_ w_ s.1 s.2.1 s.2.2) (s_,(List.replicate ((w_.length:Nat):Int).toNat (0:Int)),0)).bind fun t2=>
 ZH t2.1 t2.2
def Zj (m_:z6) (s_:Int) (w_:List Int):Option (List Int × Int) :=
 (uG m_ s_).bind fun r_=>
 bif r_ != 0 then (
  some (([]:List Int),r_))
 else (
  (u4 w_ m_.Inputs).bind fun ah=>
  bif ah != 0 then (
   some (([]:List Int),ah))
  else (
   (Zi m_ s_ w_).bind fun aj=>
   some (aj.1,0)))
def wx:Option Bool :=
 some true
def yI (s1:List Int) (s2:List Int) (dw:Int):Option (LR Int (Unit ⊕ Bool)) :=
 bif decide (dw < ((s1.length:Nat):Int)) then (
  (idx s1 dw).bind fun lu=>
  (idx s2 dw).bind fun kw=>
  bif lu != kw then (
   some (.done (.inr false)))
  else (
   some (.next (w64 (dw + 1)))))
 else (
  some (.done (.inl ())))
def xA (s1:List Int) (s2:List Int):Option Bool :=
 bif ((s1.length:Nat):Int) != ((s2.length:Nat):Int) then (
  some false)
 else (
  (loop (fun s=>yI s1 s2 s) 0).bind fun t2=>
  match t2 with
  | .inl p=>wx
  | .inr p=>some p)
def Wc:Option (Bool × Int) :=
 some (true,0)
def wH (m_:z6) (other:z6) (l_:List (List Int)) (kb:Int):Option (LR Int (Unit ⊕ (Bool × Int))) :=
 bif decide (kb < ((l_.length:Nat):Int)) then (
  (idx l_ kb).bind fun cb=>
  (Zj m_ 0 cb).bind fun ah=>
  (Zj other 0 cb).bind fun aj=>
  (xA ah.1 aj.1).bind fun aw=>
  bif !aw then (
   some (.done (.inr (false,0))))
  else (
   some (.next (w64 (kb + 1)))))
 else (
  some (.done (.inl ())))
def qt (m_:z6) (other:z6) (l_:List (List Int)):Option (Bool × Int) :=
 bif m_.Inputs != other.Inputs then (
  some (false,5))
 else (
  (u6 l_ m_.Inputs).bind fun r_=>
  bif r_ != 0 then (
   some (false,r_))
  else (
   (loop (fun s=>wH m_ other l_ s) 0).bind fun t3=>
   match t3 with
   | .inl p=>Wc
   | .inr p=>some p))
def wG (m_:z6) (other:z6) (lw:Int):Option (LR Int (Unit ⊕ (Bool × Int))) :=
 bif decide (lw < ((([m_,other]:List z6).length:Nat):Int)) then (
  (idx ([m_,other]) lw).bind fun kc=>
  (yH kc).bind fun cd=>
  bif cd != 0 then (
   some (.done (.inr (false,cd))))
  else (
   some (.next (w64 (lw + 1)))))
 else (
  some (.done (.inl ())))
def YV (m_:z6) (other:z6) (l_:List (List Int)):Option (Bool × Int) :=
 (loop (fun s=>wG m_ other s) 0).bind fun t4=>
 match t4 with
 | .inl p=>qt m_ other l_
 | .inr p=>some p
def Un (m_:z6) (s_:Int) (i_:Int):Option z8 :=
 bif decide (s_ < 0) then (
  some (z8.mk (-1) (-1)))
 else (
  (idx m_.Rows s_).bind fun am=>
  (idx am i_).bind fun au=>
  some au)
def Vu (out:List Int):Option (List Int) :=
 some out
def X1 (m_:z6) (w_:List Int) (cr:Int) (ak:List Int) (k_:Int):Option (LR (Int × List Int × Int) (List Int)) :=
 bif decide (k_ < ((w_.length:Nat):Int)) then (
  (idx w_ k_).bind fun iy=>
  (Un m_ cr iy).bind fun r_=>
  gd (ak.length + ([r_.Out]:List Int).length ≤ 4294967296) <|
  some (.next (r_.To,(ak ++ ([r_.Out]:List Int)),w64 (k_ + 1))))
 else (
  some (.done ak))
def Um (m_:z6) (s_:Int) (w_:List Int):Option (List Int) :=
 (loop (fun s=>X1 m_ w_ s.1 s.2.1 s.2.2) (s_,([]:List Int),0)).bind fun t2=>
 Vu t2
def XA:Option Bool :=
 some true
def qW (a_:List (List Int)) (b_:List (List Int)) (i_:Int):Option (LR Int (Unit ⊕ Bool)) :=
 bif decide (i_ < ((a_.length:Nat):Int)) then (
  (idx a_ i_).bind fun fh=>
  (idx b_ i_).bind fun dv=>
  (uj fh dv).bind fun r_=>
  bif r_ != 0 then (
   some (.done (.inr false)))
  else (
   some (.next (w64 (i_ + 1)))))
 else (
  some (.done (.inl ())))
def XU (a_:List (List Int)) (b_:List (List Int)):Option Bool :=
 bif ((a_.length:Nat):Int) != ((b_.length:Nat):Int) then (
  some false)
 else (
  (loop (fun s=>qW a_ b_ s) 0).bind fun t2=>
  match t2 with
  | .inl p=>XA
  | .inr p=>some p)
def VO:Option Bool :=
 some true
def vA (m_:z6) (other:z6) (l_:List (List Int)) (i_:Int):Option (LR Int (Unit ⊕ Bool)) :=
 bif decide (i_ < ((l_.length:Nat):Int)) then (
  (idx l_ i_).bind fun cb=>
  (Um m_ 0 cb).bind fun r_=>
  (idx l_ i_).bind fun ft=>
  (Um other 0 ft).bind fun ah=>
  (XU ([r_]) ([ah])).bind fun aj=>
  bif !aj then (
   some (.done (.inr false)))
  else (
   some (.next (w64 (i_ + 1)))))
 else (
  some (.done (.inl ())))
def Wv (m_:z6) (other:z6) (l_:List (List Int)):Option Bool :=
 (loop (fun s=>vA m_ other l_ s) 0).bind fun t2=>
 match t2 with
 | .inl p=>VO
 | .inr p=>some p
def Qd:Option z6 :=
 some (z6.mk 2 2 ([[(z8.mk 1 0),(z8.mk 0 0)],[(z8.mk 2 0),(z8.mk 1 1)],[(z8.mk 0 1),(z8.mk 2 0)]]))
def Ww (m_:z6):Option ((Int × z6) × (Int × z6) × (Int × z6)) :=
 some ((9,m_),(11,m_),(12,m_))
def VQ (m_:z6):Option z6 :=
 some m_
variable {σ:Type}
def kZ (du:Int) (i8:σ):Option (LR (σ × Int) σ) :=
 some (.next (i8,w64 (du + 1)))
def kX (yy:σ → (wR Int × z8) → Option (σ × Bool)) (du:Int) (am:List z8) (fk:σ) (ar:Int):Option (LR (σ × Int) (σ ⊕ σ)) :=
 bif decide (ar < ((am.length:Nat):Int)) then (
  (idx am ar).bind fun au=>
  (yy fk ((wR.mk du ar),au)).bind fun yr=>
  bif !yr.2 then (
   some (.done (.inr yr.1)))
  else (
   some (.next (yr.1,w64 (ar + 1)))))
 else (
  some (.done (.inl fk)))
def kY (x0:z6) (yy:σ → (wR Int × z8) → Option (σ × Bool)) (ct:σ) (du:Int):Option (LR (σ × Int) σ) :=
 bif decide (du < ((x0.Rows.length:Nat):Int)) then (
  (idx x0.Rows du).bind fun am=>
  (loop (fun s=>kX yy du am s.1 s.2) (ct,0)).bind fun t3=>
  match t3 with
  | .inl p=>kZ du p
  | .inr p=>some (.done p))
 else (
  some (.done ct))
def kB (x0:z6) {σ:Type} (yy:σ → (wR Int × z8) → Option (σ × Bool)) (sg:σ):Option σ :=
 (loop (fun s=>kY x0 yy s.1 s.2) (sg,0)).bind fun t1=>
 some t1
def ui (s_:List (wR Int)):Option (List (wR Int)) :=
 gd ((0:Int) ≤ 0 ∧ (0:Int) ≤ ((s_.length:Nat):Int) ∧ (((s_.length:Nat):Int):Int) ≤ ((s_.length:Nat):Int) ∧ (((s_.length:Nat):Int):Int) ≤ ((s_.length:Nat):Int)) <|
 some ((s_.drop 0).take (((s_.length:Nat):Int).toNat - 0))
def qH (out:List (wR Int)):Option (List (wR Int)) :=
 (ui out).bind fun r_=>
 some r_
def vd (ak:List (wR Int)) (x8:wR Int) (x9:z8):Option (LR (List (wR Int)) Empty) :=
 (ul).bind fun aj=>
 bif (x9.To == aj.To) && ((x9.Out == aj.Out) && true) then (
  gd (ak.length + ([x8]:List (wR Int)).length ≤ 4294967296) <|
  some (.next (ak ++ ([x8]:List (wR Int)))))
 else (
  some (.next ak))
def ZF (m_:z6):Option (List (wR Int)) :=
 (VQ m_).bind fun ah=>
 (kB ah (yOf (fun s x=>vd s x.1 x.2)) (.next ([]:List (wR Int)))).bind fun t2=>
 match t2 with
 | .next ak=>(
  qH ak)
 | .done z=>nomatch z
def Yu (m_:z6):Option (Bool × Int) :=
 (yH m_).bind fun r_=>
 bif r_ != 0 then (
  some (false,r_))
 else (
  (ZF m_).bind fun ah=>
  some (((ah.length:Nat):Int) == 0,0))
def Yt (x0:z6):Option Bool :=
 (Yu x0).bind fun r_=>
 some r_.1
def um (mi:Int → (List Bool) → z6 → Option (List Bool × z6)) (am:List z8) (x1:List Bool) (gm:Int) (gb:Int) (iz:List (List z8)) (dp:Int):Option (LR (List Bool × Int × Int × List (List z8) × Int) ((List Bool × z6))) :=
 bif decide (dp < ((am.length:Nat):Int)) then (
  (idx am dp).bind fun au=>
  (mi au.To x1 (z6.mk gm gb iz)).bind fun r_=>
  some (.next (r_.1,r_.2.Inputs,r_.2.Outputs,r_.2.Rows,w64 (dp + 1))))
 else (
  some (.done (x1,(z6.mk gm gb iz))))
def uV (mi:Int → (List Bool) → z6 → Option (List Bool × z6)) (s_:Int) (y0:List Bool) (y1:z6):Option (List Bool × z6) :=
 bif s_ == (-1) then (
  some (y0,y1))
 else (
  (idx y0 s_).bind fun nk=>
  bif nk then (
   some (y0,y1))
  else (
   (idx y0 s_).bind fun nr=>
   (idx y1.Rows s_).bind fun am=>
   (loop (fun s=>um mi am s.1 s.2.1 s.2.2.1 s.2.2.2.1 s.2.2.2.2) ((y0.set s_.toNat true),y1.Inputs,y1.Outputs,y1.Rows,0)).bind fun t1=>
   some t1))
def vG (fu:Nat):Int → (List Bool) → z6 → Option (List Bool × z6):=Nat.rec (motive:=fun _=>Int → (List Bool) → z6 → Option (List Bool × z6)) (fun _ _ _=>none) (fun _ ih=>uV ih) fu
def vt:Option Int :=
 some (-1)
def vq (s_:List Bool) (v_:Bool) (x8:Int):Option (LR Int (Unit ⊕ Int)) :=
 bif decide (x8 < ((s_.length:Nat):Int)) then (
  (idx s_ x8).bind fun da=>
  bif v_ == da then (
   some (.done (.inr x8)))
  else (
   some (.next (w64 (x8 + 1)))))
 else (
  some (.done (.inl ())))
def uU (s_:List Bool) (v_:Bool):Option Int :=
 (loop (fun s=>vq s_ v_ s) 0).bind fun t2=>
 match t2 with
 | .inl p=>vt
 | .inr p=>some p
def vw (s_:List Bool) (v_:Bool):Option Bool :=
 (uU s_ v_).bind fun r_=>
 some (decide (r_ ≥ 0))
def qb (m_:z6):Option (Bool × Int) :=
 (yH m_).bind fun r_=>
 bif r_ != 0 then (
  some (false,r_))
 else (
  gd ((0:Int) ≤ ((m_.Rows.length:Nat):Int) ∧ (((m_.Rows.length:Nat):Int):Int) ≤ 4294967296) <|
  (vG V1 0 (List.replicate ((m_.Rows.length:Nat):Int).toNat false) m_).bind fun ah=>
  (vw ah.1 false).bind fun aj=>
  some (!aj,0))
def Ys (x0:z6):Option Bool :=
 (qb x0).bind fun r_=>
 some r_.1
def VN (m_:z6):Option z6 :=
 some m_
def Ws (out:zz (wR Int)):Option (zz (wR Int)) :=
 some out
def ZA (dh:Int) (a7:zz (wR Int)):Option (LR (zz (wR Int) × Int) (zz (wR Int))) :=
 some (.next (a7,w64 (dh + 1)))
def Wr (p_:List Int) (am:List z8) (ak:zz (wR Int)) (dh:Int):Option (LR (zz (wR Int) × Int) (zz (wR Int))) :=
 bif decide (dh < ((am.length:Nat):Int)) then (
  (idx am dh).bind fun au=>
  (idx (zz.toL ak) dh).bind fun cell=>
  (some (zz.setI ak dh (wR.mk au.Out (-1)))).bind fun arr=>
  bif au.To != (-1) then (
   (idx p_ au.To).bind fun ax=>
   (idx (zz.toL arr) dh).bind fun bk=>
   (some (zz.setI arr dh (wR.mk bk.e0 ax))).bind fun arr1=>
   ZA dh arr1)
  else (
   ZA dh arr))
 else (
  some (.done ak))
def JO (m_:z6) (p_:List Int) (s_:Int):Option (zz (wR Int)) :=
 (idx m_.Rows s_).bind fun am=>
 (loop (fun s=>Wr p_ am s.1 s.2) ((zz.mk (wR.mk 0 0) (wR.mk 0 0) (wR.mk 0 0) (wR.mk 0 0) (wR.mk 0 0) (wR.mk 0 0) (wR.mk 0 0) (wR.mk 0 0) (wR.mk 0 0) (wR.mk 0 0) (wR.mk 0 0) (wR.mk 0 0) (wR.mk 0 0) (wR.mk 0 0) (wR.mk 0 0) (wR.mk 0 0)),0)).bind fun t2=>
 Ws t2
def ZC (out:List Int):Option (List Int) :=
 some out
def uZ (ak:List Int) (gi:Int) (ax:Int) (r_:zz (wR Int)) (ge:List (zI × Int)):Option (LR ((List (zI × Int)) × List Int × Int) (List Int)) :=
 (some ((z8p ge (zI.mk ax r_)).getD 0)).bind fun val=>
 (idx ak gi).bind fun jj=>
 some (.next (ge,(ak.set gi.toNat val),w64 (gi + 1)))
def ZB (m_:z6) (p_:List Int) (names:List (zI × Int)) (ak:List Int) (gi:Int):Option (LR ((List (zI × Int)) × List Int × Int) (List Int)) :=
 bif decide (gi < ((p_.length:Nat):Int)) then (
  (idx p_ gi).bind fun ax=>
  (JO m_ p_ gi).bind fun r_=>
  (some ((z8p names (zI.mk ax r_)).getD 0)).bind fun nc=>
  bif !((z8p names (zI.mk ax r_)).isSome) then (
   uZ ak gi ax r_ (zdC names (zI.mk ax r_) ((names.length:Nat):Int)))
  else (
   uZ ak gi ax r_ names))
 else (
  some (.done ak))
def Wt (m_:z6) (p_:List Int):Option (List Int) :=
 gd ((0:Int) ≤ ((p_.length:Nat):Int) ∧ (((p_.length:Nat):Int):Int) ≤ 4294967296) <|
 (loop (fun s=>ZB m_ p_ s.1 s.2.1 s.2.2) (([]:List (zI × Int)),(List.replicate ((p_.length:Nat):Int).toNat (0:Int)),0)).bind fun t2=>
 ZC t2
def kV (x0:z6) (yy:σ → (List Int) → Option (σ × Bool)) (ct:σ) (p_:List Int):Option (LR (σ × List Int) σ) :=
 (yy ct p_).bind fun yr=>
 bif yr.2 then (
  (Wt x0 p_).bind fun r_=>
  (xA p_ r_).bind fun ah=>
  bif ah then (
   some (.done yr.1))
  else (
   some (.next (yr.1,r_))))
 else (
  some (.done yr.1))
def kA (x0:z6) {σ:Type} (yy:σ → (List Int) → Option (σ × Bool)) (sg:σ):Option σ :=
 gd ((0:Int) ≤ ((x0.Rows.length:Nat):Int) ∧ (((x0.Rows.length:Nat):Int):Int) ≤ 4294967296) <|
 (loop (fun s=>kV x0 yy s.1 s.2) (sg,(List.replicate ((x0.Rows.length:Nat):Int).toNat (0:Int)))).bind fun t1=>
 some t1
def ZD (p_:List Int) (n_:Int):Option (List Int × Int × Int) :=
 some (p_,n_,0)
def q9 (ko:List Int) (dj:Int) (lb:List Int):Option (LR (List Int × Int) Empty) :=
 some (.next (lb,w64 (dj + 1)))
def Wu (m_:z6):Option (List Int × Int × Int) :=
 (yH m_).bind fun r_=>
 bif r_ != 0 then (
  some (([]:List Int),0,r_))
 else (
  (VN m_).bind fun ah=>
  (kA ah (yOf (fun s x=>q9 s.1 s.2 x)) (.next (([]:List Int),(-1)))).bind fun t2=>
  match t2 with
  | .next (ko,dj)=>(
   ZD ko dj)
  | .done z=>nomatch z)
def qD (m_:Int):Option Int :=
 some m_
def qC (x_:List Int) (ly:Int) (i_:Int):Option (LR (Int × Int) Int) :=
 bif decide (i_ < ((x_.length:Nat):Int)) then (
  (idx x_ i_).bind fun jr=>
  some (.next ((mx ly jr),w64 (i_ + 1))))
 else (
  some (.done ly))
def Zx (x_:List Int):Option Int :=
 bif decide (((x_.length:Nat):Int) < 1) then (
  none)
 else (
  (idx x_ 0).bind fun j7=>
  (loop (fun s=>qC x_ s.1 s.2) (j7,1)).bind fun t2=>
  qD t2)
def Yr (x0:z6):Option Bool :=
 (Wu x0).bind fun r_=>
 (Zx r_.1).bind fun ah=>
 some (ah == (w64 (((r_.1.length:Nat):Int) - 1)))
def kW:Option Int :=
 some 0
def uw (m_:z6):Option Int :=
 (yH m_).bind fun r_=>
 bif r_ != 0 then (
  some r_)
 else (
  (Ww m_).bind fun ah=>
  (Yt ah.1.2).bind fun aj=>
  bif !aj then (
   some ah.1.1)
  else (
   (Ys ah.2.1.2).bind fun aw=>
   bif !aw then (
    some ah.2.1.1)
   else (
    (Yr ah.2.2.2).bind fun cd=>
    bif !cd then (
     some ah.2.2.1)
    else (
     kW))))
def Vq (m_:z6) (bound:Int):Option Int :=
 (uw m_).bind fun r_=>
 bif r_ != 0 then (
  some r_)
 else (
  bif decide (bound < ((m_.Rows.length:Nat):Int)) then (
   some 1)
  else (
   bif decide (bound > (w64 (((m_.Rows.length:Nat):Int) + 4))) then (
    some 1)
   else (
    some 0)))
def Vy (m_:z6) (from_:Int):Option (z6 × Int) :=
 some (m_,from_)
def wF (gj:Int) (co:List Bool) (ke:List zm):Option (LR (List Bool × List zm × Int) ((σ × List Bool × List zm))) :=
 some (.next (co,ke,w64 (gj + 1)))
def kD (bp:zm) (yr:σ × Bool) (am:List z8) (dz:List Bool) (dl:List zm) (gj:Int):Option (LR (List Bool × List zm × Int) ((σ × List Bool × List zm))) :=
 bif decide (gj < ((am.length:Nat):Int)) then (
  (idx am gj).bind fun au=>
  bif au.To != (-1) then (
   (idx dz au.To).bind fun mj=>
   bif !mj then (
    (idx dz au.To).bind fun nb=>
    gd (dl.length + ([(zm.mk au.To bp.state_ gj)]:List zm).length ≤ 4294967296) <|
    wF gj (dz.set au.To.toNat true) (dl ++ ([(zm.mk au.To bp.state_ gj)]:List zm)))
   else (
    wF gj dz dl))
  else (
   wF gj dz dl))
 else (
  some (.done (yr.1,dz,dl)))
def kE (x0:z6) (yy:σ → zm → Option (σ × Bool)) (ct:σ) (ie:List Bool) (cj:List zm):Option (LR (σ × List Bool × List zm) σ) :=
 bif decide (((cj.length:Nat):Int) > 0) then (
  (idx cj 0).bind fun bp=>
  gd ((0:Int) ≤ 1 ∧ (1:Int) ≤ ((cj.length:Nat):Int)) <|
  (yy ct bp).bind fun yr=>
  bif !yr.2 then (
   some (.done yr.1))
  else (
   (idx x0.Rows bp.state_).bind fun am=>
   (loop (fun s=>kD bp yr am s.1 s.2.1 s.2.2) (ie,(cj.drop (1:Int).toNat),0)).bind fun t2=>
   some (.next t2)))
 else (
  some (.done ct))
def jX (x0:z6) (x1:Int) {σ:Type} (yy:σ → zm → Option (σ × Bool)) (sg:σ):Option σ :=
 gd ((0:Int) ≤ ((x0.Rows.length:Nat):Int) ∧ (((x0.Rows.length:Nat):Int):Int) ≤ 4294967296) <|
 (idx (List.replicate ((x0.Rows.length:Nat):Int).toNat false) x1).bind fun kc=>
 (loop (fun s=>kE x0 yy s.1 s.2.1 s.2.2) (sg,((List.replicate ((x0.Rows.length:Nat):Int).toNat false).set x1.toNat true),([(zm.mk x1 (-1) (-1))]:List zm))).bind fun t1=>
 some t1
def wp (s_:List Int):Option (List Int) :=
 gd (([]:List Int).length + s_.length ≤ 4294967296) <|
 some s_
def ya (s_:List Int):Option (List Int) :=
 gd ((0:Int) ≤ 0 ∧ (0:Int) ≤ ((s_.length:Nat):Int) ∧ (((s_.length:Nat):Int):Int) ≤ ((s_.length:Nat):Int) ∧ (((s_.length:Nat):Int):Int) ≤ ((s_.length:Nat):Int)) <|
 some ((s_.drop 0).take (((s_.length:Nat):Int).toNat - 0))
def Vx (l_:List (List Int)) (is:List Bool):Option (List (List Int) × List Bool) :=
 some (l_,is)
def YG (de:List (List Int)) (jh:List Bool) (gk:zm):Option (LR (List (List Int) × List Bool) Empty) :=
 (idx jh gk.state_).bind fun nu=>
 bif gk.from_ != (-1) then (
  (idx de gk.from_).bind fun cb=>
  (wp cb).bind fun ah=>
  gd (ah.length + ([gk.input_]:List Int).length ≤ 4294967296) <|
  (ya (ah ++ ([gk.input_]:List Int))).bind fun aj=>
  (idx de gk.state_).bind fun ft=>
  some (.next ((de.set gk.state_.toNat aj),(jh.set gk.state_.toNat true))))
 else (
  some (.next (de,(jh.set gk.state_.toNat true))))
def KX (m_:z6) (from_:Int):Option (List (List Int) × List Bool) :=
 gd ((0:Int) ≤ ((m_.Rows.length:Nat):Int) ∧ (((m_.Rows.length:Nat):Int):Int) ≤ 4294967296) <|
 gd ((0:Int) ≤ ((m_.Rows.length:Nat):Int) ∧ (((m_.Rows.length:Nat):Int):Int) ≤ 4294967296) <|
 (Vy m_ from_).bind fun r_=>
 (jX r_.1 r_.2 (yOf (fun s x=>YG s.1 s.2 x)) (.next ((List.replicate ((m_.Rows.length:Nat):Int).toNat ([]:List Int)),(List.replicate ((m_.Rows.length:Nat):Int).toNat false)))).bind fun t2=>
 match t2 with
 | .next (de,jh)=>(
  Vx de jh)
 | .done z=>nomatch z
def Jm (m_:z6):Option (List (List Int) × List Bool × Int) :=
 (yH m_).bind fun r_=>
 bif r_ != 0 then (
  some (([]:List (List Int)),([]:List Bool),r_))
 else (
  (KX m_ 0).bind fun ah=>
  some (ah.1,ah.2,0))
def va (s_:List (List Int)):Option (List (List Int)) :=
 gd (([]:List (List Int)).length + s_.length ≤ 4294967296) <|
 some s_
def YH (a_:List Int) (b_:List Int):Option Bool :=
 (wq a_ b_).bind fun r_=>
 some (r_ == 0)
def xY (s_:List (List Int)):Option (List (List Int)) :=
 some s_
def xX (k_:Int):Option (LR Int (Unit ⊕ List (List Int))) :=
 some (.next (w64 (k_ + 1)))
def xW (cr:List (List Int)) (fw:Int):Option (LR Int (Unit ⊕ List (List Int))) :=
 gd ((0:Int) ≤ fw ∧ (fw:Int) ≤ ((cr.length:Nat):Int)) <|
 gd ((0:Int) ≤ fw ∧ (fw:Int) ≤ ((cr.length:Nat):Int)) <|
 gd ((0:Int) ≤ fw ∧ (fw:Int) ≤ (((cr.take fw.toNat ++ List.replicate (cr.length - fw.toNat) []).length:Nat):Int)) <|
 some (.done (.inr ((cr.take fw.toNat ++ List.replicate (cr.length - fw.toNat) []).take fw.toNat)))
def yU (k2:Int) (kg:List (List Int)) (ml:Int):Option (LR (List (List Int) × Int × Int) ((List (List Int) × Int))) :=
 some (.next (kg,ml,w64 (k2 + 1)))
def xU (k_:Int) (dg:List (List Int)) (js:Int) (k2:Int):Option (LR (List (List Int) × Int × Int) ((List (List Int) × Int))) :=
 bif decide (k2 < ((dg.length - k_.toNat:Nat):Int)) then (
  gd ((0:Int) ≤ k_ ∧ (0:Int) ≤ k2) <|
  (idx dg (k_ + k2)).bind fun lk=>
  gd ((0:Int) ≤ k_ ∧ (0:Int) ≤ w64 (k2 - 1)) <|
  (idx dg (k_ + (w64 (k2 - 1)))).bind fun ll=>
  (YH lk ll).bind fun ah=>
  bif !ah then (
   gd ((0:Int) ≤ k_ ∧ (0:Int) ≤ k2) <|
   (idx dg (k_ + k2)).bind fun lm=>
   (idx dg js).bind fun nj=>
   yU k2 (dg.set js.toNat lm) (w64 (js + 1)))
  else (
   yU k2 dg js))
 else (
  some (.done (dg,js)))
def xV (s_:List (List Int)) (k_:Int):Option (LR Int (Unit ⊕ List (List Int))) :=
 bif decide (k_ < ((s_.length:Nat):Int)) then (
  (idx s_ k_).bind fun da=>
  (idx s_ (w64 (k_ - 1))).bind fun km=>
  (YH da km).bind fun r_=>
  bif r_ then (
   gd ((0:Int) ≤ k_ ∧ (k_:Int) ≤ ((s_.length:Nat):Int)) <|
   (loop (fun s=>xU k_ s.1 s.2.1 s.2.2) (s_,k_,1)).bind fun t5=>
   xW t5.1 t5.2)
  else (
   xX k_))
 else (
  some (.done (.inl ())))
def wL (s_:List (List Int)) (eq:Unit):Option (List (List Int)) :=
 bif decide (((s_.length:Nat):Int) < 2) then (
  some s_)
 else (
  (loop (fun s=>xV s_ s) 1).bind fun t2=>
  match t2 with
  | .inl p=>xY s_
  | .inr p=>some p)
def wy (s_:List (List Int)):Option (List (List Int)) :=
 some s_
def W4 (out:List (List Int × Bool)):Option (List (List Int) × Int) :=
 gd (∀ q ∈ out,q.2=true) <|
 some ((out.map (·.1)),0)
def W3 (aj:List (List Int)) (a7:List (List Int × Bool)) (dp:Int):Option (LR ((List (List Int × Bool)) × Int) ((List (List Int × Bool)))) :=
 bif decide (dp < ((aj.length - (0:Int).toNat:Nat):Int)) then (
  gd ((0:Int) ≤ 0 ∧ (0:Int) ≤ dp) <|
  (idx a7 (0 + dp)).bind fun jj=>
  (wp jj.1).bind fun cd=>
  (ya cd).bind fun fq=>
  (idx a7 dp).bind fun nd=>
  some (.next ((a7.set dp.toNat (fq,true)),w64 (dp + 1))))
 else (
  some (.done a7))
def Zd (l_:List (List Int)):Option (List (List Int) × Int) :=
 (va l_).bind fun r_=>
 (zhB (fun x y=>wq x y) r_).bind fun sorted=>
 (wL sorted ()).bind fun ah=>
 (wy ah).bind fun aj=>
 bif decide (((aj.length:Nat):Int) > 4096) then (
  some (([]:List (List Int)),3))
 else (
  (Y6 aj).bind fun aw=>
  bif decide (aw > 65536) then (
   some (([]:List (List Int)),3))
  else (
   (loop (fun s=>W3 aj s.1 s.2) ((aj.map fun q=>(q,false)),0)).bind fun t2=>
   W4 t2))
def Ul (l_:List (List Int)) (inputs:Int):Option (List (List Int) × Int) :=
 (Y7 l_ inputs).bind fun r_=>
 bif r_ != 0 then (
  some (([]:List (List Int)),r_))
 else (
  (Zd l_).bind fun ah=>
  some (ah.1,ah.2))
def XK (m_:z6):Option (List (List Int) × Int) :=
 (qb m_).bind fun r_=>
 bif r_.2 != 0 then (
  some (([]:List (List Int)),r_.2))
 else (
  bif !r_.1 then (
   some (([]:List (List Int)),11))
  else (
   (Jm m_).bind fun ah=>
   bif ah.2.2 != 0 then (
    some (([]:List (List Int)),ah.2.2))
   else (
    (Ul ah.1 m_.Inputs).bind fun aj=>
    some (aj.1,aj.2))))
def Jy (k_:Int) (ak:List (List Int)) (kh:List (List Int)) (dj:Int) (ng:Int) (kb:Bool) (nh:Bool):Option (LR (List (List Int) × List (List Int) × Int × Int) ((List (List Int) × Int))) :=
 some (.next (ak,kh,dj,w64 (k_ + 1)))
def Jx (k_:Int) (a7:List (List Int)) (bw:Int) (fe:Bool) (next:List (List Int)):Option (LR (List (List Int) × List (List Int) × Int × Int) ((List (List Int) × Int))) :=
 Jy k_ a7 next bw bw (decide (bw > 65536)) fe
def Jw (ja:Int) (ip:List (List Int)):Option (LR (List (List Int) × Int) (List (List Int))) :=
 some (.next (ip,w64 (ja + 1)))
def Jt (inputs:Int) (bi:List Int) (fl:List (List Int)) (jb:Int):Option (LR (List (List Int) × Int) (List (List Int))) :=
 bif decide (jb < inputs) then (
  (ya bi).bind fun ah=>
  gd (ah.length + ([jb]:List Int).length ≤ 4294967296) <|
  gd (fl.length + ([(ah ++ ([jb]:List Int))]:List (List Int)).length ≤ 4294967296) <|
  some (.next ((fl ++ ([(ah ++ ([jb]:List Int))]:List (List Int))),w64 (jb + 1))))
 else (
  some (.done fl))
def Ju (inputs:Int) (ap:List (List Int)) (ff:List (List Int)) (ja:Int):Option (LR (List (List Int) × Int) (List (List Int))) :=
 bif decide (ja < ((ap.length:Nat):Int)) then (
  (idx ap ja).bind fun bi=>
  (loop (fun s=>Jt inputs bi s.1 s.2) (ff,0)).bind fun t8=>
  Jw ja t8)
 else (
  some (.done ff))
def Vo (inputs:Int) (to:Int) (ap:List (List Int)) (k_:Int) (a7:List (List Int)) (bw:Int) (fe:Bool):Option (LR (List (List Int) × List (List Int) × Int × Int) ((List (List Int) × Int))) :=
 bif k_ == to then (
  (Zd a7).bind fun r_=>
  some (.done (r_.1,r_.2)))
 else (
  (loop (fun s=>Ju inputs ap s.1 s.2) (([]:List (List Int)),0)).bind fun t6=>
  Jx k_ a7 bw fe t6)
def Vp (inputs:Int) (to:Int) (ap:List (List Int)) (k_:Int) (a7:List (List Int)) (bw:Int):Option (LR (List (List Int) × List (List Int) × Int × Int) ((List (List Int) × Int))) :=
 bif decide (((a7.length:Nat):Int) > 4096) then (
  some (.done (([]:List (List Int)),3)))
 else (
  bif decide (bw > 65536) then (
   some (.done (([]:List (List Int)),3)))
  else (
   bif decide (k_ < to) then (
    bif decide ((w64 (((ap.length:Nat):Int) * inputs)) > 4096) then (
     some (.done (([]:List (List Int)),3)))
    else (
     Vo inputs to ap k_ a7 bw (decide ((w64 (((ap.length:Nat):Int) * inputs)) > 4096))))
   else (
    Vo inputs to ap k_ a7 bw false)))
def Jv (inputs:Int) (from_:Int) (to:Int) (out:List (List Int)) (ap:List (List Int)) (n_:Int) (k_:Int):Option (LR (List (List Int) × List (List Int) × Int × Int) ((List (List Int) × Int))) :=
 bif decide (k_ ≥ from_) then (
  gd (out.length + ap.length ≤ 4294967296) <|
  Vp inputs to ap k_ (out ++ ap) (w64 (n_ + (w64 (k_ * ((ap.length:Nat):Int))))))
 else (
  Vp inputs to ap k_ out n_)
def z0G (inputs:Int) (from_:Int) (to:Int):Option (List (List Int) × Int) :=
 bif decide (inputs > 16) then (
  some (([]:List (List Int)),3))
 else (
  bif decide (inputs < 1) then (
   some (([]:List (List Int)),1))
  else (
   bif decide (to < 0) then (
    some (([]:List (List Int)),1))
   else (
    bif decide (to > 256) then (
     some (([]:List (List Int)),3))
    else (
     (loop (fun s=>Jv inputs from_ to s.1 s.2.1 s.2.2.1 s.2.2.2) (([]:List (List Int)),([[]]:List (List Int)),0,0)).bind fun t1=>
     some t1))))
def Kb (inputs:Int) (k_:Int):Option (List (List Int) × Int) :=
 (z0G inputs 0 k_).bind fun r_=>
 some (r_.1,r_.2)
def UR:Option Int :=
 some 0
def UQ (inputs:Int) (l_:List (List (List Int))) (du:Int):Option (LR Int (Unit ⊕ Int)) :=
 bif decide (du < ((l_.length:Nat):Int)) then (
  (idx l_ du).bind fun cb=>
  (u6 cb inputs).bind fun r_=>
  bif r_ != 0 then (
   some (.done (.inr r_)))
  else (
   some (.next (w64 (du + 1)))))
 else (
  some (.done (.inl ())))
def Ka (inputs:Int) (l_:List (List (List Int))):Option Int :=
 (loop (fun s=>UQ inputs l_ s) 0).bind fun t2=>
 match t2 with
 | .inl p=>UR
 | .inr p=>some p
def Jr (b_:List Int):Option (List UInt8) :=
 some (u8s b_)
def Jq (w_:List Int) (kx:List Int) (ew:Int):Option (LR (List Int × Int) (List Int)) :=
 bif decide (ew < ((w_.length:Nat):Int)) then (
  (idx w_ ew).bind fun iy=>
  (idx kx ew).bind fun dv=>
  some (.next ((kx.set ew.toNat (IntKind.u8.wrap (iy))),w64 (ew + 1))))
 else (
  some (.done kx))
def z3B (w_:List Int):Option (List UInt8) :=
 gd ((0:Int) ≤ ((w_.length:Nat):Int) ∧ (((w_.length:Nat):Int):Int) ≤ 4294967296) <|
 (loop (fun s=>Jq w_ s.1 s.2) ((List.replicate ((w_.length:Nat):Int).toNat (0:Int)),0)).bind fun t2=>
 Jr t2
def W9 (out:List (List Int)):Option (List (List Int) × Int) :=
 (Zd out).bind fun ah=>
 some (ah.1,ah.2)
def W8 (cu:Int) (dz:List ((List UInt8) × Bool)) (dj:Int) (a7:List (List Int)):Option (LR ((List ((List UInt8) × Bool)) × Int × List (List Int) × Int) (List (List Int) ⊕ (List (List Int) × Int))) :=
 some (.next (dz,dj,a7,w64 (cu + 1)))
def Zp (em:Int) (ky:List ((List UInt8) × Bool)) (mb:Int) (i6:List (List Int)):Option (LR ((List ((List UInt8) × Bool)) × Int × List (List Int) × Int) (((List ((List UInt8) × Bool)) × Int × List (List Int)) ⊕ (List (List Int) × Int))) :=
 bif decide (((i6.length:Nat):Int) > 4096) then (
  some (.done (.inr (([]:List (List Int)),3))))
 else (
  bif decide (mb > 65536) then (
   some (.done (.inr (([]:List (List Int)),3))))
  else (
   some (.next (ky,mb,i6,w64 (em + 1)))))
def W6 (b_:List (List Int)) (fh:List Int) (co:List ((List UInt8) × Bool)) (bw:Int) (cp:List (List Int)) (em:Int):Option (LR ((List ((List UInt8) × Bool)) × Int × List (List Int) × Int) (((List ((List UInt8) × Bool)) × Int × List (List Int)) ⊕ (List (List Int) × Int))) :=
 bif decide (em < ((b_.length:Nat):Int)) then (
  (idx b_ em).bind fun dv=>
  (ya fh).bind fun aj=>
  gd (aj.length + dv.length ≤ 4294967296) <|
  bif decide ((((aj ++ dv).length:Nat):Int) > 256) then (
   some (.done (.inr (([]:List (List Int)),3))))
  else (
   (z3B (aj ++ dv)).bind fun aw=>
   (some ((z8p co aw).getD false)).bind fun val=>
   bif !val then (
    gd (cp.length + ([(aj ++ dv)]:List (List Int)).length ≤ 4294967296) <|
    Zp em (zdC co aw true) (w64 (bw + (((aj ++ dv).length:Nat):Int))) (cp ++ ([(aj ++ dv)]:List (List Int))))
   else (
    Zp em co bw cp)))
 else (
  some (.done (.inl (co,bw,cp))))
def W7 (a_:List (List Int)) (b_:List (List Int)) (ie:List ((List UInt8) × Bool)) (n_:Int) (ak:List (List Int)) (cu:Int):Option (LR ((List ((List UInt8) × Bool)) × Int × List (List Int) × Int) (List (List Int) ⊕ (List (List Int) × Int))) :=
 bif decide (cu < ((a_.length:Nat):Int)) then (
  (idx a_ cu).bind fun fh=>
  (loop (fun s=>W6 b_ fh s.1 s.2.1 s.2.2.1 s.2.2.2) (ie,n_,ak,0)).bind fun t4=>
  match t4 with
  | .inl p=>W8 cu p.1 p.2.1 p.2.2
  | .inr p=>some (.done (.inr p)))
 else (
  some (.done (.inl ak)))
def Jz (a_:List (List Int)) (b_:List (List Int)) (inputs:Int):Option (List (List Int) × Int) :=
 (Ka inputs ([a_,b_])).bind fun r_=>
 bif r_ != 0 then (
  some (([]:List (List Int)),r_))
 else (
  (loop (fun s=>W7 a_ b_ s.1 s.2.1 s.2.2.1 s.2.2.2) (([]:List ((List UInt8) × Bool)),0,([]:List (List Int)),0)).bind fun t2=>
  match t2 with
  | .inl p=>W9 p
  | .inr p=>some p)
def WK (m_:z6) (k_:Int):Option (List (List Int) × Int) :=
 (XK m_).bind fun r_=>
 bif r_.2 != 0 then (
  some (([]:List (List Int)),r_.2))
 else (
  bif decide (k_ < 0) then (
   some (([]:List (List Int)),1))
  else (
   (Kb m_.Inputs k_).bind fun ah=>
   bif ah.2 != 0 then (
    some (([]:List (List Int)),ah.2))
   else (
    (Jz r_.1 ah.1 m_.Inputs).bind fun aj=>
    some (aj.1,aj.2))))
def ZQ (m_:z6):Option (List (List Int) × Int) :=
 (WK m_ 1).bind fun r_=>
 some (r_.1,r_.2)
def Vv (n_:Int):Option Int :=
 some n_
def Yz (x6:Int) (i8:σ):Option (LR (σ × Int) σ) :=
 some (.next (i8,w64 (x6 + 1)))
def Yx (x0:Int) (yy:σ → (Int × Int) → Option (σ × Bool)) (x6:Int) (fk:σ) (b_:Int):Option (LR (σ × Int) (σ ⊕ σ)) :=
 bif decide (b_ < x0) then (
  (yy fk (x6,b_)).bind fun yr=>
  bif !yr.2 then (
   some (.done (.inr yr.1)))
  else (
   some (.next (yr.1,w64 (b_ + 1)))))
 else (
  some (.done (.inl fk)))
def Yy (x0:Int) (yy:σ → (Int × Int) → Option (σ × Bool)) (ct:σ) (x6:Int):Option (LR (σ × Int) σ) :=
 bif decide (x6 < x0) then (
  (loop (fun s=>Yx x0 yy x6 s.1 s.2) (ct,w64 (x6 + 1))).bind fun t3=>
  match t3 with
  | .inl p=>Yz x6 p
  | .inr p=>some (.done p))
 else (
  some (.done ct))
def uI (x0:Int) {σ:Type} (yy:σ → (Int × Int) → Option (σ × Bool)) (sg:σ):Option σ :=
 (loop (fun s=>Yy x0 yy s.1 s.2) (sg,0)).bind fun t1=>
 some t1
def JW (a_:Int) (b_:Int):Option Bool :=
 some true
def VE (s_:Int) (x1:z6):Option Bool :=
 bif decide (s_ < 0) then (
  some true)
 else (
  some (decide (s_ ≥ ((x1.Rows.length:Nat):Int))))
def xN:Option Int :=
 some (-1)
def xM (s_:List Int) (f_:z6) (x8:Int):Option (LR Int (Unit ⊕ Int)) :=
 bif decide (x8 < ((s_.length:Nat):Int)) then (
  (idx s_ x8).bind fun da=>
  (VE da f_).bind fun r_=>
  bif r_ then (
   some (.done (.inr x8)))
  else (
   some (.next (w64 (x8 + 1)))))
 else (
  some (.done (.inl ())))
def wt (s_:List Int) (f_:z6):Option Int :=
 (loop (fun s=>xM s_ f_ s) 0).bind fun t2=>
 match t2 with
 | .inl p=>xN
 | .inr p=>some p
def xO (s_:List Int) (f_:z6):Option Bool :=
 (wt s_ f_).bind fun r_=>
 some (decide (r_ ≥ 0))
def JB (m_:z6) (l_:List Int):Option Int :=
 (yH m_).bind fun r_=>
 bif r_ != 0 then (
  some r_)
 else (
  (xO l_ m_).bind fun ah=>
  bif ah then (
   some 1)
  else (
   some 0))
def JC (m_:z6):Option z6 :=
 some m_
def Yi (x8:Int) (i8:σ):Option (LR (σ × Int) σ) :=
 some (.next (i8,w64 (x8 + 1)))
def Yg (x0:z6) (yy:σ → (Int × Int) → Option (σ × Bool)) (x8:Int) (fk:σ) (t_:Int):Option (LR (σ × Int) (σ ⊕ σ)) :=
 bif decide (t_ < ((x0.Rows.length:Nat):Int)) then (
  (yy fk (x8,t_)).bind fun yr=>
  bif !yr.2 then (
   some (.done (.inr yr.1)))
  else (
   some (.next (yr.1,w64 (t_ + 1)))))
 else (
  some (.done (.inl fk)))
def Yh (x0:z6) (yy:σ → (Int × Int) → Option (σ × Bool)) (ct:σ) (x8:Int):Option (LR (σ × Int) σ) :=
 bif decide (x8 < ((x0.Rows.length:Nat):Int)) then (
  (loop (fun s=>Yg x0 yy x8 s.1 s.2) (ct,w64 (x8 + 1))).bind fun t3=>
  match t3 with
  | .inl p=>Yi x8 p
  | .inr p=>some (.done p))
 else (
  some (.done ct))
def YK (x0:z6) {σ:Type} (yy:σ → (Int × Int) → Option (σ × Bool)) (sg:σ):Option σ :=
 (loop (fun s=>Yh x0 yy s.1 s.2) (sg,0)).bind fun t1=>
 some t1
def ww (l:List Int) (n:Int):Option (List Int):=bif l.isEmpty && (decide (0 < n) && decide (n ≤ 1000000)) then some [] else none
def vS (j8:List Int):Option (List Int) :=
 some j8
def vR (slices:List (List Int)) (fm:List Int) (lz:Int):Option (LR (List Int × Int) (List Int)) :=
 bif decide (lz < ((slices.length:Nat):Int)) then (
  (idx slices lz).bind fun jk=>
  gd (fm.length + jk.length ≤ 4294967296) <|
  some (.next ((fm ++ jk),w64 (lz + 1))))
 else (
  some (.done fm))
def vT (slices:List (List Int)) (size:Int):Option (List Int) :=
 (ww [] size).bind fun r_=>
 (loop (fun s=>vR slices s.1 s.2) (r_,0)).bind fun t3=>
 vS t3
def vQ (slices:List (List Int)) (jt:Int) (ew:Int):Option (LR (Int × Int) Int) :=
 bif decide (ew < ((slices.length:Nat):Int)) then (
  (idx slices ew).bind fun jn=>
  bif decide ((w64 (jt + ((jn.length:Nat):Int))) < 0) then (
   none)
  else (
   some (.next (w64 (jt + ((jn.length:Nat):Int)),w64 (ew + 1)))))
 else (
  some (.done jt))
def qE (slices:List (List Int)):Option (List Int) :=
 (loop (fun s=>vQ slices s.1 s.2) (0,0)).bind fun t4=>
 vT slices t4
def jK (n_:Int) (f_:ArN 64 (ArN 64 (List Int))) (out:List Int):Option (List Int × ArN 64 (ArN 64 (List Int))) :=
 bif ((out.length:Nat):Int) != n_ then (
  some ([],f_))
 else (
  (ya out).bind fun r_=>
  gd (r_ ≠ []) <|
  some (r_,f_))
def wn (fx:Int):Option (LR Int (List Int)) :=
 some (.next (w64 (fx + 1)))
def jJ (m_:z6) (t_:Int) (n_:Int) (f_:ArN 64 (ArN 64 (List Int))) (am:List z8) (fx:Int):Option (LR Int (List Int)) :=
 bif decide (fx < ((am.length:Nat):Int)) then (
  (idx am fx).bind fun au=>
  (idx m_.Rows t_).bind fun gc=>
  (idx gc fx).bind fun gn=>
  bif au.Out != gn.Out then (
   some (.done ([fx]:List Int)))
  else (
   bif decide (n_ > 1) then (
    bif au.To != (-1) then (
     (idx (f_.l) au.To).bind fun cell=>
     (idx (cell.l) gn.To).bind fun bk=>
     bif ((bk.length:Nat):Int) == (w64 (n_ - 1)) then (
      (idx (f_.l) au.To).bind fun gu=>
      (idx (gu.l) gn.To).bind fun ia=>
      (qE ([[fx],ia])).bind fun ah=>
      some (.done ah))
     else (
      wn fx))
    else (
     wn fx))
   else (
    wn fx)))
 else (
  some (.done ([]:List Int)))
def Yj (m_:z6) (s_:Int) (t_:Int) (n_:Int) (f_:ArN 64 (ArN 64 (List Int))):Option (List Int × ArN 64 (ArN 64 (List Int))) :=
 (idx m_.Rows s_).bind fun am=>
 (loop (fun s=>jJ m_ t_ n_ f_ am s) 0).bind fun t2=>
 jK n_ f_ t2
def Xh (s_:Int) (t_:Int) (w_:List Int) (f_:ArN 64 (ArN 64 (List Int))):Option (ArN 64 (ArN 64 (List Int))) :=
 (idx (f_.l) s_).bind fun cell=>
 (idx (cell.l) t_).bind fun bk=>
 (some (ArN.setI cell t_ w_)).bind fun arr=>
 (some (ArN.setI f_ s_ arr)).bind fun arr1=>
 (idx (arr1.l) t_).bind fun gu=>
 (idx (gu.l) s_).bind fun ia=>
 (some (ArN.setI gu s_ w_)).bind fun arr2=>
 (some (ArN.setI arr1 t_ arr2)).bind fun mg=>
 some mg
def kQ (f_:ArN 64 (ArN 64 (List Int))):Option (ArN 64 (ArN 64 (List Int))) :=
 some f_
def kP (n_:Int) (mp:ArN 64 (ArN 64 (List Int))):Option (LR (ArN 64 (ArN 64 (List Int)) × Int) (ArN 64 (ArN 64 (List Int)))) :=
 some (.next (mp,w64 (n_ + 1)))
def kM (now:List zP) (kz:ArN 64 (ArN 64 (List Int))) (l4:Int):Option (LR (ArN 64 (ArN 64 (List Int)) × Int) (ArN 64 (ArN 64 (List Int)))) :=
 bif decide (l4 < ((now.length:Nat):Int)) then (
  (idx now l4).bind fun eu=>
  (Xh eu.S eu.T eu.Word kz).bind fun r_=>
  some (.next (r_,w64 (l4 + 1))))
 else (
  some (.done kz))
def kO (n_:Int) (mq:ArN 64 (ArN 64 (List Int))) (now:List zP):Option (LR (ArN 64 (ArN 64 (List Int)) × Int) (ArN 64 (ArN 64 (List Int)))) :=
 (loop (fun s=>kM now s.1 s.2) (mq,0)).bind fun t5=>
 kP n_ t5
def uh (m_:z6) (n_:Int) (gx:ArN 64 (ArN 64 (List Int))) (gh:List zP) (iq:Int) (dp:Int):Option (LR (ArN 64 (ArN 64 (List Int)) × List zP) Empty) :=
 (idx (gx.l) iq).bind fun cell=>
 (idx (cell.l) dp).bind fun bk=>
 bif !bk.isEmpty then (
  some (.next (gx,gh)))
 else (
  (Yj m_ iq dp n_ gx).bind fun aj=>
  bif !aj.1.isEmpty then (
   gd (gh.length + ([(zP.mk iq dp aj.1 false)]:List zP).length ≤ 4294967296) <|
   some (.next (aj.2,(gh ++ ([(zP.mk iq dp aj.1 false)]:List zP)))))
  else (
   some (.next (aj.2,gh))))
def kN (m_:z6) (kp:ArN 64 (ArN 64 (List Int))) (n_:Int):Option (LR (ArN 64 (ArN 64 (List Int)) × Int) (ArN 64 (ArN 64 (List Int)))) :=
 bif decide (n_ < (mx ((m_.Rows.length:Nat):Int) 2)) then (
  (JC m_).bind fun ah=>
  (YK ah (yOf (fun s x=>uh m_ n_ s.1 s.2 x.1 x.2)) (.next (kp,([]:List zP)))).bind fun t6=>
  match t6 with
  | .next (gx,gh)=>(
   kO n_ gx gh)
  | .done z=>nomatch z)
 else (
  some (.done kp))
def Xg (m_:z6):Option (ArN 64 (ArN 64 (List Int))) :=
 (loop (fun s=>kN m_ s.1 s.2) ((ArN.rep 64 (ArN.rep 64 ([]:List Int))),1)).bind fun t2=>
 kQ t2
def Zr (m_:z6) (s_:Int) (t_:Int):Option (List Int × Bool × Int) :=
 (JB m_ ([s_,t_])).bind fun r_=>
 bif r_ != 0 then (
  some (([]:List Int),false,r_))
 else (
  (Xg m_).bind fun ah=>
  (idx (ah.l) s_).bind fun cell=>
  (idx (cell.l) t_).bind fun bk=>
  (wp bk).bind fun aj=>
  (ya aj).bind fun aw=>
  some (aw,decide (((aw.length:Nat):Int) > 0),0))
def WE (m_:z6) (x5:Int) (out:List (List Int)):Option (List (List Int) × Int) :=
 (Ul out m_.Inputs).bind fun r_=>
 some (r_.1,r_.2)
def ZL (m_:z6) (dt:Int) (ak:List (List Int)) (dh:Int) (ar:Int):Option (LR (Int × List (List Int)) ((Int × List (List Int)))) :=
 (JW dh ar).bind fun aj=>
 bif !aj then (
  some (.next (dt,ak)))
 else (
  (Zr m_ dh ar).bind fun aw=>
  bif aw.2.2 != 0 then (
   some (.done (aw.2.2,ak)))
  else (
   gd (ak.length + ([aw.1]:List (List Int)).length ≤ 4294967296) <|
   some (.next (dt,(ak ++ ([aw.1]:List (List Int)))))))
def JV (m_:z6) (is:Unit):Option (List (List Int) × Int) :=
 (Vv ((m_.Rows.length:Nat):Int)).bind fun ah=>
 (uI ah (yOf (fun s x=>ZL m_ s.1 s.2 x.1 x.2)) (.next (0,([]:List (List Int))))).bind fun t2=>
 match t2 with
 | .next (dt,ak)=>(
  WE m_ dt ak)
 | .done (dt,ak)=>(
  some (([]:List (List Int)),dt))
def z1K (m_:z6):Option (List (List Int) × Int) :=
 (uw m_).bind fun r_=>
 bif r_ != 0 then (
  some (([]:List (List Int)),r_))
 else (
  (JV m_ ()).bind fun ah=>
  some (ah.1,ah.2))
def z05 (inputs:Int) (k_:Int):Option (List (List Int) × Int) :=
 (z0G inputs k_ k_).bind fun r_=>
 some (r_.1,r_.2)
def UT (l_:List (List Int)):Option (List (List Int)) :=
 bif ((l_.length:Nat):Int) == 0 then (
  some ([[]]:List (List Int)))
 else (
  some l_)
def z0f (a_:Int) (b_:Int) (x2:Int):Option Bool :=
 bif a_ == x2 then (
  some true)
 else (
  some (b_ == x2))
def Z7 (m_:z6) (x5:Int) (out:List (List Int)):Option (List (List Int) × Int) :=
 (Ul out m_.Inputs).bind fun r_=>
 some (r_.1,r_.2)
def uo (m_:z6) (is:Int) (dt:Int) (ak:List (List Int)) (dh:Int) (ar:Int):Option (LR (Int × List (List Int)) ((Int × List (List Int)))) :=
 (z0f dh ar is).bind fun aj=>
 bif !aj then (
  some (.next (dt,ak)))
 else (
  (Zr m_ dh ar).bind fun aw=>
  bif aw.2.2 != 0 then (
   some (.done (aw.2.2,ak)))
  else (
   gd (ak.length + ([aw.1]:List (List Int)).length ≤ 4294967296) <|
   some (.next (dt,(ak ++ ([aw.1]:List (List Int)))))))
def Xn (m_:z6) (is:Int):Option (List (List Int) × Int) :=
 (Vv ((m_.Rows.length:Nat):Int)).bind fun ah=>
 (uI ah (yOf (fun s x=>uo m_ is s.1 s.2 x.1 x.2)) (.next (0,([]:List (List Int))))).bind fun t2=>
 match t2 with
 | .next (dt,ak)=>(
  Z7 m_ dt ak)
 | .done (dt,ak)=>(
  some (([]:List (List Int)),dt))
def z4j (m_:z6) (s_:Int):Option (List (List Int) × Int) :=
 (uw m_).bind fun r_=>
 bif r_ != 0 then (
  some (([]:List (List Int)),r_))
 else (
  bif decide (s_ < 0) then (
   some (([]:List (List Int)),1))
  else (
   bif decide (s_ ≥ ((m_.Rows.length:Nat):Int)) then (
    some (([]:List (List Int)),1))
   else (
    (Xn m_ s_).bind fun ah=>
    some (ah.1,ah.2))))
def Y9 (m_:z6) (r_:List (List Int) × Int) (ah:List (List Int) × Int) (aw:List (List Int) × Int) (cd:List (List Int) × Int) (fq:List (List Int)) (jd:List (List (List Int))):Option (Option zj × Int) :=
 some ((some (zj.mk m_ r_.1 ah.1 fq jd aw.1 cd.1)),0)
def Y8 (m_:z6) (gv:List (List (List Int))) (k0:Int):Option (LR (List (List (List Int)) × Int) (List (List (List Int)) ⊕ (Option zj × Int))) :=
 bif decide (k0 < ((m_.Rows.length:Nat):Int)) then (
  (z4j m_ k0).bind fun ji=>
  bif ji.2 != 0 then (
   some (.done (.inr ((none:Option zj),ji.2))))
  else (
   (UT ji.1).bind fun kq=>
   gd (gv.length + ([kq]:List (List (List Int))).length ≤ 4294967296) <|
   some (.next ((gv ++ ([kq]:List (List (List Int)))),w64 (k0 + 1)))))
 else (
  some (.done (.inl gv)))
def Ya (m_:z6) (r_:List (List Int) × Int) (ah:List (List Int) × Int) (aj:List (List Int) × Int) (aw:List (List Int) × Int) (cd:List (List Int) × Int):Option (Option zj × Int) :=
 (UT aj.1).bind fun fq=>
 (loop (fun s=>Y8 m_ s.1 s.2) (([]:List (List (List Int))),0)).bind fun t3=>
 match t3 with
 | .inl p=>Y9 m_ r_ ah aw cd fq p
 | .inr p=>some p
def YJ (m_:z6) (bound:Int):Option (Option zj × Int) :=
 (XK m_).bind fun r_=>
 (ZQ m_).bind fun ah=>
 (z1K m_).bind fun aj=>
 (Kb m_.Inputs (w64 (bound - ((m_.Rows.length:Nat):Int)))).bind fun aw=>
 (z05 m_.Inputs (w64 (bound - ((m_.Rows.length:Nat):Int)))).bind fun cd=>
 bif r_.2 != 0 then (
  some ((none:Option zj),r_.2))
 else (
  bif ah.2 != 0 then (
   some ((none:Option zj),ah.2))
  else (
   bif aj.2 != 0 then (
    some ((none:Option zj),aj.2))
   else (
    bif aw.2 != 0 then (
     some ((none:Option zj),aw.2))
    else (
     bif cd.2 != 0 then (
      some ((none:Option zj),cd.2))
     else (
      Ya m_ r_ ah aj aw cd)))))
def Ye (b_:zg) (bq:List (zz Int)) (bj:Int):Option (zg × Bool) :=
 bif decide (bj > b_.most_) then (
  some (b_,true))
 else (
  some ((zg.mk bq bj b_.most_),false))
def Yd (dw:Int) (bl:List (zz Int)) (bf:Int) (l5:Int) (ki:Bool):Option (LR (List (zz Int) × Int × Int × Bool × Int) ((List (zz Int) × Int))) :=
 some (.next (bl,bf,l5,ki,w64 (dw + 1)))
def qN (d9:Int) (bm:List (zz Int)) (bg:Int) (kj:Bool) (next:Int):Option (LR (List (zz Int) × Int × Int × Bool × Int) ((List (zz Int) × Int × Int × Bool))) :=
 some (.next (bm,bg,next,kj,w64 (d9 + 1)))
def xg (al:List (zz Int)) (dr:Int) (d9:Int) (ca:Int) (ck:Int):Option (LR (List (zz Int) × Int × Int × Bool × Int) ((List (zz Int) × Int × Int × Bool))) :=
 (idx al dr).bind fun ik=>
 (idx (zz.toL ik) ca).bind fun bk=>
 (some (zz.setI ik ca (IntKind.i32.wrap (((al.length:Nat):Int))))).bind fun arr=>
 gd ((al.set dr.toNat arr).length + ([(zz.mk 0 0 0 0 0 0 0 0 0 0 0 0 0 0 0 0)]:List (zz Int)).length ≤ 4294967296) <|
 qN d9 ((al.set dr.toNat arr) ++ ([(zz.mk 0 0 0 0 0 0 0 0 0 0 0 0 0 0 0 0)]:List (zz Int))) ck true (IntKind.i32.wrap (((al.length:Nat):Int)))
def Yb (db:List Int) (al:List (zz Int)) (av:Int) (dr:Int) (gy:Bool) (d9:Int):Option (LR (List (zz Int) × Int × Int × Bool × Int) ((List (zz Int) × Int × Int × Bool))) :=
 bif decide (d9 < ((db.length:Nat):Int)) then (
  (idx db d9).bind fun ca=>
  (idx al dr).bind fun j9=>
  (idx (zz.toL j9) ca).bind fun cell=>
  bif cell == 0 then (
   bif !gy then (
    bif dr == 0 then (
     bif ((al.length:Nat):Int) == 1 then (
      xg al dr d9 ca (w64 (av + 1)))
     else (
      (idx al dr).bind fun cm=>
      bif !((cm.e0 == 0) && ((cm.e1 == 0) && ((cm.e2 == 0) && ((cm.e3 == 0) && ((cm.e4 == 0) && ((cm.e5 == 0) && ((cm.e6 == 0) && ((cm.e7 == 0) && ((cm.e8 == 0) && ((cm.e9 == 0) && ((cm.e10 == 0) && ((cm.e11 == 0) && ((cm.e12 == 0) && ((cm.e13 == 0) && ((cm.e14 == 0) && ((cm.e15 == 0) && true)))))))))))))))) then (
       xg al dr d9 ca (w64 (av + 1)))
      else (
       xg al dr d9 ca av)))
    else (
     (idx al dr).bind fun cn=>
     bif !((cn.e0 == 0) && ((cn.e1 == 0) && ((cn.e2 == 0) && ((cn.e3 == 0) && ((cn.e4 == 0) && ((cn.e5 == 0) && ((cn.e6 == 0) && ((cn.e7 == 0) && ((cn.e8 == 0) && ((cn.e9 == 0) && ((cn.e10 == 0) && ((cn.e11 == 0) && ((cn.e12 == 0) && ((cn.e13 == 0) && ((cn.e14 == 0) && ((cn.e15 == 0) && true)))))))))))))))) then (
      xg al dr d9 ca (w64 (av + 1)))
     else (
      xg al dr d9 ca av)))
   else (
    xg al dr d9 ca av))
  else (
   qN d9 al av gy cell))
 else (
  some (.done (al,av,dr,gy)))
def Yc (parts:List (List Int)) (bn:List (zz Int)) (bh:Int) (at_:Int) (kn:Bool) (dw:Int):Option (LR (List (zz Int) × Int × Int × Bool × Int) ((List (zz Int) × Int))) :=
 bif decide (dw < ((parts.length:Nat):Int)) then (
  (idx parts dw).bind fun db=>
  (loop (fun s=>Yb db s.1 s.2.1 s.2.2.1 s.2.2.2.1 s.2.2.2.2) (bn,bh,at_,kn,0)).bind fun t4=>
  Yd dw t4.1 t4.2.1 t4.2.2.1 t4.2.2.2)
 else (
  some (.done (bn,bh)))
def uF (parts:List (List Int)) (b_:zg):Option (zg × Bool) :=
 (loop (fun s=>Yc parts s.1 s.2.1 s.2.2.1 s.2.2.2.1 s.2.2.2.2) (b_.nodes_,b_.leaves_,0,false,0)).bind fun t2=>
 Ye b_ t2.1 t2.2
def qr (ar:Int) (bn:List (zz Int)) (bh:Int) (cw:Int):Option (LR (List (zz Int) × Int × Int × Int) ((zg × Bool))) :=
 some (.next (bn,bh,cw,w64 (ar + 1)))
def qq (dy:Int) (al:List (zz Int)) (av:Int) (cx:Int):Option (LR (List (zz Int) × Int × Int × Int) ((List (zz Int) × Int × Int) ⊕ (zg × Bool))) :=
 some (.next (al,av,cx,w64 (dy + 1)))
def qn (x_:zj) (b_:zg) (ax:List Int) (aq:List Int) (bm:List (zz Int)) (bg:Int) (ce:Int) (em:Int):Option (LR (List (zz Int) × Int × Int × Int) ((List (zz Int) × Int × Int) ⊕ (zg × Bool))) :=
 bif decide (em < ((x_.all_.length:Nat):Int)) then (
  (idx x_.all_ em).bind fun dm=>
  (uF ([ax,aq,dm]:List (List Int)) (zg.mk bm bg ce)).bind fun r_=>
  bif r_.2 then (
   some (.done (.inr (b_,true))))
  else (
   some (.next (r_.1.nodes_,r_.1.leaves_,r_.1.most_,w64 (em + 1)))))
 else (
  some (.done (.inl (bm,bg,ce))))
def qo (x_:zj) (b_:zg) (ax:List Int) (bl:List (zz Int)) (bf:Int) (cg:Int) (dy:Int):Option (LR (List (zz Int) × Int × Int × Int) ((List (zz Int) × Int × Int) ⊕ (zg × Bool))) :=
 bif decide (dy < ((x_.short_.length:Nat):Int)) then (
  (idx x_.short_ dy).bind fun aq=>
  (loop (fun s=>qn x_ b_ ax aq s.1 s.2.1 s.2.2.1 s.2.2.2) (bl,bf,cg,0)).bind fun t5=>
  match t5 with
  | .inl p=>qq dy p.1 p.2.1 p.2.2
  | .inr p=>some (.done (.inr p)))
 else (
  some (.done (.inl (bl,bf,cg))))
def qp (x_:zj) (b_:zg) (bq:List (zz Int)) (bj:Int) (dc:Int) (ar:Int):Option (LR (List (zz Int) × Int × Int × Int) ((zg × Bool))) :=
 bif decide (ar < ((x_.p_.length:Nat):Int)) then (
  (idx x_.p_ ar).bind fun ax=>
  (loop (fun s=>qo x_ b_ ax s.1 s.2.1 s.2.2.1 s.2.2.2) (bq,bj,dc,0)).bind fun t3=>
  match t3 with
  | .inl p=>qr ar p.1 p.2.1 p.2.2
  | .inr p=>some (.done p))
 else (
  some (.done ((zg.mk bq bj dc),false)))
def Zq (x0:K4) (x_:zj) (b_:zg):Option (zg × Bool) :=
 (loop (fun s=>qp x_ b_ s.1 s.2.1 s.2.2.1 s.2.2.2) (b_.nodes_,b_.leaves_,b_.most_,0)).bind fun t1=>
 some t1
def yx (x_:List (List Int)) (target:List Int) (i_:Int):Option (Int × Bool) :=
 bif decide (i_ < ((x_.length:Nat):Int)) then (
  (idx x_ i_).bind fun j7=>
  (wq j7 target).bind fun r_=>
  some (i_,r_ == 0))
 else (
  some (i_,false))
def yw (x_:List (List Int)) (target:List Int) (dx:Int) (j_:Int):Option (LR (Int × Int) Int) :=
 bif decide (dx < j_) then (
  (idx x_ (w64 (Int.fdiv (IntKind.u64.wrap (w64 (dx + j_))) (2 ^ 1)))).bind fun jr=>
  (wq jr target).bind fun ah=>
  bif decide (ah < 0) then (
   some (.next (w64 ((w64 (Int.fdiv (IntKind.u64.wrap (w64 (dx + j_))) (2 ^ 1))) + 1),j_)))
  else (
   some (.next (dx,w64 (Int.fdiv (IntKind.u64.wrap (w64 (dx + j_))) (2 ^ 1))))))
 else (
  some (.done dx))
def yV (x_:List (List Int)) (target:List Int) (cmp:Unit):Option (Int × Bool) :=
 (loop (fun s=>yw x_ target s.1 s.2) (0,((x_.length:Nat):Int))).bind fun t2=>
 yx x_ target t2
def z6h (l_:List (List Int)) (w_:List Int):Option Bool :=
 (yV l_ w_ ()).bind fun r_=>
 some r_.2
def Xv (w_:List Int) (x1:List (List Int)):Option Bool :=
 (z6h x1 w_).bind fun r_=>
 some r_
def wv:Option Int :=
 some (-1)
def wu (s_:List (List Int)) (f_:List (List Int)) (x8:Int):Option (LR Int (Unit ⊕ Int)) :=
 bif decide (x8 < ((s_.length:Nat):Int)) then (
  (idx s_ x8).bind fun da=>
  (Xv da f_).bind fun r_=>
  bif r_ then (
   some (.done (.inr x8)))
  else (
   some (.next (w64 (x8 + 1)))))
 else (
  some (.done (.inl ())))
def vu (s_:List (List Int)) (f_:List (List Int)):Option Int :=
 (loop (fun s=>wu s_ f_ s) 0).bind fun t2=>
 match t2 with
 | .inl p=>wv
 | .inr p=>some p
def wj (cr:List (List Int)) (i_:Int):Option (List (List Int)) :=
 gd ((0:Int) ≤ i_ ∧ (i_:Int) ≤ ((cr.length:Nat):Int)) <|
 gd ((0:Int) ≤ i_ ∧ (i_:Int) ≤ ((cr.length:Nat):Int)) <|
 gd ((0:Int) ≤ i_ ∧ (i_:Int) ≤ (((cr.take i_.toNat ++ List.replicate (cr.length - i_.toNat) []).length:Nat):Int)) <|
 some ((cr.take i_.toNat ++ List.replicate (cr.length - i_.toNat) []).take i_.toNat)
def yZ (j_:Int) (kg:List (List Int)) (mr:Int):Option (LR (List (List Int) × Int × Int) ((List (List Int) × Int))) :=
 some (.next (kg,mr,w64 (j_ + 1)))
def wi (ir:List (List Int)) (dg:List (List Int)) (dx:Int) (j_:Int):Option (LR (List (List Int) × Int × Int) ((List (List Int) × Int))) :=
 bif decide (j_ < ((dg.length:Nat):Int)) then (
  (idx dg j_).bind fun da=>
  (Xv da ir).bind fun ah=>
  bif !ah then (
   (idx dg dx).bind fun km=>
   yZ j_ (dg.set dx.toNat da) (w64 (dx + 1)))
  else (
   yZ j_ dg dx))
 else (
  some (.done (dg,dx)))
def wV (s_:List (List Int)) (ir:List (List Int)):Option (List (List Int)) :=
 (vu s_ ir).bind fun r_=>
 bif r_ == (-1) then (
  some s_)
 else (
  (loop (fun s=>wi ir s.1 s.2.1 s.2.2) (s_,r_,w64 (r_ + 1))).bind fun t2=>
  wj t2.1 t2.2)
def z04 (a_:List (List Int)) (b_:List (List Int)) (inputs:Int):Option (List (List Int) × Int) :=
 (Ka inputs ([a_,b_])).bind fun r_=>
 bif r_ != 0 then (
  some (([]:List (List Int)),r_))
 else (
  (va a_).bind fun ah=>
  (wV ah b_).bind fun aj=>
  (Zd aj).bind fun aw=>
  some (aw.1,aw.2))
def YQ (m_:z6) (s_:Int) (w_:List Int):Option (Int × Int) :=
 (uG m_ s_).bind fun r_=>
 bif r_ != 0 then (
  some (0,r_))
 else (
  (u4 w_ m_.Inputs).bind fun ah=>
  bif ah != 0 then (
   some (0,ah))
  else (
   (Zi m_ s_ w_).bind fun aj=>
   some (aj.2,0)))
def qM (x_:zj) (u_:List Int) (v_:List Int):Option (List (List Int)) :=
 (YQ x_.m_ 0 u_).bind fun r_=>
 (YQ x_.m_ r_.1 v_).bind fun ah=>
 (idx x_.each_ ah.1).bind fun mc=>
 some mc
def uS (gf:Int) (bl:List (zz Int)) (bf:Int) (cg:Int):Option (LR (List (zz Int) × Int × Int × Int) ((zg × Bool))) :=
 some (.next (bl,bf,cg,w64 (gf + 1)))
def uR (iu:Int) (bm:List (zz Int)) (bg:Int) (ce:Int):Option (LR (List (zz Int) × Int × Int × Int) ((List (zz Int) × Int × Int) ⊕ (zg × Bool))) :=
 some (.next (bm,bg,ce,w64 (iu + 1)))
def uN (b_:zg) (u_:List Int) (cq:List Int) (ah:List (List Int)) (gp:List (zz Int)) (ck:Int) (il:Int) (lc:Int):Option (LR (List (zz Int) × Int × Int × Int) ((List (zz Int) × Int × Int) ⊕ (zg × Bool))) :=
 bif decide (lc < ((ah.length:Nat):Int)) then (
  (idx ah lc).bind fun eg=>
  (uF ([u_,cq,eg]:List (List Int)) (zg.mk gp ck il)).bind fun aj=>
  bif aj.2 then (
   some (.done (.inr (b_,true))))
  else (
   some (.next (aj.1.nodes_,aj.1.leaves_,aj.1.most_,w64 (lc + 1)))))
 else (
  some (.done (.inl (gp,ck,il))))
def uO (x_:zj) (b_:zg) (u_:List Int) (al:List (zz Int)) (av:Int) (cx:Int) (iu:Int):Option (LR (List (zz Int) × Int × Int × Int) ((List (zz Int) × Int × Int) ⊕ (zg × Bool))) :=
 bif decide (iu < ((x_.exact_.length:Nat):Int)) then (
  (idx x_.exact_ iu).bind fun cq=>
  (qM x_ u_ cq).bind fun ah=>
  (loop (fun s=>uN b_ u_ cq ah s.1 s.2.1 s.2.2.1 s.2.2.2) (al,av,cx,0)).bind fun t6=>
  match t6 with
  | .inl p=>uR iu p.1 p.2.1 p.2.2
  | .inr p=>some (.done (.inr p)))
 else (
  some (.done (.inl (al,av,cx))))
def uP (x_:zj) (b_:zg) (r_:List (List Int) × Int) (bn:List (zz Int)) (bh:Int) (cw:Int) (gf:Int):Option (LR (List (zz Int) × Int × Int × Int) ((zg × Bool))) :=
 bif decide (gf < ((r_.1.length:Nat):Int)) then (
  (idx r_.1 gf).bind fun u_=>
  (loop (fun s=>uO x_ b_ u_ s.1 s.2.1 s.2.2.1 s.2.2.2) (bn,bh,cw,0)).bind fun t4=>
  match t4 with
  | .inl p=>uS gf p.1 p.2.1 p.2.2
  | .inr p=>some (.done p))
 else (
  some (.done ((zg.mk bn bh cw),false)))
def uT (x_:zj) (b_:zg) (bq:List (zz Int)) (bj:Int) (dc:Int):Option (zg × Bool) :=
 (z04 x_.p_ x_.q_ x_.m_.Inputs).bind fun r_=>
 (loop (fun s=>uP x_ b_ r_ s.1 s.2.1 s.2.2.1 s.2.2.2) (bq,bj,dc,0)).bind fun t2=>
 some t2
def uQ (gg:Int) (jo:List (zz Int)) (je:Int) (j4:Int):Option (LR (List (zz Int) × Int × Int × Int) ((List (zz Int) × Int × Int) ⊕ (zg × Bool))) :=
 some (.next (jo,je,j4,w64 (gg + 1)))
def u9 (iv:Int) (jp:List (zz Int)) (jf:Int) (j5:Int):Option (LR (List (zz Int) × Int × Int × Int) ((List (zz Int) × Int × Int) ⊕ (zg × Bool))) :=
 some (.next (jp,jf,j5,w64 (iv + 1)))
def u7 (x_:zj) (b_:zg) (eb:List Int) (aq:List Int) (fy:List (zz Int)) (fp:Int) (gq:Int) (ld:Int):Option (LR (List (zz Int) × Int × Int × Int) ((List (zz Int) × Int × Int) ⊕ (zg × Bool))) :=
 bif decide (ld < ((x_.all_.length:Nat):Int)) then (
  (idx x_.all_ ld).bind fun dm=>
  (uF ([eb,aq,dm]:List (List Int)) (zg.mk fy fp gq)).bind fun aw=>
  bif aw.2 then (
   some (.done (.inr (b_,true))))
  else (
   some (.next (aw.1.nodes_,aw.1.leaves_,aw.1.most_,w64 (ld + 1)))))
 else (
  some (.done (.inl (fy,fp,gq))))
def uL (x_:zj) (b_:zg) (eb:List Int) (gr:List (zz Int)) (fz:Int) (im:Int) (iv:Int):Option (LR (List (zz Int) × Int × Int × Int) ((List (zz Int) × Int × Int) ⊕ (zg × Bool))) :=
 bif decide (iv < ((x_.short_.length:Nat):Int)) then (
  (idx x_.short_ iv).bind fun aq=>
  (loop (fun s=>u7 x_ b_ eb aq s.1 s.2.1 s.2.2.1 s.2.2.2) (gr,fz,im,0)).bind fun nl=>
  match nl with
  | .inl p=>u9 iv p.1 p.2.1 p.2.2
  | .inr p=>some (.done (.inr p)))
 else (
  some (.done (.inl (gr,fz,im))))
def uM (x_:zj) (b_:zg) (gt:List (zz Int)) (ga:Int) (io:Int) (gg:Int):Option (LR (List (zz Int) × Int × Int × Int) ((List (zz Int) × Int × Int) ⊕ (zg × Bool))) :=
 bif decide (gg < ((x_.q_.length:Nat):Int)) then (
  (idx x_.q_ gg).bind fun eb=>
  (loop (fun s=>uL x_ b_ eb s.1 s.2.1 s.2.2.1 s.2.2.2) (gt,ga,io,0)).bind fun t9=>
  match t9 with
  | .inl p=>uQ gg p.1 p.2.1 p.2.2
  | .inr p=>some (.done (.inr p)))
 else (
  some (.done (.inl (gt,ga,io))))
def kF (x0:QH) (x_:zj) (b_:zg):Option (zg × Bool) :=
 (loop (fun s=>uM x_ b_ s.1 s.2.1 s.2.2.1 s.2.2.2) (b_.nodes_,b_.leaves_,b_.most_,0)).bind fun t7=>
 match t7 with
 | .inl p=>uT x_ b_ p.1 p.2.1 p.2.2
 | .inr p=>some p
def ue (ar:Int) (bn:List (zz Int)) (bh:Int) (cw:Int):Option (LR (List (zz Int) × Int × Int × Int) ((zg × Bool))) :=
 some (.next (bn,bh,cw,w64 (ar + 1)))
def ud (dy:Int) (al:List (zz Int)) (av:Int) (cx:Int):Option (LR (List (zz Int) × Int × Int × Int) ((List (zz Int) × Int × Int) ⊕ (zg × Bool))) :=
 some (.next (al,av,cx,w64 (dy + 1)))
def ua (b_:zg) (ax:List Int) (aq:List Int) (r_:List (List Int)) (bm:List (zz Int)) (bg:Int) (ce:Int) (em:Int):Option (LR (List (zz Int) × Int × Int × Int) ((List (zz Int) × Int × Int) ⊕ (zg × Bool))) :=
 bif decide (em < ((r_.length:Nat):Int)) then (
  (idx r_ em).bind fun eg=>
  (uF ([ax,aq,eg]:List (List Int)) (zg.mk bm bg ce)).bind fun ah=>
  bif ah.2 then (
   some (.done (.inr (b_,true))))
  else (
   some (.next (ah.1.nodes_,ah.1.leaves_,ah.1.most_,w64 (em + 1)))))
 else (
  some (.done (.inl (bm,bg,ce))))
def ub (x_:zj) (b_:zg) (ax:List Int) (bl:List (zz Int)) (bf:Int) (cg:Int) (dy:Int):Option (LR (List (zz Int) × Int × Int × Int) ((List (zz Int) × Int × Int) ⊕ (zg × Bool))) :=
 bif decide (dy < ((x_.short_.length:Nat):Int)) then (
  (idx x_.short_ dy).bind fun aq=>
  (qM x_ ax aq).bind fun r_=>
  (loop (fun s=>ua b_ ax aq r_ s.1 s.2.1 s.2.2.1 s.2.2.2) (bl,bf,cg,0)).bind fun t5=>
  match t5 with
  | .inl p=>ud dy p.1 p.2.1 p.2.2
  | .inr p=>some (.done (.inr p)))
 else (
  some (.done (.inl (bl,bf,cg))))
def uc (x_:zj) (b_:zg) (bq:List (zz Int)) (bj:Int) (dc:Int) (ar:Int):Option (LR (List (zz Int) × Int × Int × Int) ((zg × Bool))) :=
 bif decide (ar < ((x_.p_.length:Nat):Int)) then (
  (idx x_.p_ ar).bind fun ax=>
  (loop (fun s=>ub x_ b_ ax s.1 s.2.1 s.2.2.1 s.2.2.2) (bq,bj,dc,0)).bind fun t3=>
  match t3 with
  | .inl p=>ue ar p.1 p.2.1 p.2.2
  | .inr p=>some (.done p))
 else (
  some (.done ((zg.mk bq bj dc),false)))
def jI (x0:UD) (x_:zj) (b_:zg):Option (zg × Bool) :=
 (loop (fun s=>uc x_ b_ s.1 s.2.1 s.2.2.1 s.2.2.2) (b_.nodes_,b_.leaves_,b_.most_,0)).bind fun t1=>
 some t1
def UU (x:zj) (s:Nat) (most:Int):Option (Option zg × Bool) :=
 (match s with | 0=>Zq ⟨⟩ x (zg.mk [zz.mk 0 0 0 0 0 0 0 0 0 0 0 0 0 0 0 0] 0 most) | 1=>kF ⟨⟩ x (zg.mk [zz.mk 0 0 0 0 0 0 0 0 0 0 0 0 0 0 0 0] 0 most) | 2=>jI ⟨⟩ x (zg.mk [zz.mk 0 0 0 0 0 0 0 0 0 0 0 0 0 0 0 0] 0 most) | _=>none).bind fun r=>
 some (bif r.2 then none else some r.1,!r.2)
def wc (s_:List (List Int)):Option (List (List Int)) :=
 some s_
def kL (out:List (List Int)):Option (List (List Int)) :=
 (wc out).bind fun r_=>
 some r_
def kK (a7:List (List Int)) (next:List zi):Option (LR (List (List Int) × List zi) (List (List Int))) :=
 some (.next (a7,next))
def ug (ar:Int) (i6:List (List Int)) (ip:List zi):Option (LR (List (List Int) × List zi × Int) ((List (List Int) × List zi))) :=
 some (.next (i6,ip,w64 (ar + 1)))
def kJ (cp:List (List Int)) (ar:Int) (bi:zi) (fl:List zi) (mh:Bool):Option (LR (List (List Int) × List zi × Int) ((List (List Int) × List zi))) :=
 bif mh then (
  (ya bi.w_).bind fun ah=>
  gd (cp.length + ([ah]:List (List Int)).length ≤ 4294967296) <|
  ug ar (cp ++ ([ah]:List (List Int))) fl)
 else (
  ug ar cp fl)
def uf (cu:Int) (k9:List zi) (la:Bool):Option (LR (List zi × Bool × Int) ((List zi × Bool))) :=
 some (.next (k9,la,w64 (cu + 1)))
def kG (bi:zi) (ay:zz Int) (ib:List zi) (ju:Bool) (cu:Int):Option (LR (List zi × Bool × Int) ((List zi × Bool))) :=
 bif decide (cu < 16) then (
  (idx ([ay.e0,ay.e1,ay.e2,ay.e3,ay.e4,ay.e5,ay.e6,ay.e7,ay.e8,ay.e9,ay.e10,ay.e11,ay.e12,ay.e13,ay.e14,ay.e15]:List Int) cu).bind fun cell=>
  bif decide (cell > 0) then (
   (ya bi.w_).bind fun aj=>
   gd (aj.length + ([cu]:List Int).length ≤ 4294967296) <|
   gd (ib.length + ([(zi.mk cell (aj ++ ([cu]:List Int)))]:List zi).length ≤ 4294967296) <|
   uf cu (ib ++ ([(zi.mk cell (aj ++ ([cu]:List Int)))]:List zi)) false)
  else (
   uf cu ib ju))
 else (
  some (.done (ib,ju)))
def kH (b_:zg) (ap:List zi) (cp:List (List Int)) (ff:List zi) (ar:Int):Option (LR (List (List Int) × List zi × Int) ((List (List Int) × List zi))) :=
 bif decide (ar < ((ap.length:Nat):Int)) then (
  (idx ap ar).bind fun bi=>
  (idx b_.nodes_ bi.at_).bind fun ay=>
  (loop (fun s=>kG bi ay s.1 s.2.1 s.2.2) (ff,true,0)).bind fun t7=>
  kJ cp ar bi t7.1 t7.2)
 else (
  some (.done (cp,ff)))
def kI (b_:zg) (ak:List (List Int)) (ap:List zi):Option (LR (List (List Int) × List zi) (List (List Int))) :=
 bif decide (((ap.length:Nat):Int) > 0) then (
  (loop (fun s=>kH b_ ap s.1 s.2.1 s.2.2) (ak,([]:List zi),0)).bind fun t4=>
  kK t4.1 t4.2)
 else (
  some (.done ak))
def Xf (b_:zg):Option (List (List Int)) :=
 (loop (fun s=>kI b_ s.1 s.2) (([]:List (List Int)),([(zi.mk 0 [])]:List zi))).bind fun t2=>
 kL t2
def YU (s_:Nat) (m_:z6) (bound:Int) (dn:Int):Option (List (List Int) × Int) :=
 (Vq m_ bound).bind fun r_=>
 bif r_ != 0 then (
  some (([]:List (List Int)),r_))
 else (
  bif decide (dn < 1) then (
   some (([]:List (List Int)),1))
  else (
   bif decide (dn > 4096) then (
    some (([]:List (List Int)),1))
   else (
    (YJ m_ bound).bind fun ah=>
    bif ah.2 != 0 then (
     some (([]:List (List Int)),13))
    else (
     (ah.1).bind fun there=>
     (UU there s_ dn).bind fun aj=>
     bif !aj.2 then (
      some (([]:List (List Int)),13))
     else (
      (aj.1).bind fun ee=>
      (Xf ee).bind fun aw=>
      (u6 aw m_.Inputs).bind fun cd=>
      bif cd != 0 then (
       some (([]:List (List Int)),cd))
      else (
       some (aw,0)))))))
def Kc (m_:z6) (bound:Int) (dn:Int):Option (List (List Int) × Int) :=
 (YU 0 m_ bound dn).bind fun r_=>
 some (r_.1,r_.2)
def z3F (m_:z6) (bound:Int) (dn:Int):Option (List (List Int) × Int) :=
 (YU 1 m_ bound dn).bind fun r_=>
 some (r_.1,r_.2)
def z1z (m_:z6) (bound:Int) (dn:Int):Option (List (List Int) × Int) :=
 (YU 2 m_ bound dn).bind fun r_=>
 some (r_.1,r_.2)
def Us (a_:List (List Int)) (b_:List (List Int)):Option Bool :=
 (XU a_ b_).bind fun r_=>
 bif r_ then (
  some (((a_.length:Nat):Int) == ((a_.length:Nat):Int)))
 else (
  some false)
def Wb (n_:Ui Int):Option (Ui Int × Int) :=
 some (n_,0)
def Wa (ah:Option zj × Int) (dj:Ui Int) (ij:Int):Option (LR (Ui Int × Int) (Ui Int ⊕ (Ui Int × Int))) :=
 bif decide (ij < ((([0,1,2]:List Nat).length:Nat):Int)) then (
  (idx ([0,1,2]) ij).bind fun kc=>
  (ah.1).bind fun there=>
  (UU there kc 4096).bind fun aj=>
  bif !aj.2 then (
   some (.done (.inr ((Ui.mk 0 0 0),3))))
  else (
   (aj.1).bind fun ee=>
   (idx (Ui.toL dj) ij).bind fun cell=>
   (some (Ui.setI dj ij (mx ee.leaves_ 1))).bind fun arr=>
   some (.next (arr,w64 (ij + 1)))))
 else (
  some (.done (.inl dj)))
def JA (m_:z6) (bound:Int):Option (Ui Int × Int) :=
 (Vq m_ bound).bind fun r_=>
 bif r_ != 0 then (
  some ((Ui.mk 0 0 0),r_))
 else (
  (YJ m_ bound).bind fun ah=>
  bif ah.2 != 0 then (
   some ((Ui.mk 0 0 0),3))
  else (
   (loop (fun s=>Wa ah s.1 s.2) ((Ui.mk 0 0 0),0)).bind fun t2=>
   match t2 with
   | .inl p=>Wb p
   | .inr p=>some p))
def Qc:Option Bool :=
 (Qd).bind fun r_=>
 (Kc r_ 3 8).bind fun ah=>
 (z3F r_ 3 4096).bind fun aj=>
 (z1z r_ 3 4096).bind fun aw=>
 bif ah.2 != 0 then (
  some false)
 else (
  bif aj.2 != 0 then (
   some false)
  else (
   bif aw.2 != 0 then (
    some false)
   else (
    (Us ah.1 ([[1,0],[1,1],[0,1,0],[0,1,1],[0,0,0,0],[0,0,0,1],[0,0,1,0],[0,0,1,1]])).bind fun cd=>
    bif !cd then (
     some false)
    else (
     gd ((0:Int) ≤ 0 ∧ (0:Int) ≤ 7 ∧ (7:Int) ≤ ((([[1,0],[1,1],[0,1,0],[0,1,1],[0,0,0,0],[0,0,0,1],[0,0,1,0],[0,0,1,1]]:List (List Int)).length:Nat):Int)) <|
     (Us aj.1 ((([[1,0],[1,1],[0,1,0],[0,1,1],[0,0,0,0],[0,0,0,1],[0,0,1,0],[0,0,1,1]]:List (List Int)).drop 0).take ((7:Int).toNat - 0))).bind fun fq=>
     bif !fq then (
      some false)
     else (
      gd ((0:Int) ≤ 0 ∧ (0:Int) ≤ 7 ∧ (7:Int) ≤ ((([[1,0],[1,1],[0,1,0],[0,1,1],[0,0,0,0],[0,0,0,1],[0,0,1,0],[0,0,1,1]]:List (List Int)).length:Nat):Int)) <|
      (Us aw.1 ((([[1,0],[1,1],[0,1,0],[0,1,1],[0,0,0,0],[0,0,0,1],[0,0,1,0],[0,0,1,1]]:List (List Int)).drop 0).take ((7:Int).toNat - 0))).bind fun ji=>
      bif !ji then (
       some false)
      else (
       (Kc r_ 2 9).bind fun kq=>
       (Kc r_ 8 9).bind fun nn=>
       (Kc r_ 3 7).bind fun nq=>
       (JA r_ 3).bind fun l6=>
       bif kq.2 == 1 then (
        bif nn.2 == 1 then (
         bif nq.2 == 13 then (
          bif l6.2 == 0 then (
           some ((l6.1.e0 == 8) && ((l6.1.e1 == 7) && ((l6.1.e2 == 7) && true))))
          else (
           some false))
         else (
          some false))
        else (
         some false))
       else (
        some false)))))))
def vJ (r_:z6) (ah:z6) (l_:List (List Int)):Option Bool :=
 (XT l_).bind fun aw=>
 (YV r_ ah aw).bind fun cd=>
 bif cd.2 == 0 then (
  (Wv r_ ah aw).bind fun fq=>
  bif cd.1 == fq then (
   (Qc).bind fun ji=>
   some ji)
  else (
   some false))
 else (
  some false)
def vI (i_:Int) (jg:List (List Int)):Option (LR (List (List Int) × Int) (List (List Int))) :=
 some (.next (jg,w64 (i_ + 1)))
def vH (de:List (List Int)) (i_:Int) (w_:List Int):Option (LR (List (List Int) × Int) (List (List Int))) :=
 gd (de.length + ([w_]:List (List Int)).length ≤ 4294967296) <|
 vI i_ (de ++ ([w_]:List (List Int)))
def xC (r_:z6) (aj:List (List Int)) (i_:Int) (gw:List Int) (k_:Int):Option (LR (List Int × Int) (List Int)) :=
 (idx aj i_).bind fun eg=>
 bif decide (k_ < ((eg.length:Nat):Int)) then (
  (idx aj i_).bind fun mz=>
  (idx mz k_).bind fun jq=>
  gd ((r_.Inputs:Int) ≠ 0) <|
  gd (gw.length + ([Int.tmod jq r_.Inputs]:List Int).length ≤ 4294967296) <|
  some (.next ((gw ++ ([Int.tmod jq r_.Inputs]:List Int)),w64 (k_ + 1))))
 else (
  some (.done gw))
def xD (r_:z6) (aj:List (List Int)) (de:List (List Int)) (i_:Int):Option (LR (List (List Int) × Int) (List (List Int))) :=
 bif decide (i_ < ((aj.length:Nat):Int)) then (
  (loop (fun s=>xC r_ aj i_ s.1 s.2) (([]:List Int),0)).bind fun t5=>
  vH de i_ t5)
 else (
  some (.done de))
def jC (x_:yf) (y_:yG) (z_:yN):Option Bool :=
 (XV (yf.mk x_.States x_.Inputs x_.Outputs x_.Partial x_.Edges)).bind fun r_=>
 (Ut y_ r_).bind fun ah=>
 (Uu z_).bind fun aj=>
 (loop (fun s=>xD r_ aj s.1 s.2) (([]:List (List Int)),0)).bind fun t2=>
 vJ r_ ah t2
abbrev F0_:=z0T (eI .i64)
abbrev F1_:=WJ (eI .i32)
abbrev F2_:=eSl 1 false (eI .u8)
abbrev F3_:=eSl 1 true (eI .i64)
abbrev F4_:=eOs 1 true (eI .i64)
abbrev F5_:=eSl 1 false (eI .u16)
abbrev F6_:=eOs 1 false (eI .i64)
abbrev F7_:=eSl 1 false (eI .i64)
abbrev F8_:=WJ F0_
abbrev F9_:=eSl 4 false (Kv (eI .u8))
abbrev u3:=wZ (eI .i64) (eI .i64)
abbrev znZ:=eOs 16 false F1_
abbrev znY:=eSl 16 false F1_
abbrev Uh:=eSl 1 true F3_
abbrev znX:=eOs 1 true F3_
abbrev zrZ:=eSl 1 false F2_
abbrev z8t:=eSl 1 true F7_
abbrev z8s:=eOs 1 false F7_
abbrev w8:=eSl 1 false F7_
abbrev zgp:=eSp w8
abbrev zqT:=eSl 2 true u3
abbrev yQ:=eSl 2 false u3
abbrev V2:=eOs 2 false u3
abbrev Zo:=WI (eI .i64) (eI .i64) (eI .i64)
abbrev Jk:=yY (eI .i32) F7_
abbrev zqS:=eSl 1 false w8
abbrev z1q:=Qj (eI .i64) F8_
abbrev z8r:=X4 (eI .u8) zrZ
abbrev zrY:=eSl 1 true zqT
abbrev zrX:=eSl 1 false yQ
abbrev z8q:=X5 (eI .u8) (eI .u8) (eI .u8) eB F5_
abbrev za5:=X3 F2_ F9_
abbrev Ug:=yg znY (eI .i64) (eI .i64)
abbrev zgV:=up (eI .i64) (eI .i64) zrY
abbrev zQ:=up (eI .i64) (eI .i64) zrX
abbrev z1n:=eSp zQ
abbrev jH:=jD zQ w8 w8 w8 zqS w8 w8
abbrev zgU:=eSp jH
def rpN {α:Type _} (n:Nat) (a:α) (l:List α):List α:=Nat.rec l (fun _ r=>a :: r) n
abbrev aLn (n:Nat):H:=.a (.atom (.int .i64 ((n:Nat):Int)))
end Go.Own

namespace Go.Proofs
open Go.Shelf
def Tryz.so136_ren:Go.Shelf.Ren:=⟨fun | 6=>136 | 15=>161 | 14=>160 | 28=>184 | 29=>185 | 20=>176 | 21=>177 | 22=>178 | 23=>179 | 24=>180 | 25=>181 | 26=>182 | 27=>183 | 46=>194 | 47=>195 | 48=>196 | 49=>197 | 50=>198 | 57=>201 | n=>n,fun | 22=>32 | 24=>51 | 25=>110 | 3=>3 | 39=>209 | 0=>0 | 53=>240 | 55=>242 | 4=>4 | 46=>233 | 45=>232 | 50=>237 | 5=>5 | 9=>9 | 66=>260 | 70=>264 | 76=>267 | 77=>268 | n=>n,fun | n=>n⟩
theorem Tryz.so136:Go.Proofs.SlLaysF0.n6 Tryz.prog Tryz.so136_ren:={
 mixed:=by kernel_rfl
 f6:=⟨Tryz.f136.name,by decide,Tryz.func136.trans (congrArg some (by kernel_rfl))⟩
 f14:=⟨Tryz.f160.name,by decide,Tryz.func160.trans (congrArg some (by kernel_rfl))⟩
 f15:=Tryz.func161.trans (congrArg some (by kernel_rfl))
 f20:=⟨Tryz.f176.name,by decide,Tryz.func176.trans (congrArg some (by kernel_rfl))⟩
 f21:=⟨Tryz.f177.name,by decide,Tryz.func177.trans (congrArg some (by kernel_rfl))⟩
 f22:=⟨Tryz.f178.name,by decide,Tryz.func178.trans (congrArg some (by kernel_rfl))⟩
 f23:=⟨Tryz.f179.name,by decide,Tryz.func179.trans (congrArg some (by kernel_rfl))⟩
 f24:=⟨Tryz.f180.name,by decide,Tryz.func180.trans (congrArg some (by kernel_rfl))⟩
 f25:=⟨Tryz.f181.name,by decide,Tryz.func181.trans (congrArg some (by kernel_rfl))⟩
 f26:=⟨Tryz.f182.name,by decide,Tryz.func182.trans (congrArg some (by kernel_rfl))⟩
 f27:=⟨Tryz.f183.name,by decide,Tryz.func183.trans (congrArg some (by kernel_rfl))⟩
 f28:=Tryz.func184.trans (congrArg some (by kernel_rfl))
 f29:=Tryz.func185.trans (congrArg some (by kernel_rfl))
 f46:=⟨Tryz.f194.name,by decide,Tryz.func194.trans (congrArg some (by kernel_rfl))⟩
 f47:=Tryz.func195.trans (congrArg some (by kernel_rfl))
 f48:=Tryz.func196.trans (congrArg some (by kernel_rfl))
 f49:=⟨Tryz.f197.name,by decide,Tryz.func197.trans (congrArg some (by kernel_rfl))⟩
 f50:=⟨Tryz.f198.name,by decide,Tryz.func198.trans (congrArg some (by kernel_rfl))⟩
 f57:=⟨Tryz.f201.name,by decide,Tryz.func201.trans (congrArg some (by kernel_rfl))⟩
 t0:=Tryz.underlying0
 a0:=Tryz.isAgg0
 z0:=Tryz.sizeOf0
 v0:=Tryz.zeroValue0
 t3:=Tryz.underlying3
 a3:=Tryz.isAgg3
 z3:=Tryz.sizeOf3
 v3:=Tryz.zeroValue3
 t4:=Tryz.underlying4
 a4:=Tryz.isAgg4
 z4:=Tryz.sizeOf4
 v4:=Tryz.zeroValue4
 t5:=Tryz.underlying5
 a5:=Tryz.isAgg5
 z5:=Tryz.sizeOf5
 v5:=Tryz.zeroValue5
 t9:=Tryz.underlying9
 a9:=Tryz.isAgg9
 z9:=Tryz.sizeOf9
 v9:=Tryz.zeroValue9
 t22:=Tryz.underlying32
 a22:=Tryz.isAgg32
 z22:=Tryz.sizeOf32
 v22:=Tryz.zeroValue32
 t25:=Tryz.underlying110
 a25:=Tryz.isAgg110
 z25:=Tryz.sizeOf110
 v25:=Tryz.zeroValue110
 t39:=Tryz.underlying209
 a39:=Tryz.isAgg209
 z39:=Tryz.sizeOf209
 v39:=Tryz.zeroValue209
 t45:=Tryz.underlying232
 a45:=Tryz.isAgg232
 z45:=Tryz.sizeOf232
 v45:=Tryz.zeroValue232
 t46:=Tryz.underlying233
 a46:=Tryz.isAgg233
 z46:=Tryz.sizeOf233
 v46:=Tryz.zeroValue233
 t50:=Tryz.underlying237
 a50:=Tryz.isAgg237
 z50:=Tryz.sizeOf237
 v50:=Tryz.zeroValue237
 t53:=Tryz.underlying240
 a53:=Tryz.isAgg240
 z53:=Tryz.sizeOf240
 v53:=Tryz.zeroValue240
 t55:=Tryz.underlying242
 a55:=Tryz.isAgg242
 z55:=Tryz.sizeOf242
 v55:=Tryz.zeroValue242
 t66:=Tryz.underlying260
 a66:=Tryz.isAgg260
 z66:=Tryz.sizeOf260
 v66:=Tryz.zeroValue260
 t70:=Tryz.underlying264
 a70:=Tryz.isAgg264
 z70:=Tryz.sizeOf264
 v70:=Tryz.zeroValue264
 t76:=Tryz.underlying267
 a76:=Tryz.isAgg267
 z76:=Tryz.sizeOf267
 v76:=Tryz.zeroValue267
 t77:=Tryz.underlying268
 a77:=Tryz.isAgg268
 z77:=Tryz.sizeOf268
 v77:=Tryz.zeroValue268 }
end Go.Proofs
