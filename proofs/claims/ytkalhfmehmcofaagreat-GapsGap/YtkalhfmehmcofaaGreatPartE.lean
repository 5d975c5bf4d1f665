/- -/
import Derived.Test.YtkalhfmehmcofaaGreatPartB
import Derived.Test.YtkalhfmehmcofaaGreatProg
import Derived.Test.YtkalhfmehmcofaaGreatPartC
import Derived.Test.YtkalhfmehmcofaaGreatPartD
set_option linter.unusedVariables false
set_option linter.unusedSimpArgs false
namespace Go.Ex
open Go.Proofs
theorem q5 : EqP Tryz.prog 5 [.int .u8 0] false 1:=z2i (k:=.int .u8) Tryz.underlying5 ⟨_,(by kernel_rfl : Tryz.prog.info? 5 = some Tryz.t5),rfl⟩ rfl
theorem q31 : EqP Tryz.prog 31 (z71 2 [.int .u8 0]) true 2:=Yh Tryz.underlying31 q5 ⟨_,(by kernel_rfl : Tryz.prog.info? 31 = some Tryz.t31),rfl⟩
def i32 : EI:=⟨.slice 72,1,24,some [.slice none 0 0],false⟩
theorem q3 : EqP Tryz.prog 3 [.int .i64 0] false 1:=z2i (k:=.int .i64) Tryz.underlying3 ⟨_,(by kernel_rfl : Tryz.prog.info? 3 = some Tryz.t3),rfl⟩ rfl
theorem q53 : EqP Tryz.prog 53 (V7 [([.int .i64 0],false),([.int .i64 0],false)]) true 2:=Xi Tryz.underlying53 (by kernel_rfl) ⟨_,(by kernel_rfl : Tryz.prog.info? 53 = some Tryz.t53),rfl⟩ (by decide) (zJ.cons (by decide) rfl (q3.mono (by decide)) (zJ.cons (by decide) rfl (q3.mono (by decide)) (zJ.nil)))
theorem q54 : EqP Tryz.prog 54 (V7 [([.int .i64 0],false),([.int .i64 0],false)]) true 2:=Xi Tryz.underlying54 (by kernel_rfl) ⟨_,(by kernel_rfl : Tryz.prog.info? 54 = some Tryz.t54),rfl⟩ (by decide) (zJ.cons (by decide) rfl (q3.mono (by decide)) (zJ.cons (by decide) rfl (q3.mono (by decide)) (zJ.nil)))
theorem q58 : EqP Tryz.prog 58 (z71 3 [.int .u8 0]) true 2:=Yh Tryz.underlying58 q5 ⟨_,(by kernel_rfl : Tryz.prog.info? 58 = some Tryz.t58),rfl⟩
def i64 : EI:=⟨.func,1,8,some [.nilFunc],false⟩
theorem q40 : EqP Tryz.prog 40 [.int .i64 0] false 1:=z2i (k:=.int .i64) Tryz.underlying40 ⟨_,(by kernel_rfl : Tryz.prog.info? 40 = some Tryz.t40),rfl⟩ rfl
theorem zkO : EqP Tryz.prog 133 (z71 5 [.int .i64 0]) true 2:=Yh Tryz.underlying133 q40 ⟨_,(by kernel_rfl : Tryz.prog.info? 133 = some Tryz.t133),rfl⟩
theorem q21 : EqP Tryz.prog 21 [.int .i32 0] false 1:=z2i (k:=.int .i32) Tryz.underlying21 ⟨_,(by kernel_rfl : Tryz.prog.info? 21 = some Tryz.t21),rfl⟩ rfl
theorem zkN : EqP Tryz.prog 146 (z71 16 [.int .i32 0]) true 2:=Yh Tryz.underlying146 q21 ⟨_,(by kernel_rfl : Tryz.prog.info? 146 = some Tryz.t146),rfl⟩
theorem zkM : EqP Tryz.prog 147 (z71 16 [.int .i32 0]) true 2:=Yh Tryz.underlying147 q21 ⟨_,(by kernel_rfl : Tryz.prog.info? 147 = some Tryz.t147),rfl⟩
theorem ziH : EqP Tryz.prog 158 (z71 2 [.int .i64 0]) true 2:=Yh Tryz.underlying158 q3 ⟨_,(by kernel_rfl : Tryz.prog.info? 158 = some Tryz.t158),rfl⟩
theorem zkL : EqP Tryz.prog 218 (V7 [([.int .i64 0],false),([.int .i64 0],false),([.int .i64 0],false)]) true 2:=Xi Tryz.underlying218 (by kernel_rfl) ⟨_,(by kernel_rfl : Tryz.prog.info? 218 = some Tryz.t218),rfl⟩ (by decide) (zJ.cons (by decide) rfl (q3.mono (by decide)) (zJ.cons (by decide) rfl (q3.mono (by decide)) (zJ.cons (by decide) rfl (q3.mono (by decide)) (zJ.nil))))
theorem zkK : EqP Tryz.prog 219 (V7 [([.int .i64 0],false),([.int .i64 0],false),([.int .i64 0],false)]) true 2:=Xi Tryz.underlying219 (by kernel_rfl) ⟨_,(by kernel_rfl : Tryz.prog.info? 219 = some Tryz.t219),rfl⟩ (by decide) (zJ.cons (by decide) rfl (q3.mono (by decide)) (zJ.cons (by decide) rfl (q3.mono (by decide)) (zJ.cons (by decide) rfl (q3.mono (by decide)) (zJ.nil))))
theorem zkJ : EqP Tryz.prog 230 (z71 16 [.int .i64 0,.int .i64 0]) true 3:=Yh Tryz.underlying230 ziH ⟨_,(by kernel_rfl : Tryz.prog.info? 230 = some Tryz.t230),rfl⟩
theorem ziG : EqP Tryz.prog 231 (z71 16 [.int .i64 0,.int .i64 0]) true 3:=Yh Tryz.underlying231 ziH ⟨_,(by kernel_rfl : Tryz.prog.info? 231 = some Tryz.t231),rfl⟩
theorem zkI : EqP Tryz.prog 233 (V7 [([.int .i64 0],false),([.int .i64 0,.int .i64 0,.int .i64 0,.int .i64 0,.int .i64 0,.int .i64 0,.int .i64 0,.int .i64 0,.int .i64 0,.int .i64 0,.int .i64 0,.int .i64 0,.int .i64 0,.int .i64 0,.int .i64 0,.int .i64 0,.int .i64 0,.int .i64 0,.int .i64 0,.int .i64 0,.int .i64 0,.int .i64 0,.int .i64 0,.int .i64 0,.int .i64 0,.int .i64 0,.int .i64 0,.int .i64 0,.int .i64 0,.int .i64 0,.int .i64 0,.int .i64 0],true)]) true 4:=Xi Tryz.underlying233 (by kernel_rfl) ⟨_,(by kernel_rfl : Tryz.prog.info? 233 = some Tryz.t233),rfl⟩ (by decide) (zJ.cons (by decide) rfl (q3.mono (by decide)) (zJ.cons (by decide) rfl (ziG.mono (by decide)) (zJ.nil)))
theorem zjD : EqP Tryz.prog 234 (V7 [([.int .i64 0],false),([.int .i64 0,.int .i64 0,.int .i64 0,.int .i64 0,.int .i64 0,.int .i64 0,.int .i64 0,.int .i64 0,.int .i64 0,.int .i64 0,.int .i64 0,.int .i64 0,.int .i64 0,.int .i64 0,.int .i64 0,.int .i64 0,.int .i64 0,.int .i64 0,.int .i64 0,.int .i64 0,.int .i64 0,.int .i64 0,.int .i64 0,.int .i64 0,.int .i64 0,.int .i64 0,.int .i64 0,.int .i64 0,.int .i64 0,.int .i64 0,.int .i64 0,.int .i64 0],true)]) true 4:=Xi Tryz.underlying234 (by kernel_rfl) ⟨_,(by kernel_rfl : Tryz.prog.info? 234 = some Tryz.t234),rfl⟩ (by decide) (zJ.cons (by decide) rfl (q3.mono (by decide)) (zJ.cons (by decide) rfl (ziG.mono (by decide)) (zJ.nil)))
end Go.Ex

namespace Go.Own
open Go.Proofs
def zig : Value → Bool
 | .int _ _ => true
 | _ => false
theorem z6N : ∀ {z vs us : List Value} {r : Bool},z.all zig = true → z.length = vs.length → ym vs us = some r → Go.Ex.z5F z vs = true ∧ Go.Ex.ym vs us = some r
 | [],[],us,r,_,_,h => by
  cases us with
  | nil => simp only [ym,Option.some.injEq] at h; subst h; exact ⟨rfl,rfl⟩
  | cons u us => simp [ym] at h
 | a :: z,v :: vs,us,r,hz,hl,h => by
  have q : ∃ k x u' k' y,v = .int k x ∧ us = .int k' y :: u' ∧ k = k':=by
   cases us with
   | nil => cases v <;> simp [ym] at h
   | cons u us =>
    cases v <;> cases u <;> simp [ym] at h
    exact ⟨_,_,_,_,_,rfl,rfl,h.1⟩
  obtain ⟨k,x,u',k',y,rfl,rfl,hk⟩:=q
  simp only [ym,hk,if_true,Option.map_eq_some_iff] at h
  obtain ⟨r',e1,rfl⟩:=h
  simp only [List.all_cons,Bool.and_eq_true] at hz
  obtain ⟨q1,q2⟩:=z6N hz.2 (by simpa using hl) e1
  refine ⟨?_,by simp [Go.Ex.ym,hk,q2]⟩
  cases a <;> first | (simp [zig] at hz; done) | simpa [Go.Ex.z5F] using q1
 | [],_ :: _,_,_,_,hl,_ => by simp at hl
 | _ :: _,[],_,_,_,hl,_ => by simp at hl
variable {P : Program}{z : List Value}
theorem zg1 {t n : Nat} {i : Go.Ex.EI} (h : Go.Ex.zbP P t i)  (hz : i.zero = some z) (hi : z.all zig = true) (hs : i.size = n) (hn : z.length = n) : zbP P t n:={
 guard:=h.guard
 run:=fun vs us r w hv hu he => by
  obtain ⟨q1,q2⟩:=z6N hi (by rw [hn,hv]) he
  exact h.run vs us r w (by rw [hs]; exact hv) (by rw [hs]; exact hu) (by simpa only [Go.Ex.ziS,hz] using q1) q2 }
theorem exq {t dep : Nat}  (q : Go.Ex.EqP P t z true dep) (h1 : Nat.ble dep P.depth = true:=by kernel_rfl) (h2 : dep ≤ 10000:=by decide) : Go.Ex.zbP P t ⟨.func,z.length,0,some z,true⟩:=Go.Ex.zg0 q rfl rfl (Nat.le_of_ble_eq_true h1) h2
theorem z6Q {t n dep : Nat}  (q : Go.Ex.EqP P t z true dep) (hi : z.all zig = true) (hn : z.length = n) (h1 : Nat.ble dep P.depth = true:=by kernel_rfl) (h2 : dep ≤ 10000:=by decide) : zbP P t n:=zg1 (exq q h1 h2) rfl hi hn hn
variable {h : Array Obj}{S : zb}
theorem zbb {v : Value} (hv : v.oneCell' = true) : zz S h (.atom v) [v] []:=by simp only [zz,Rep]; exact ⟨⟨trivial,hv⟩,trivial⟩
theorem zdz (sz : Nat) : zz S h (.osl sz true []) [.slice none 0 0] []:=by
 simp only [zz]
 exact ⟨none,0,rfl,(fun _ => rfl),Nat.le_refl _,Nat.zero_le _,by simp,.inl ⟨trivial,rfl,rfl,trivial⟩⟩
theorem zii {sz : Nat} : zz S h (.dop (nlQ sz [])) [.slice none 0 0] []:=by
 simp only [zz,Rep]
 exact ⟨⟨_,rfl,zfE.2 ⟨by simp [Rep],fun _ => rfl⟩⟩,trivial⟩
variable {a : A}
theorem zb8 {c : List Value} (q : zz S h a c []) : ∀ n,zA S h (List.replicate n a) (List.replicate n c).flatten []
 | 0 => by simp [zA]
 | n + 1 => by
  rw [List.replicate_succ,List.replicate_succ,List.flatten_cons]
  simp only [zA]
  exact ⟨c,_,[],[],rfl,rfl,q,zb8 q n⟩
theorem zkC {c c' : List Value} (q : zz S h a c []) (e : c' = c) : zz S h a c' []:=e ▸ q
variable {fs : List A}
theorem zdA {cs : List Value} (q : zA S h fs cs []) : zz S h (.agg fs) cs []:=by simpa only [zz] using q
theorem zb9 : zA S h [] [] []:=by simp [zA]
theorem zba {c1 c2 : List Value} (q1 : zz S h a c1 []) (q2 : zA S h fs c2 []) : zA S h (a :: fs) (c1 ++ c2) []:=by simp only [zA]; exact ⟨c1,c2,[],[],rfl,rfl,q1,q2⟩
def zc : A → Option (List Value)
 | .atom v => if v.oneCell' = true then some [v] else none
 | .osl _ true [] => some [.slice none 0 0]
 | .agg fs => zcs fs
 | _ => none
where zcs : List A → Option (List Value)
 | [] => some []
 | a :: l => match zc a,zcs l with | some c,some d => some (c ++ d) | _,_ => none
mutual
theorem zgI : ∀ {a : A} {c : List Value},zc a = some c → zz S h a c []
 | .atom v,c,e => by
  simp only [zc] at e
  split at e
  ·rename_i q; cases e; exact zbb q
  ·cases e
 | .osl sz true [],c,e => by simp only [zc] at e; cases e; exact zdz sz
 | .agg fs,c,e => zdA (ze3 (by simpa only [zc] using e))
theorem ze3 : ∀ {l : List A} {c : List Value},zc.zcs l = some c → zA S h l c []
 | [],c,e => by simp only [zc.zcs] at e; cases e; exact zb9
 | a :: l,c,e => by
  simp only [zc.zcs] at e
  split at e
  ·rename_i c d e1 e2; cases e; exact zba (zgI e1) (ze3 e2)
  ·cases e
end
def zq (z : Option A) (v : Option Value) (n : Nat) : Prop:=match z,v with | some z,some v => z.size = n ∧ zc z = some v.cells.toList | none,_ => True | _,_ => False
theorem tiq {t : Nat} {i : TI} (f : TypeInfo) (k : z3H P t i.kind) (e : i.eqn = true → zbP P t i.size:=by intro h; cases h) (h : P.info? t = some f:=by kernel_rfl) (h2 : f.size = i.size:=by rfl) (h3 : f.bytes = i.bytes:=by rfl) (h4 : zq i.zero f.zero i.size:=by exact And.intro rfl rfl) : jC P t i :=
 ⟨⟨f,h,h2,h3,fun z hz => by
  rw [hz] at h4
  cases hv : f.zero with
  | none => rw [hv] at h4; exact h4.elim
  | some v => rw [hv] at h4; exact ⟨v,rfl,h4.1,fun S h => zgI h4.2⟩⟩,k,e⟩
def ti1 : TI:=⟨.other,1,8,some (.atom .nilFunc),false⟩
theorem zgZ : jC Tryz.prog 1 ti1:=tiq Tryz.t1 ⟨_,Tryz.underlying1,rfl⟩
def ti2 : TI:=⟨.int .i64,1,8,some (.atom (.int .i64 0)),false⟩
theorem zgR : jC Tryz.prog 2 ti2:=tiq Tryz.t2 Tryz.underlying2
def ti3 : TI:=⟨.int .i64,1,8,some (.atom (.int .i64 0)),false⟩
theorem zgQ : jC Tryz.prog 3 ti3:=tiq Tryz.t3 Tryz.underlying3
def ti4 : TI:=⟨.bool,1,1,some (.atom (.bool false)),false⟩
theorem zgP : jC Tryz.prog 4 ti4:=tiq Tryz.t4 Tryz.underlying4
def ti5 : TI:=⟨.int .u8,1,1,some (.atom (.int .u8 0)),false⟩
theorem zgO : jC Tryz.prog 5 ti5:=tiq Tryz.t5 Tryz.underlying5
def ti9 : TI:=⟨.str,1,16,some (.atom (.string ⟨#[]⟩)),false⟩
theorem zgN : jC Tryz.prog 9 ti9:=tiq Tryz.t9 Tryz.underlying9
def zjz : TI:=⟨.other,1,16,some (.atom .nilIface),false⟩
theorem zf4 : jC Tryz.prog 20 zjz:=tiq Tryz.t20 ⟨_,Tryz.underlying20,rfl⟩
def zjy : TI:=⟨.slice 5,1,24,some (.osl 1 true []),false⟩
theorem zf3 : jC Tryz.prog 22 zjy:=tiq Tryz.t22 Tryz.underlying22
def zjx : TI:=⟨.slice 121,1,24,some (.osl 1 true []),false⟩
theorem zf2 : jC Tryz.prog 23 zjx:=tiq Tryz.t23 Tryz.underlying23
def zjw : TI:=⟨.struct [(0,1),(1,1),(2,1),(3,1),(4,1)],5,56,some (.agg [.atom (.int .u8 0),.atom (.int .u8 0),.atom (.int .u8 0),.osl 1 true [],.osl 1 true []]),false⟩
theorem zf1 : jC Tryz.prog 25 zjw:=tiq Tryz.t25 ⟨_,Tryz.underlying25,by kernel_rfl,by
  intro f hf
  simp only [List.mem_cons,List.not_mem_nil,or_false] at hf
  rcases hf with rfl | rfl | rfl | rfl | rfl
  ·exact ⟨Tryz.t5,by kernel_rfl⟩
  ·exact ⟨Tryz.t5,by kernel_rfl⟩
  ·exact ⟨Tryz.t5,by kernel_rfl⟩
  ·exact ⟨Tryz.t22,by kernel_rfl⟩
  ·exact ⟨Tryz.t23,by kernel_rfl⟩⟩
def zjv : TI:=⟨.struct [(0,5)],5,56,some (.agg [.agg [.atom (.int .u8 0),.atom (.int .u8 0),.atom (.int .u8 0),.osl 1 true [],.osl 1 true []]]),false⟩
theorem zf0 : jC Tryz.prog 27 zjv:=tiq Tryz.t27 ⟨_,Tryz.underlying27,by kernel_rfl,by
  intro f hf
  simp only [List.mem_cons,List.not_mem_nil,or_false] at hf
  rcases hf with rfl
  ·exact ⟨Tryz.t25,by kernel_rfl⟩⟩
def zju : TI:=⟨.slice 22,1,24,some (.osl 1 true []),false⟩
theorem zeZ : jC Tryz.prog 28 zju:=tiq Tryz.t28 Tryz.underlying28
def zjt : TI:=⟨.struct [(0,1),(1,1)],2,32,some (.agg [.atom (.int .u8 0),.osl 1 true []]),false⟩
theorem zeY : jC Tryz.prog 29 zjt:=tiq Tryz.t29 ⟨_,Tryz.underlying29,by kernel_rfl,by
  intro f hf
  simp only [List.mem_cons,List.not_mem_nil,or_false] at hf
  rcases hf with rfl | rfl
  ·exact ⟨Tryz.t5,by kernel_rfl⟩
  ·exact ⟨Tryz.t28,by kernel_rfl⟩⟩
def zjs : TI:=⟨.struct [(0,1),(1,1)],2,32,some (.agg [.atom (.int .u8 0),.osl 1 true []]),false⟩
theorem zeX : jC Tryz.prog 30 zjs:=tiq Tryz.t30 ⟨_,Tryz.underlying30,by kernel_rfl,by
  intro f hf
  simp only [List.mem_cons,List.not_mem_nil,or_false] at hf
  rcases hf with rfl | rfl
  ·exact ⟨Tryz.t5,by kernel_rfl⟩
  ·exact ⟨Tryz.t28,by kernel_rfl⟩⟩
def zjr : TI:=⟨.array 2 5,2,2,some (.agg [.atom (.int .u8 0),.atom (.int .u8 0)]),true⟩
theorem zeW : jC Tryz.prog 31 zjr:=tiq Tryz.t31 Tryz.underlying31 (fun _ => z6Q Go.Ex.q31 rfl rfl)
def zjq : TI:=⟨.slice 72,1,24,some (.osl 1 true []),false⟩
theorem zeV : jC Tryz.prog 32 zjq:=tiq Tryz.t32 Tryz.underlying32
def zjp : TI:=⟨.struct [(0,1),(1,1),(2,1)],3,40,some (.agg [.atom (.int .i64 0),.atom (.int .i64 0),.osl 1 true []]),false⟩
theorem zeU : jC Tryz.prog 33 zjp:=tiq Tryz.t33 ⟨_,Tryz.underlying33,by kernel_rfl,by
  intro f hf
  simp only [List.mem_cons,List.not_mem_nil,or_false] at hf
  rcases hf with rfl | rfl | rfl
  ·exact ⟨Tryz.t3,by kernel_rfl⟩
  ·exact ⟨Tryz.t3,by kernel_rfl⟩
  ·exact ⟨Tryz.t32,by kernel_rfl⟩⟩
def zjo : TI:=⟨.struct [(0,1),(1,1),(2,1)],3,40,some (.agg [.atom (.int .i64 0),.atom (.int .i64 0),.osl 1 true []]),false⟩
theorem zeT : jC Tryz.prog 34 zjo:=tiq Tryz.t34 ⟨_,Tryz.underlying34,by kernel_rfl,by
  intro f hf
  simp only [List.mem_cons,List.not_mem_nil,or_false] at hf
  rcases hf with rfl | rfl | rfl
  ·exact ⟨Tryz.t3,by kernel_rfl⟩
  ·exact ⟨Tryz.t3,by kernel_rfl⟩
  ·exact ⟨Tryz.t32,by kernel_rfl⟩⟩
def zjn : TI:=⟨.slice 57,1,24,some (.osl 1 true []),false⟩
theorem zeS : jC Tryz.prog 37 zjn:=tiq Tryz.t37 Tryz.underlying37
def zjm : TI:=⟨.int .i64,1,8,some (.atom (.int .i64 0)),false⟩
theorem zeR : jC Tryz.prog 40 zjm:=tiq Tryz.t40 Tryz.underlying40
def zjl : TI:=⟨.other,1,8,some (.atom .nilFunc),false⟩
theorem zeQ : jC Tryz.prog 49 zjl:=tiq Tryz.t49 ⟨_,Tryz.underlying49,rfl⟩
def zjk : TI:=⟨.struct [(0,1),(1,1)],2,16,some (.agg [.atom (.int .i64 0),.atom (.int .i64 0)]),true⟩
theorem zeP : jC Tryz.prog 54 zjk:=tiq Tryz.t54 ⟨_,Tryz.underlying54,by kernel_rfl,by
  intro f hf
  simp only [List.mem_cons,List.not_mem_nil,or_false] at hf
  rcases hf with rfl | rfl
  ·exact ⟨Tryz.t3,by kernel_rfl⟩
  ·exact ⟨Tryz.t3,by kernel_rfl⟩⟩ (fun _ => z6Q Go.Ex.q54 rfl rfl)
def zjj : TI:=⟨.slice 3,1,24,some (.osl 1 true []),false⟩
theorem zeO : jC Tryz.prog 57 zjj:=tiq Tryz.t57 Tryz.underlying57
def zji : TI:=⟨.other,1,8,some (.atom .nilFunc),false⟩
theorem zeN : jC Tryz.prog 68 zji:=tiq Tryz.t68 ⟨_,Tryz.underlying68,rfl⟩
def zjh : TI:=⟨.struct [(0,3),(3,1),(4,1)],5,72,some (.agg [.agg [.atom (.int .i64 0),.atom (.int .i64 0),.osl 1 true []],.osl 1 true [],.atom .nilFunc]),false⟩
theorem zeM : jC Tryz.prog 70 zjh:=tiq Tryz.t70 ⟨_,Tryz.underlying70,by kernel_rfl,by
  intro f hf
  simp only [List.mem_cons,List.not_mem_nil,or_false] at hf
  rcases hf with rfl | rfl | rfl
  ·exact ⟨Tryz.t34,by kernel_rfl⟩
  ·exact ⟨Tryz.t37,by kernel_rfl⟩
  ·exact ⟨Tryz.t68,by kernel_rfl⟩⟩
def zjg : TI:=⟨.other,1,8,some (.atom .nilFunc),false⟩
theorem zeL : jC Tryz.prog 71 zjg:=tiq Tryz.t71 ⟨_,Tryz.underlying71,rfl⟩
def zjf : TI:=⟨.slice 54,1,24,some (.osl 2 true []),false⟩
theorem zeK : jC Tryz.prog 72 zjf:=tiq Tryz.t72 Tryz.underlying72
def zje : TI:=⟨.struct [],0,0,some (.agg []),false⟩
theorem zeJ : jC Tryz.prog 80 zje:=tiq Tryz.t80 ⟨_,Tryz.underlying80,by kernel_rfl,by
  intro f hf
  cases hf⟩
def zjd : TI:=⟨.slice 4,1,24,some (.osl 1 true []),false⟩
theorem zeI : jC Tryz.prog 87 zjd:=tiq Tryz.t87 Tryz.underlying87
def zjc : TI:=⟨.slice 87,1,24,some (.osl 1 true []),false⟩
theorem zeH : jC Tryz.prog 88 zjc:=tiq Tryz.t88 Tryz.underlying88
def zjb : TI:=⟨.other,1,8,some (.atom .nilFunc),false⟩
theorem zeG : jC Tryz.prog 96 zjb:=tiq Tryz.t96 ⟨_,Tryz.underlying96,rfl⟩
def zja : TI:=⟨.other,1,8,some (.atom .nilFunc),false⟩
theorem zeF : jC Tryz.prog 97 zja:=tiq Tryz.t97 ⟨_,Tryz.underlying97,rfl⟩
def zj9 : TI:=⟨.other,1,8,some (.atom .nilFunc),false⟩
theorem zeE : jC Tryz.prog 98 zj9:=tiq Tryz.t98 ⟨_,Tryz.underlying98,rfl⟩
def zhg : TI:=⟨.ptr 141,1,8,some (.atom (.pointer none)),false⟩
theorem zci : jC Tryz.prog 108 zhg:=tiq Tryz.t108 Tryz.underlying108
def zhf : TI:=⟨.other,1,8,some (.atom .nilFunc),false⟩
theorem zch : jC Tryz.prog 110 zhf:=tiq Tryz.t110 ⟨_,Tryz.underlying110,rfl⟩
def zhe : TI:=⟨.slice 34,1,24,some (.osl 3 true []),false⟩
theorem zcg : jC Tryz.prog 111 zhe:=tiq Tryz.t111 Tryz.underlying111
def zhd : TI:=⟨.int .u16,1,2,some (.atom (.int .u16 0)),false⟩
theorem zcf : jC Tryz.prog 121 zhd:=tiq Tryz.t121 Tryz.underlying121
def zhc : TI:=⟨.ptr 54,1,8,some (.atom (.pointer none)),false⟩
theorem zce : jC Tryz.prog 123 zhc:=tiq Tryz.t123 Tryz.underlying123
def zhb : TI:=⟨.struct [(0,1),(1,1)],2,16,some (.agg [.atom (.int .i64 0),.atom .nilFunc]),false⟩
theorem zcd : jC Tryz.prog 125 zhb:=tiq Tryz.t125 ⟨_,Tryz.underlying125,by kernel_rfl,by
  intro f hf
  simp only [List.mem_cons,List.not_mem_nil,or_false] at hf
  rcases hf with rfl | rfl
  ·exact ⟨Tryz.t40,by kernel_rfl⟩
  ·exact ⟨Tryz.t49,by kernel_rfl⟩⟩
def zha : TI:=⟨.array 3 125,6,48,some (.agg [.agg [.atom (.int .i64 0),.atom .nilFunc],.agg [.atom (.int .i64 0),.atom .nilFunc],.agg [.atom (.int .i64 0),.atom .nilFunc]]),false⟩
theorem zcc : jC Tryz.prog 126 zha:=tiq Tryz.t126 Tryz.underlying126
def zh9 : TI:=⟨.struct [(0,1),(1,1),(2,1)],3,40,some (.agg [.osl 16 true [],.atom (.int .i64 0),.atom (.int .i64 0)]),false⟩
theorem zcb : jC Tryz.prog 140 zh9:=tiq Tryz.t140 ⟨_,Tryz.underlying140,by kernel_rfl,by
  intro f hf
  simp only [List.mem_cons,List.not_mem_nil,or_false] at hf
  rcases hf with rfl | rfl | rfl
  ·exact ⟨Tryz.t139,by kernel_rfl⟩
  ·exact ⟨Tryz.t3,by kernel_rfl⟩
  ·exact ⟨Tryz.t3,by kernel_rfl⟩⟩
def zh8 : TI:=⟨.struct [(0,1),(1,1),(2,1)],3,40,some (.agg [.osl 16 true [],.atom (.int .i64 0),.atom (.int .i64 0)]),false⟩
theorem zca : jC Tryz.prog 141 zh8:=tiq Tryz.t141 ⟨_,Tryz.underlying141,by kernel_rfl,by
  intro f hf
  simp only [List.mem_cons,List.not_mem_nil,or_false] at hf
  rcases hf with rfl | rfl | rfl
  ·exact ⟨Tryz.t139,by kernel_rfl⟩
  ·exact ⟨Tryz.t3,by kernel_rfl⟩
  ·exact ⟨Tryz.t3,by kernel_rfl⟩⟩
def zh7 : TI:=⟨.other,1,8,some (.atom .nilFunc),false⟩
theorem zc9 : jC Tryz.prog 150 zh7:=tiq Tryz.t150 ⟨_,Tryz.underlying150,rfl⟩
def zh6 : TI:=⟨.other,1,8,some (.atom .nilFunc),false⟩
theorem zc8 : jC Tryz.prog 156 zh6:=tiq Tryz.t156 ⟨_,Tryz.underlying156,rfl⟩
def zh5 : TI:=⟨.array 2 3,2,16,some (.agg [.atom (.int .i64 0),.atom (.int .i64 0)]),true⟩
theorem zc7 : jC Tryz.prog 158 zh5:=tiq Tryz.t158 Tryz.underlying158 (fun _ => z6Q Go.Ex.ziH rfl rfl)
def zh4 : TI:=⟨.slice 158,1,24,some (.osl 2 true []),false⟩
theorem zc6 : jC Tryz.prog 159 zh4:=tiq Tryz.t159 Tryz.underlying159
def zh3 : TI:=⟨.other,1,8,some (.atom .nilFunc),false⟩
theorem zc5 : jC Tryz.prog 165 zh3:=tiq Tryz.t165 ⟨_,Tryz.underlying165,rfl⟩
def zh2 : TI:=⟨.other,1,8,some (.atom .nilFunc),false⟩
theorem zc4 : jC Tryz.prog 188 zh2:=tiq Tryz.t188 ⟨_,Tryz.underlying188,rfl⟩
def zh1 : TI:=⟨.other,1,8,some (.atom .nilFunc),false⟩
theorem zc3 : jC Tryz.prog 193 zh1:=tiq Tryz.t193 ⟨_,Tryz.underlying193,rfl⟩
def zh0 : TI:=⟨.other,1,8,some (.atom .nilFunc),false⟩
theorem zc2 : jC Tryz.prog 194 zh0:=tiq Tryz.t194 ⟨_,Tryz.underlying194,rfl⟩
def zgY : TI:=⟨.other,1,8,some (.atom .nilFunc),false⟩
theorem zc1 : jC Tryz.prog 208 zgY:=tiq Tryz.t208 ⟨_,Tryz.underlying208,rfl⟩
def zgX : TI:=⟨.other,1,8,some (.atom .nilFunc),false⟩
theorem zc0 : jC Tryz.prog 209 zgX:=tiq Tryz.t209 ⟨_,Tryz.underlying209,rfl⟩
def zgW : TI:=⟨.other,1,8,some (.atom .nilFunc),false⟩
theorem zbZ : jC Tryz.prog 213 zgW:=tiq Tryz.t213 ⟨_,Tryz.underlying213,rfl⟩
def zgV : TI:=⟨.other,1,8,some (.atom .nilFunc),false⟩
theorem zbY : jC Tryz.prog 228 zgV:=tiq Tryz.t228 ⟨_,Tryz.underlying228,rfl⟩
def zgU : TI:=⟨.other,1,8,some (.atom (.map none)),false⟩
theorem zbX : jC Tryz.prog 229 zgU:=tiq Tryz.t229 ⟨_,Tryz.underlying229,rfl⟩
def zgT : TI:=⟨.array 16 158,32,256,some (.agg [.agg [.atom (.int .i64 0),.atom (.int .i64 0)],.agg [.atom (.int .i64 0),.atom (.int .i64 0)],.agg [.atom (.int .i64 0),.atom (.int .i64 0)],.agg [.atom (.int .i64 0),.atom (.int .i64 0)],.agg [.atom (.int .i64 0),.atom (.int .i64 0)],.agg [.atom (.int .i64 0),.atom (.int .i64 0)],.agg [.atom (.int .i64 0),.atom (.int .i64 0)],.agg [.atom (.int .i64 0),.atom (.int .i64 0)],.agg [.atom (.int .i64 0),.atom (.int .i64 0)],.agg [.atom (.int .i64 0),.atom (.int .i64 0)],.agg [.atom (.int .i64 0),.atom (.int .i64 0)],.agg [.atom (.int .i64 0),.atom (.int .i64 0)],.agg [.atom (.int .i64 0),.atom (.int .i64 0)],.agg [.atom (.int .i64 0),.atom (.int .i64 0)],.agg [.atom (.int .i64 0),.atom (.int .i64 0)],.agg [.atom (.int .i64 0),.atom (.int .i64 0)]]),true⟩
theorem zbW : jC Tryz.prog 231 zgT:=tiq Tryz.t231 Tryz.underlying231 (fun _ => z6Q Go.Ex.ziG rfl rfl)
def zgS : TI:=⟨.struct [(0,1),(1,32)],33,264,some (.agg [.atom (.int .i64 0),.agg [.agg [.atom (.int .i64 0),.atom (.int .i64 0)],.agg [.atom (.int .i64 0),.atom (.int .i64 0)],.agg [.atom (.int .i64 0),.atom (.int .i64 0)],.agg [.atom (.int .i64 0),.atom (.int .i64 0)],.agg [.atom (.int .i64 0),.atom (.int .i64 0)],.agg [.atom (.int .i64 0),.atom (.int .i64 0)],.agg [.atom (.int .i64 0),.atom (.int .i64 0)],.agg [.atom (.int .i64 0),.atom (.int .i64 0)],.agg [.atom (.int .i64 0),.atom (.int .i64 0)],.agg [.atom (.int .i64 0),.atom (.int .i64 0)],.agg [.atom (.int .i64 0),.atom (.int .i64 0)],.agg [.atom (.int .i64 0),.atom (.int .i64 0)],.agg [.atom (.int .i64 0),.atom (.int .i64 0)],.agg [.atom (.int .i64 0),.atom (.int .i64 0)],.agg [.atom (.int .i64 0),.atom (.int .i64 0)],.agg [.atom (.int .i64 0),.atom (.int .i64 0)]]]),true⟩
theorem z7V : jC Tryz.prog 234 zgS:=tiq Tryz.t234 ⟨_,Tryz.underlying234,by kernel_rfl,by
  intro f hf
  simp only [List.mem_cons,List.not_mem_nil,or_false] at hf
  rcases hf with rfl | rfl
  ·exact ⟨Tryz.t3,by kernel_rfl⟩
  ·exact ⟨Tryz.t231,by kernel_rfl⟩⟩ (fun _ => z6Q Go.Ex.zjD rfl rfl)
def tiL : List (Nat × TI):=[(1,ti1),(2,ti2),(3,ti3),(4,ti4),(5,ti5),(9,ti9),(20,zjz),(22,zjy),(23,zjx),(25,zjw),(27,zjv),(28,zju),(29,zjt),(30,zjs),(31,zjr),(32,zjq),(33,zjp),(34,zjo),(37,zjn),(40,zjm),(49,zjl),(54,zjk),(57,zjj),(68,zji),(70,zjh),(71,zjg),(72,zjf),(80,zje),(87,zjd),(88,zjc),(96,zjb),(97,zja),(98,zj9),(108,zhg),(110,zhf),(111,zhe),(121,zhd),(123,zhc),(125,zhb),(126,zha),(140,zh9),(141,zh8),(150,zh7),(156,zh6),(158,zh5),(159,zh4),(165,zh3),(188,zh2),(193,zh1),(194,zh0),(208,zgY),(209,zgX),(213,zgW),(228,zgV),(229,zgU),(231,zgT),(234,zgS)]
def Ve : TT:=fun t => (tiL.find? fun p => p.1 == t).map (·.2)
def zbH (P : Program) : List (Nat × TI) → Prop
 | [] => True
 | p :: l => jC P p.1 p.2 ∧ zbH P l
theorem zbH.mem : ∀ {l : List (Nat × TI)},zbH P l → ∀ p ∈ l,jC P p.1 p.2
 | p :: _,h,q,hq => by
  rcases List.mem_cons.1 hq with rfl | hq
  ·exact h.1
  ·exact zbH.mem h.2 q hq
 | [],_,_,hq => by cases hq
theorem zgM : zbH Tryz.prog tiL:=⟨zgZ,zgR,zgQ,zgP,zgO,zgN,zf4,zf3,zf2,zf1,zf0,zeZ,zeY,zeX,zeW,zeV,zeU,zeT,zeS,zeR,zeQ,zeP,zeO,zeN,zeM,zeL,zeK,zeJ,zeI,zeH,zeG,zeF,zeE,zci,zch,zcg,zcf,zce,zcd,zcc,zcb,zca,zc9,zc8,zc7,zc6,zc5,zc4,zc3,zc2,zc1,zc0,zbZ,zbY,zbX,zbW,z7V,trivial⟩
theorem y4 : wR Tryz.prog Ve:=by
 intro t i h
 unfold Ve at h
 rw [Option.map_eq_some_iff] at h
 obtain ⟨p,h1,rfl⟩:=h
 have h2:=List.find?_some h1
 have h3:=zgM.mem p (List.mem_of_find?_eq_some h1)
 rw [beq_iff_eq.1 h2] at h3
 exact h3
structure ye (α : Type) where
 e0 : α
 e1 : α
 deriving DecidableEq
instance {α : Type} [BEq α] : BEq (ye α):=⟨fun x y => (x.e0 == y.e0) && (x.e1 == y.e1)⟩
section
variable {α : Type}
def UA (f : α → A) (x : ye α) : A:=.agg [f x.e0,f x.e1]
instance (f : α → A) [h : ze0 f] : ze0 (UA f):=⟨fun x => by simp [UA,A.isD,A.areD,h.isD]⟩
instance (f g : α → A) [h : Uj f g] : Uj (UA f) (UA g):=⟨fun x => by simp [UA,A.loose,A.looses,h.lo]⟩
instance (f g : α → A) [h : z92 f g] : z92 (UA f) (UA g):=⟨fun x => by simp [UA,A.live,A.lives,h.live],fun x => by simp [UA,A.shut,A.shuts,h.sh]⟩
instance (f : α → A) [h : Yp f] : Yp (UA f):=⟨fun x y q => by
 simp only [UA,A.agg.injEq,List.cons.injEq,and_true] at q
 cases x; cases y
 simp only [ye.mk.injEq]
 exact ⟨h.inj _ _ q.1,h.inj _ _ q.2⟩⟩
end
structure yj (α : Type) where
 e0 : α
 e1 : α
 e2 : α
 e3 : α
 e4 : α
 e5 : α
 e6 : α
 e7 : α
 e8 : α
 e9 : α
 e10 : α
 e11 : α
 e12 : α
 e13 : α
 e14 : α
 e15 : α
 deriving DecidableEq
instance {α : Type} [BEq α] : BEq (yj α):=⟨fun x y => (x.e0 == y.e0) && (x.e1 == y.e1) && (x.e2 == y.e2) && (x.e3 == y.e3) && (x.e4 == y.e4) && (x.e5 == y.e5) && (x.e6 == y.e6) && (x.e7 == y.e7) && (x.e8 == y.e8) && (x.e9 == y.e9) && (x.e10 == y.e10) && (x.e11 == y.e11) && (x.e12 == y.e12) && (x.e13 == y.e13) && (x.e14 == y.e14) && (x.e15 == y.e15)⟩
section
variable {α : Type}
def zb4 (f : α → A) (x : yj α) : A:=.agg [f x.e0,f x.e1,f x.e2,f x.e3,f x.e4,f x.e5,f x.e6,f x.e7,f x.e8,f x.e9,f x.e10,f x.e11,f x.e12,f x.e13,f x.e14,f x.e15]
end
section
variable {α : Type}
def yj.toL (x : yj α) : List α:=[x.e0,x.e1,x.e2,x.e3,x.e4,x.e5,x.e6,x.e7,x.e8,x.e9,x.e10,x.e11,x.e12,x.e13,x.e14,x.e15]
def yj.ofL : List α → yj α → yj α
 | [x0,x1,x2,x3,x4,x5,x6,x7,x8,x9,dg,ix,x12,gf,gu,dh],_ => ⟨x0,x1,x2,x3,x4,x5,x6,x7,x8,x9,dg,ix,x12,gf,gu,dh⟩
 | _,d => d
theorem yj.toL_ofL (l : List α) (d : yj α) (h : l.length = 16) : (yj.ofL l d).toL = l:=by
 match l,h with
 | [x0,x1,x2,x3,x4,x5,x6,x7,x8,x9,dg,ix,x12,gf,gu,dh],_ => rfl
def yj.setI (x : yj α) (i : Int) (v : α) : yj α:=yj.ofL (x.toL.set i.toNat v) x
theorem yj.setL (f : α → A) (x : yj α) (i : Int) (v : α) : (x.toL.map f).set i.toNat (f v) = ((yj.setI x i v).toL).map f:=by
 unfold yj.setI
 rw [yj.toL_ofL _ _ (by simp [yj.toL]),List.map_set]
end
structure zu where
 States : Int
 Inputs : Int
 Outputs : Int
 Tree : List Int
 Edges : List Int
def qE (f0 : Int → A) (f1 : Int → A) (f2 : Int → A) (f3 : List Int → A) (f4 : List Int → A) (x : zu) : A:=.agg [f0 x.States,f1 x.Inputs,f2 x.Outputs,f3 x.Tree,f4 x.Edges]
instance (f0 : Int → A) (f1 : Int → A) (f2 : Int → A) (f3 : List Int → A) (f4 : List Int → A) (g0 : Int → A) (g1 : Int → A) (g2 : Int → A) (g3 : List Int → A) (g4 : List Int → A) [h0 : Uj f0 g0] [h1 : Uj f1 g1] [h2 : Uj f2 g2] [h3 : Uj f3 g3] [h4 : Uj f4 g4] : Uj (qE f0 f1 f2 f3 f4) (qE g0 g1 g2 g3 g4):=⟨fun x => by simp [qE,A.loose,A.looses,h0.lo,h1.lo,h2.lo,h3.lo,h4.lo]⟩
instance (f0 : Int → A) (f1 : Int → A) (f2 : Int → A) (f3 : List Int → A) (f4 : List Int → A) [h0 : Yp f0] [h1 : Yp f1] [h2 : Yp f2] [h3 : Yp f3] [h4 : Yp f4] : Yp (qE f0 f1 f2 f3 f4):=⟨fun x y h => by
 simp only [qE,A.agg.injEq,List.cons.injEq,and_true] at h
 cases x; cases y
 simp only [zu.mk.injEq]
 exact ⟨h0.inj _ _ h.1,h1.inj _ _ h.2.1,h2.inj _ _ h.2.2.1,h3.inj _ _ h.2.2.2.1,h4.inj _ _ h.2.2.2.2⟩⟩
structure wH where
 C : zu
def qD (f0 : zu → A) (x : wH) : A:=.agg [f0 x.C]
instance (f0 : zu → A) (g0 : zu → A) [h0 : Uj f0 g0] : Uj (qD f0) (qD g0):=⟨fun x => by simp [qD,A.loose,A.looses,h0.lo]⟩
instance (f0 : zu → A) [h0 : Yp f0] : Yp (qD f0):=⟨fun x y h => by
 simp only [qD,A.agg.injEq,List.cons.injEq,and_true] at h
 cases x; cases y
 simp only [wH.mk.injEq]
 exact h0.inj _ _ h⟩
structure yf where
 Inputs : Int
 Words : List (List Int)
def Yi (f0 : Int → A) (f1 : List (List Int) → A) (x : yf) : A:=.agg [f0 x.Inputs,f1 x.Words]
instance (f0 : Int → A) (f1 : List (List Int) → A) (g0 : Int → A) (g1 : List (List Int) → A) [h0 : Uj f0 g0] [h1 : Uj f1 g1] : Uj (Yi f0 f1) (Yi g0 g1):=⟨fun x => by simp [Yi,A.loose,A.looses,h0.lo,h1.lo]⟩
instance (f0 : Int → A) (f1 : List (List Int) → A) [h0 : Yp f0] [h1 : Yp f1] : Yp (Yi f0 f1):=⟨fun x y h => by
 simp only [Yi,A.agg.injEq,List.cons.injEq,and_true] at h
 cases x; cases y
 simp only [yf.mk.injEq]
 exact ⟨h0.inj _ _ h.1,h1.inj _ _ h.2⟩⟩
structure z5 where
 To : Int
 Out : Int
def wj (f0 : Int → A) (f1 : Int → A) (x : z5) : A:=.agg [f0 x.To,f1 x.Out]
instance (f0 : Int → A) (f1 : Int → A) [h0 : ze0 f0] [h1 : ze0 f1] : ze0 (wj f0 f1):=⟨fun x => by simp [wj,A.isD,A.areD,h0.isD,h1.isD]⟩
instance (f0 : Int → A) (f1 : Int → A) (g0 : Int → A) (g1 : Int → A) [h0 : Uj f0 g0] [h1 : Uj f1 g1] : Uj (wj f0 f1) (wj g0 g1):=⟨fun x => by simp [wj,A.loose,A.looses,h0.lo,h1.lo]⟩
instance (f0 : Int → A) (f1 : Int → A) (g0 : Int → A) (g1 : Int → A) [h0 : z92 f0 g0] [h1 : z92 f1 g1] : z92 (wj f0 f1) (wj g0 g1):=⟨fun x => by simp [wj,A.live,A.lives,h0.live,h1.live],fun x => by simp [wj,A.shut,A.shuts,h0.sh,h1.sh]⟩
instance (f0 : Int → A) (f1 : Int → A) [h0 : Yp f0] [h1 : Yp f1] : Yp (wj f0 f1):=⟨fun x y h => by
 simp only [wj,A.agg.injEq,List.cons.injEq,and_true] at h
 cases x; cases y
 simp only [z5.mk.injEq]
 exact ⟨h0.inj _ _ h.1,h1.inj _ _ h.2⟩⟩
structure z4 where
 Inputs : Int
 Outputs : Int
 Rows : List (List z5)
def y5 (f0 : Int → A) (f1 : Int → A) (f2 : List (List z5) → A) (x : z4) : A:=.agg [f0 x.Inputs,f1 x.Outputs,f2 x.Rows]
instance (f0 : Int → A) (f1 : Int → A) (f2 : List (List z5) → A) (g0 : Int → A) (g1 : Int → A) (g2 : List (List z5) → A) [h0 : Uj f0 g0] [h1 : Uj f1 g1] [h2 : Uj f2 g2] : Uj (y5 f0 f1 f2) (y5 g0 g1 g2):=⟨fun x => by simp [y5,A.loose,A.looses,h0.lo,h1.lo,h2.lo]⟩
instance (f0 : Int → A) (f1 : Int → A) (f2 : List (List z5) → A) [h0 : Yp f0] [h1 : Yp f1] [h2 : Yp f2] : Yp (y5 f0 f1 f2):=⟨fun x y h => by
 simp only [y5,A.agg.injEq,List.cons.injEq,and_true] at h
 cases x; cases y
 simp only [z4.mk.injEq]
 exact ⟨h0.inj _ _ h.1,h1.inj _ _ h.2.1,h2.inj _ _ h.2.2⟩⟩
instance (f0 : Int → A) (f1 : Int → A) (f2 : List (List z5) → A) (g0 : Int → A) (g1 : Int → A) (g2 : List (List z5) → A) (x : z4) [∀ y,LeA (f0 y) (g0 y)] [∀ y,LeA (f1 y) (g1 y)] [∀ y,LeA (f2 y) (g2 y)] [∀ y,SzA (f0 y) (g0 y)] [∀ y,SzA (f1 y) (g1 y)] [∀ y,SzA (f2 y) (g2 y)] : LeA (y5 f0 f1 f2 x) (y5 g0 g1 g2 x):=by unfold y5; infer_instance
structure zn where
 block_ : Int
 signature_ : yj (ye Int)
instance : BEq zn:=⟨fun x y => (x.block_ == y.block_) && (x.signature_ == y.signature_)⟩
def VJ (f0 : Int → A) (f1 : yj (ye Int) → A) (x : zn) : A:=.agg [f0 x.block_,f1 x.signature_]
structure zS where
 m_ : z4
 l_ : List (List Int)
 found_ : Unit
def xH (f0 : z4 → A) (f1 : List (List Int) → A) (f2 : Unit → A) (x : zS) : A:=.agg [f0 x.m_,f1 x.l_,f2 x.found_]
instance (f0 : z4 → A) (f1 : List (List Int) → A) (f2 : Unit → A) (g0 : z4 → A) (g1 : List (List Int) → A) (g2 : Unit → A) [h0 : Uj f0 g0] [h1 : Uj f1 g1] [h2 : Uj f2 g2] : Uj (xH f0 f1 f2) (xH g0 g1 g2):=⟨fun x => by simp [xH,A.loose,A.looses,h0.lo,h1.lo,h2.lo]⟩
instance (f0 : z4 → A) (f1 : List (List Int) → A) (f2 : Unit → A) [h0 : Yp f0] [h1 : Yp f1] [h2 : Yp f2] : Yp (xH f0 f1 f2):=⟨fun x y h => by
 simp only [xH,A.agg.injEq,List.cons.injEq,and_true] at h
 cases x; cases y
 simp only [zS.mk.injEq]
 exact ⟨h0.inj _ _ h.1,h1.inj _ _ h.2,trivial⟩⟩
instance : zk7 (K:=zn) (VJ (eI .i64) (zb4 (UA (eI .i64)))):=⟨fun x y => by
 obtain ⟨_,⟨⟨_,_⟩,⟨_,_⟩,⟨_,_⟩,⟨_,_⟩,⟨_,_⟩,⟨_,_⟩,⟨_,_⟩,⟨_,_⟩,⟨_,_⟩,⟨_,_⟩,⟨_,_⟩,⟨_,_⟩,⟨_,_⟩,⟨_,_⟩,⟨_,_⟩,⟨_,_⟩⟩⟩:=x
 obtain ⟨_,⟨⟨_,_⟩,⟨_,_⟩,⟨_,_⟩,⟨_,_⟩,⟨_,_⟩,⟨_,_⟩,⟨_,_⟩,⟨_,_⟩,⟨_,_⟩,⟨_,_⟩,⟨_,_⟩,⟨_,_⟩,⟨_,_⟩,⟨_,_⟩,⟨_,_⟩,⟨_,_⟩⟩⟩:=y
 simp only [zb4,UA,VJ,eI,z2e,z5i,z5i.keyLs,zT,BEq.beq,Option.map_some,Option.some.injEq,Value.agg.injEq,List.cons_append,List.nil_append,List.append_nil,Array.mk.injEq,List.cons.injEq,Value.int.injEq,true_and,and_true,Bool.and_eq_true,decide_eq_true_eq,and_assoc]⟩
def jJ (l_ : List Int) (k_ : Int) : Option Int :=
 bif decide (k_ < ((l_.length : Nat) : Int)) then (
  (idx l_ k_).bind fun bj =>
  some (w64 (bj)))
 else (
  some 0)
def X1 (x_ : zu) (bf : List (List z5)) : Option z4 :=
 some (z4.mk (w64 (1 + (w64 (Int.tmod x_.Inputs 3)))) (w64 (1 + (w64 (Int.tmod x_.Outputs 3)))) bf)
abbrev R0_ : Type:=Option (LR (List (List z5) × Int) (List (List z5)))
def YZ (s_ : Int) (cr : List (List z5)) : R0_ :=
 some (.next (cr,w64 (s_ + 1)))
def Zh (i_ : Int) (io : List (List z5)) : R0_ :=
 some (.next (io,w64 (i_ + 1)))
def uU (x_ : zu) (s_ : Int) (de : List (List z5)) (i_ : Int) : R0_ :=
 bif decide (i_ < (w64 (1 + (w64 (Int.tmod x_.Inputs 3))))) then (
  (idx de s_).bind fun k9 =>
  (idx k9 i_).bind fun j6 =>
  bif decide (j6.To < 0) then (
   (idx de s_).bind fun gl =>
   (jJ x_.Edges (w64 ((w64 (s_ * (w64 (1 + (w64 (Int.tmod x_.Inputs 3)))))) + i_))).bind fun r_ =>
   gd (((w64 (1 + (w64 (Int.tmod x_.States 6)))) : Int) ≠ 0) <|
   (idx gl i_).bind fun gg =>
   Zh i_ (de.set s_.toNat (gl.set i_.toNat (z5.mk (Int.tmod r_ (w64 (1 + (w64 (Int.tmod x_.States 6))))) gg.Out))))
  else (
   Zh i_ de))
 else (
  some (.done de))
def uV (x_ : zu) (da : List (List z5)) (s_ : Int) : R0_ :=
 bif decide (s_ < (w64 (1 + (w64 (Int.tmod x_.States 6))))) then (
  (loop (fun s => uU x_ s_ s.1 s.2) (da,0)).bind fun t6 =>
  YZ s_ t6)
 else (
  some (.done da))
def X2 (x_ : zu) (bp : List (List z5)) : Option z4 :=
 (loop (fun s => uV x_ s.1 s.2) (bp,0)).bind fun t4 =>
 X1 x_ t4
def YX (ax : Int) (ip : List (List z5)) : R0_ :=
 some (.next (ip,w64 (ax + 1)))
def wN (x_ : zu) (az : List (List z5)) (ax : Int) (k_ : Int) : R0_ :=
 gd (((w64 (1 + (w64 (Int.tmod x_.Inputs 3)))) : Int) ≠ 0) <|
 (idx az (w64 (Int.tdiv k_ (w64 (1 + (w64 (Int.tmod x_.Inputs 3))))))).bind fun gm =>
 gd (((w64 (1 + (w64 (Int.tmod x_.Inputs 3)))) : Int) ≠ 0) <|
 (idx gm (Int.tmod k_ (w64 (1 + (w64 (Int.tmod x_.Inputs 3)))))).bind fun gh =>
 YX ax (az.set (w64 (Int.tdiv k_ (w64 (1 + (w64 (Int.tmod x_.Inputs 3)))))).toNat (gm.set (Int.tmod k_ (w64 (1 + (w64 (Int.tmod x_.Inputs 3))))).toNat (z5.mk ax gh.Out)))
def Y3 (x_ : zu) (az : List (List z5)) (ax : Int) (free : List Int) : R0_ :=
 (idx free 0).bind fun ji =>
 bif decide ((w64 (ax - 1)) < ((x_.Tree.length : Nat) : Int)) then (
  (idx x_.Tree (w64 (ax - 1))).bind fun lm =>
  gd ((((free.length : Nat) : Int) : Int) ≠ 0) <|
  (idx free (Int.tmod (w64 (lm)) ((free.length : Nat) : Int))).bind fun jz =>
  wN x_ az ax jz)
 else (
  wN x_ az ax ji)
abbrev R1_ : Type:=Option (LR (List Int × Int) (List Int))
def qC (ap : Int) (jj : List Int) : R1_ :=
 some (.next (jj,w64 (ap + 1)))
def vM (x_ : zu) (az : List (List z5)) (ax : Int) (ft : List Int) (ap : Int) : R1_ :=
 bif decide (ap < (w64 (ax * (w64 (1 + (w64 (Int.tmod x_.Inputs 3))))))) then (
  gd (((w64 (1 + (w64 (Int.tmod x_.Inputs 3)))) : Int) ≠ 0) <|
  (idx az (w64 (Int.tdiv ap (w64 (1 + (w64 (Int.tmod x_.Inputs 3))))))).bind fun ke =>
  gd (((w64 (1 + (w64 (Int.tmod x_.Inputs 3)))) : Int) ≠ 0) <|
  (idx ke (Int.tmod ap (w64 (1 + (w64 (Int.tmod x_.Inputs 3)))))).bind fun jk =>
  bif decide (jk.To < 0) then (
   gd (ft.length + [ap].length ≤ 4294967296) <|
   qC ap (ft ++ [ap]))
  else (
   qC ap ft))
 else (
  some (.done ft))
def uT (x_ : zu) (az : List (List z5)) (ax : Int) : R0_ :=
 bif decide (ax < (w64 (1 + (w64 (Int.tmod x_.States 6))))) then (
  (loop (fun s => vM x_ az ax s.1 s.2) (([] : List Int),0)).bind fun t12 =>
  Y3 x_ az ax t12)
 else (
  some (.done az))
def X3 (x_ : zu) (cm : List (List z5)) : Option z4 :=
 (loop (fun s => uT x_ s.1 s.2) (cm,1)).bind fun t8 =>
 X2 x_ t8
def Y2 (br : Int) (gz : List (List z5)) : R0_ :=
 some (.next (gz,w64 (br + 1)))
def Y1 (bq : List (List z5)) (br : Int) (row : List z5) : R0_ :=
 gd (bq.length + [row].length ≤ 4294967296) <|
 Y2 br (bq ++ [row])
abbrev R2_ : Type:=Option (LR (List z5 × Int) (List z5))
def vK (x_ : zu) (br : Int) (ay : List z5) (jl : Int) : R2_ :=
 bif decide (jl < (w64 (1 + (w64 (Int.tmod x_.Inputs 3))))) then (
  (jJ x_.Edges (w64 ((w64 (br * (w64 (1 + (w64 (Int.tmod x_.Inputs 3)))))) + jl))).bind fun aj =>
  gd (((w64 (1 + (w64 (Int.tmod x_.States 6)))) : Int) ≠ 0) <|
  gd (((w64 (1 + (w64 (Int.tmod x_.Outputs 3)))) : Int) ≠ 0) <|
  gd (ay.length + ([(z5.mk (-1) (Int.tmod (w64 (Int.tdiv aj (w64 (1 + (w64 (Int.tmod x_.States 6)))))) (w64 (1 + (w64 (Int.tmod x_.Outputs 3))))))] : List z5).length ≤ 4294967296) <|
  some (.next ((ay ++ ([(z5.mk (-1) (Int.tmod (w64 (Int.tdiv aj (w64 (1 + (w64 (Int.tmod x_.States 6)))))) (w64 (1 + (w64 (Int.tmod x_.Outputs 3))))))] : List z5)),w64 (jl + 1))))
 else (
  some (.done ay))
def vL (x_ : zu) (bq : List (List z5)) (br : Int) : R0_ :=
 bif decide (br < (w64 (1 + (w64 (Int.tmod x_.States 6))))) then (
  (loop (fun s => vK x_ br s.1 s.2) (([] : List z5),0)).bind fun t17 =>
  Y1 bq br t17)
 else (
  some (.done bq))
def V4 (x_ : zu) : Option z4 :=
 gd ((6 : Int) ≠ 0) <|
 gd ((3 : Int) ≠ 0) <|
 gd ((3 : Int) ≠ 0) <|
 (loop (fun s => vL x_ s.1 s.2) (([] : List (List z5)),0)).bind fun nq =>
 X3 x_ nq
def Wx : Option Int :=
 some 0
abbrev R3_ : Type:=Option (LR Int (Unit ⊕ Int))
def vH (i_ : Int) (mh : Int) (ia : Bool) (mi : Bool) (mj : Bool) (ml : Bool) (mp : Bool) : R3_ :=
 some (.next (w64 (i_ + 1)))
def vG (m_ : z4) (au : List (List Bool)) (s_ : Int) (t_ : Int) (i_ : Int) : R3_ :=
 bif decide (i_ < m_.Inputs) then (
  (idx m_.Rows s_).bind fun am =>
  (idx am i_).bind fun ai =>
  (idx m_.Rows t_).bind fun bu =>
  (idx bu i_).bind fun aq =>
  bif ai.Out != aq.Out then (
   some (.done (.inr 1)))
  else (
   bif decide (ai.To ≥ 0) then (
    bif decide (aq.To ≥ 0) then (
     (idx au ai.To).bind fun ew =>
     (idx ew aq.To).bind fun cw =>
     bif cw then (
      some (.done (.inr 1)))
     else (
      vH i_ ai.To (decide (ai.To ≥ 0)) (decide (ai.To ≥ 0)) (decide (aq.To ≥ 0)) (decide (aq.To ≥ 0)) cw))
    else (
     vH i_ ai.To (decide (ai.To ≥ 0)) (decide (ai.To ≥ 0)) (decide (aq.To ≥ 0)) (decide (aq.To ≥ 0)) false))
   else (
    vH i_ ai.To (decide (ai.To ≥ 0)) (decide (ai.To ≥ 0)) false false false)))
 else (
  some (.done (.inl ())))
def XA (m_ : z4) (au : List (List Bool)) (s_ : Int) (t_ : Int) : Option Int :=
 (loop (fun s => vG m_ au s_ t_ s) 0).bind fun t2 =>
 match t2 with
 | .inl p => Wx
 | .inr p => some p
abbrev R4_ : Type:=Option (List (List Bool))
def kP (jd : List (List Bool)) : R4_ :=
 some jd
abbrev R5_ : Type:=Option (LR (List (List Bool) × Int) (List (List Bool)))
def kO (round : Int) (iq : List (List Bool)) : R5_ :=
 some (.next (iq,w64 (round + 1)))
def kN (round : Int) (next : List (List Bool)) : R5_ :=
 kO round next
def kM (s_ : Int) (gi : List (List Bool)) : R5_ :=
 some (.next (gi,w64 (s_ + 1)))
def xW (m_ : z4) (bh : List (List Bool)) (s_ : Int) (cd : List (List Bool)) (t_ : Int) : R5_ :=
 bif decide (t_ < ((m_.Rows.length : Nat) : Int)) then (
  (idx cd s_).bind fun ez =>
  (idx bh s_).bind fun ew =>
  (idx ew t_).bind fun cw =>
  bif cw then (
   (idx ez t_).bind fun ma =>
   some (.next ((cd.set s_.toNat (ez.set t_.toNat true)),w64 (t_ + 1))))
  else (
   (XA m_ bh s_ t_).bind fun r_ =>
   (idx ez t_).bind fun ln =>
   some (.next ((cd.set s_.toNat (ez.set t_.toNat (r_ == 1))),w64 (t_ + 1)))))
 else (
  some (.done cd))
def xX (m_ : z4) (bh : List (List Bool)) (db : List (List Bool)) (s_ : Int) : R5_ :=
 bif decide (s_ < ((m_.Rows.length : Nat) : Int)) then (
  gd ((0 : Int) ≤ ((m_.Rows.length : Nat) : Int) ∧ (((m_.Rows.length : Nat) : Int) : Int) ≤ 4294967296) <|
  gd (db.length + [(List.replicate ((m_.Rows.length : Nat) : Int).toNat false)].length ≤ 4294967296) <|
  (loop (fun s => xW m_ bh s_ s.1 s.2) ((db ++ [(List.replicate ((m_.Rows.length : Nat) : Int).toNat false)]),0)).bind fun t8 =>
  kM s_ t8)
 else (
  some (.done db))
def xY (m_ : z4) (k_ : Int) (bh : List (List Bool)) (round : Int) : R5_ :=
 bif decide (round < k_) then (
  (loop (fun s => xX m_ bh s.1 s.2) (([] : List (List Bool)),0)).bind fun t6 =>
  kN round t6)
 else (
  some (.done bh))
def kQ (m_ : z4) (k_ : Int) (au : List (List Bool)) : R4_ :=
 (loop (fun s => xY m_ k_ s.1 s.2) (au,0)).bind fun t3 =>
 kP t3
def xV (m_ : z4) (ff : List (List Bool)) (ax : Int) : R5_ :=
 bif decide (ax < ((m_.Rows.length : Nat) : Int)) then (
  gd ((0 : Int) ≤ ((m_.Rows.length : Nat) : Int) ∧ (((m_.Rows.length : Nat) : Int) : Int) ≤ 4294967296) <|
  gd (ff.length + [(List.replicate ((m_.Rows.length : Nat) : Int).toNat false)].length ≤ 4294967296) <|
  some (.next ((ff ++ [(List.replicate ((m_.Rows.length : Nat) : Int).toNat false)]),w64 (ax + 1))))
 else (
  some (.done ff))
def uB (m_ : z4) (k_ : Int) : R4_ :=
 (loop (fun s => xV m_ s.1 s.2) (([] : List (List Bool)),0)).bind fun t9 =>
 kQ m_ k_ t9
def kL (out : List Int) : Option (List Int) :=
 some out
abbrev R6_ : Type:=Option (LR (List Int × Int × Int) (List Int))
def vW (s_ : Int) (bm : List Int) (ba : Int) : R6_ :=
 some (.next (bm,ba,w64 (s_ + 1)))
def xl (ak : List Int) (s_ : Int) (d9 : Int) (jn : Int) : R6_ :=
 gd (ak.length + [jn].length ≤ 4294967296) <|
 vW s_ (ak ++ [jn]) d9
def vV (ak : List Int) (n_ : Int) (s_ : Int) (b_ : Int) : R6_ :=
 bif decide (b_ < 0) then (
  xl ak s_ (w64 (n_ + 1)) n_)
 else (
  xl ak s_ n_ b_)
abbrev R7_ : Type:=Option (LR (Int × Int) Int)
def wx (t_ : Int) (lp : Int) : R7_ :=
 some (.next (lp,w64 (t_ + 1)))
def ww (au : List (List Bool)) (ak : List Int) (s_ : Int) (j7 : Int) (t_ : Int) : R7_ :=
 bif decide (t_ < s_) then (
  (idx au s_).bind fun ew =>
  (idx ew t_).bind fun cw =>
  bif !cw then (
   (idx ak t_).bind fun eu =>
   wx t_ eu)
  else (
   wx t_ j7))
 else (
  some (.done j7))
def vU (au : List (List Bool)) (ak : List Int) (n_ : Int) (s_ : Int) : R6_ :=
 bif decide (s_ < ((au.length : Nat) : Int)) then (
  (loop (fun s => ww au ak s_ s.1 s.2) ((-1),0)).bind fun t6 =>
  vV ak n_ s_ t6)
 else (
  some (.done ak))
def uA (au : List (List Bool)) : Option (List Int) :=
 (loop (fun s => vU au s.1 s.2.1 s.2.2) (([] : List Int),0,0)).bind fun t2 =>
 kL t2
def Wb (m_ : z4) (k_ : Int) : Option (List Int) :=
 (uB m_ k_).bind fun r_ =>
 (uA r_).bind fun aj =>
 some aj
def uJ (m_ : z4) : Option (List Int) :=
 (Wb m_ ((m_.Rows.length : Nat) : Int)).bind fun r_ =>
 some r_
def Xd (m_ : z4) (s_ : Int) (i_ : Int) : Option z5 :=
 bif decide (s_ < 0) then (
  some (z5.mk (-1) (-1)))
 else (
  (idx m_.Rows s_).bind fun am =>
  (idx am i_).bind fun ai =>
  some ai)
def uO (iy : z4 → Int → (List Int) → Option Int) (m_ : z4) (s_ : Int) (w_ : List Int) : Option Int :=
 bif ((w_.length : Nat) : Int) == 0 then (
  some s_)
 else (
  (idx w_ 0).bind fun dm =>
  (Xd m_ s_ dm).bind fun r_ =>
  gd ((0 : Int) ≤ 1 ∧ (1 : Int) ≤ ((w_.length : Nat) : Int) ∧ (((w_.length : Nat) : Int) : Int) ≤ ((w_.length : Nat) : Int)) <|
  (iy m_ r_.To (w_.drop (1 : Int).toNat)).bind fun aj =>
  some aj)
def kZ (fu : Nat) : z4 → Int → (List Int) → Option Int:=Nat.rec (motive:=fun _ => z4 → Int → (List Int) → Option Int) (fun _ _ _ => none) (fun _ ih => uO ih) fu
def Vz (m_ : z4) (s_ : Int) (w_ : List Int) : Option Int:=kZ (w_.length + 1) m_ s_ w_
def kS (out : List Int) : Option (List Int) :=
 gd (out.length + ([0] : List Int).length ≤ 4294967296) <|
 some (out ++ ([0] : List Int))
def kR (inputs : Int) (ak : List Int) (k_ : Int) : Option (LR (List Int × Int) (List Int ⊕ List Int)) :=
 bif decide (k_ ≥ 0) then (
  (idx ak k_).bind fun eu =>
  bif decide ((w64 (eu + 1)) < inputs) then (
   (idx ak k_).bind fun iz =>
   (idx ak k_).bind fun mq =>
   some (.done (.inr (ak.set k_.toNat (w64 (iz + 1))))))
  else (
   (idx ak k_).bind fun mr =>
   some (.next ((ak.set k_.toNat 0),w64 (k_ - 1)))))
 else (
  some (.done (.inl ak)))
def Xc (w_ : List Int) (inputs : Int) : Option (List Int) :=
 gd (([] : List Int).length + w_.length ≤ 4294967296) <|
 (loop (fun s => kR inputs s.1 s.2) (w_,w64 (((w_.length : Nat) : Int) - 1))).bind fun t2 =>
 match t2 with
 | .inl p => kS p
 | .inr p => some p
abbrev R8_ : Type:=Option (List (List Int) × List Bool)
def ZV (l_ : List (List Int)) (is : List Bool) : R8_ :=
 some (l_,is)
abbrev R9_ : Type:=Option (LR (List (List Int) × List Bool × List Int) ((List (List Int) × List Bool)))
def wM (m_ : z4) (w_ : List Int) (gv : List (List Int)) (lq : List Bool) : R9_ :=
 (Xc w_ m_.Inputs).bind fun r_ =>
 some (.next (gv,lq,r_))
def ZU (m_ : z4) (cn : Int) (fl : List (List Int)) (ib : List Bool) (w_ : List Int) : R9_ :=
 bif decide (((w_.length : Nat) : Int) < ((m_.Rows.length : Nat) : Int)) then (
  (Vz m_ cn w_).bind fun aj =>
  bif decide (aj ≥ 0) then (
   (idx ib aj).bind fun mv =>
   bif !mv then (
    (idx ib aj).bind fun nk =>
    (idx fl aj).bind fun bj =>
    wM m_ w_ (fl.set aj.toNat w_) (ib.set aj.toNat true))
   else (
    wM m_ w_ fl ib))
  else (
   wM m_ w_ fl ib))
 else (
  some (.done (fl,ib)))
def XB (m_ : z4) (cn : Int) : R8_ :=
 gd ((0 : Int) ≤ ((m_.Rows.length : Nat) : Int) ∧ (((m_.Rows.length : Nat) : Int) : Int) ≤ 4294967296) <|
 gd ((0 : Int) ≤ ((m_.Rows.length : Nat) : Int) ∧ (((m_.Rows.length : Nat) : Int) : Int) ≤ 4294967296) <|
 (loop (fun s => ZU m_ cn s.1 s.2.1 s.2.2) ((List.replicate ((m_.Rows.length : Nat) : Int).toNat ([] : List Int)),(List.replicate ((m_.Rows.length : Nat) : Int).toNat false),([] : List Int))).bind fun t2 =>
 ZV t2.1 t2.2
def jI (m_ : z4) : R8_ :=
 (XB m_ 0).bind fun r_ =>
 some (r_.1,r_.2)
def Vx : Option Int :=
 some 0
def kT (a_ : List Int) (b_ : List Int) (i_ : Int) : R3_ :=
 bif decide (i_ < ((a_.length : Nat) : Int)) then (
  (idx a_ i_).bind fun kg =>
  (idx b_ i_).bind fun kh =>
  bif kg != kh then (
   (idx a_ i_).bind fun jo =>
   (idx b_ i_).bind fun jp =>
   bif decide (jo < jp) then (
    some (.done (.inr 1)))
   else (
    some (.done (.inr 0))))
  else (
   some (.next (w64 (i_ + 1)))))
 else (
  some (.done (.inl ())))
def WS (a_ : List Int) (b_ : List Int) : Option Int :=
 bif ((a_.length : Nat) : Int) != ((b_.length : Nat) : Int) then (
  bif decide (((a_.length : Nat) : Int) < ((b_.length : Nat) : Int)) then (
   some 1)
  else (
   some 0))
 else (
  (loop (fun s => kT a_ b_ s) 0).bind fun t2 =>
  match t2 with
  | .inl p => Vx
  | .inr p => some p)
def Wy (out : List Int) : Option (List Int) :=
 some out
def vI (s_ : Int) (bm : List Int) : R1_ :=
 some (.next (bm,w64 (s_ + 1)))
def ZW (ak : List Int) (s_ : Int) (k_ : Int) : R1_ :=
 gd ((0 : Int) ≤ 0 ∧ (0 : Int) ≤ k_ ∧ (k_ : Int) ≤ ((ak.length : Nat) : Int)) <|
 gd (([] : List Int).length + ((ak.drop 0).take (k_.toNat - 0)).length ≤ 4294967296) <|
 gd (((ak.drop 0).take (k_.toNat - 0)).length + [s_].length ≤ 4294967296) <|
 gd ((0 : Int) ≤ k_ ∧ (k_ : Int) ≤ ((ak.length : Nat) : Int) ∧ (((ak.length : Nat) : Int) : Int) ≤ ((ak.length : Nat) : Int)) <|
 gd ((((ak.drop 0).take (k_.toNat - 0)) ++ [s_]).length + (ak.drop k_.toNat).length ≤ 4294967296) <|
 vI s_ ((((ak.drop 0).take (k_.toNat - 0)) ++ [s_]) ++ (ak.drop k_.toNat))
def qu (r_ : List (List Int) × List Bool) (ak : List Int) (s_ : Int) (ap : Int) : Option (LR Int Int) :=
 bif decide (ap < ((ak.length : Nat) : Int)) then (
  (idx ak ap).bind fun eu =>
  (idx r_.1 eu).bind fun mc =>
  (idx r_.1 s_).bind fun md =>
  (WS mc md).bind fun aj =>
  bif aj == 1 then (
   some (.next (w64 (ap + 1))))
  else (
   some (.done ap)))
 else (
  some (.done ap))
def qw (r_ : List (List Int) × List Bool) (ak : List Int) (s_ : Int) : R1_ :=
 bif decide (s_ < ((r_.1.length : Nat) : Int)) then (
  (idx r_.2 s_).bind fun u_ =>
  bif !u_ then (
   vI s_ ak)
  else (
   (loop (fun s => qu r_ ak s_ s) 0).bind fun t5 =>
   ZW ak s_ t5))
 else (
  some (.done ak))
def ZH (m_ : z4) : Option (List Int) :=
 (jI m_).bind fun r_ =>
 (loop (fun s => qw r_ s.1 s.2) (([] : List Int),0)).bind fun t2 =>
 Wy t2
def kK (out : List Int) : Option (List Int) :=
 some out
def wU (k_ : Int) (bm : List Int) : R1_ :=
 some (.next (bm,w64 (k_ + 1)))
def kJ (aj : List Int) (ak : List Int) (k_ : Int) (there : Int) : R1_ :=
 bif there == 0 then (
  (idx aj k_).bind fun dx =>
  gd (ak.length + [dx].length ≤ 4294967296) <|
  wU k_ (ak ++ [dx]))
 else (
  wU k_ ak)
def uw (n_ : Int) (i6 : Int) : R7_ :=
 some (.next (i6,w64 (n_ + 1)))
def uv (r_ : List Int) (aj : List Int) (k_ : Int) (gr : Int) (n_ : Int) : R7_ :=
 bif decide (n_ < k_) then (
  (idx aj n_).bind fun dy =>
  (idx r_ dy).bind fun jq =>
  (idx aj k_).bind fun jr =>
  (idx r_ jr).bind fun me =>
  bif jq == me then (
   uw n_ 1)
  else (
   uw n_ gr))
 else (
  some (.done gr))
def kI (r_ : List Int) (aj : List Int) (ak : List Int) (k_ : Int) : R1_ :=
 bif decide (k_ < ((aj.length : Nat) : Int)) then (
  (loop (fun s => uv r_ aj k_ s.1 s.2) (0,0)).bind fun t5 =>
  kJ aj ak k_ t5)
 else (
  some (.done ak))
def uz (m_ : z4) : Option (List Int) :=
 (uJ m_).bind fun r_ =>
 (ZH m_).bind fun aj =>
 (loop (fun s => kI r_ aj s.1 s.2) (([] : List Int),0)).bind fun t2 =>
 kK t2
def qQ (out : List Bool) : Option (List Bool) :=
 some out
abbrev zgF : Type:=Option (LR (List Bool × Int) (List Bool))
def qP (round : Int) (bm : List Bool) : zgF :=
 some (.next (bm,w64 (round + 1)))
def qO (s_ : Int) (ki : List Bool) : zgF :=
 some (.next (ki,w64 (s_ + 1)))
def wg (i_ : Int) (kj : List Bool) : zgF :=
 some (.next (kj,w64 (i_ + 1)))
def vz (m_ : z4) (s_ : Int) (ga : List Bool) (i_ : Int) : zgF :=
 bif decide (i_ < m_.Inputs) then (
  (idx m_.Rows s_).bind fun am =>
  (idx am i_).bind fun ai =>
  (idx ga s_).bind fun eu =>
  bif eu then (
   bif decide (ai.To ≥ 0) then (
    (idx ga ai.To).bind fun iz =>
    wg i_ (ga.set ai.To.toNat true))
   else (
    wg i_ ga))
  else (
   wg i_ ga))
 else (
  some (.done ga))
def vA (m_ : z4) (i7 : List Bool) (s_ : Int) : zgF :=
 bif decide (s_ < ((m_.Rows.length : Nat) : Int)) then (
  (loop (fun s => vz m_ s_ s.1 s.2) (i7,0)).bind fun t6 =>
  qO s_ t6)
 else (
  some (.done i7))
def qN (m_ : z4) (ak : List Bool) (round : Int) : zgF :=
 bif decide (round < ((m_.Rows.length : Nat) : Int)) then (
  (loop (fun s => vA m_ s.1 s.2) (ak,0)).bind fun t4 =>
  qP round t4)
 else (
  some (.done ak))
def kY (m_ : z4) (cn : Int) : Option (List Bool) :=
 gd ((0 : Int) ≤ ((m_.Rows.length : Nat) : Int) ∧ (((m_.Rows.length : Nat) : Int) : Int) ≤ 4294967296) <|
 (idx (List.replicate ((m_.Rows.length : Nat) : Int).toNat false) cn).bind fun i8 =>
 (loop (fun s => qN m_ s.1 s.2) (((List.replicate ((m_.Rows.length : Nat) : Int).toNat false).set cn.toNat true),0)).bind fun t2 =>
 qQ t2
def Wa (out : List Int) : Option (List Int) :=
 some out
def W9 (s_ : Int) (bm : List Int) : R1_ :=
 some (.next (bm,w64 (s_ + 1)))
def W8 (ak : List Int) (s_ : Int) (k_ : Int) : R1_ :=
 gd (ak.length + [k_].length ≤ 4294967296) <|
 W9 s_ (ak ++ [k_])
def jH (n_ : Int) (lu : Int) : R7_ :=
 some (.next (lu,w64 (n_ + 1)))
def Yd (r_ : List Int) (aj : List Int) (bc : List Bool) (s_ : Int) (ap : Int) (n_ : Int) : R7_ :=
 bif decide (n_ < ((aj.length : Nat) : Int)) then (
  (idx bc s_).bind fun dx =>
  bif dx then (
   (idx aj n_).bind fun dy =>
   (idx r_ dy).bind fun jq =>
   (idx r_ s_).bind fun jr =>
   bif jq == jr then (
    jH n_ n_)
   else (
    jH n_ ap))
  else (
   jH n_ ap))
 else (
  some (.done ap))
def W7 (r_ : List Int) (aj : List Int) (bc : List Bool) (ak : List Int) (s_ : Int) : R1_ :=
 bif decide (s_ < ((r_.length : Nat) : Int)) then (
  (loop (fun s => Yd r_ aj bc s_ s.1 s.2) ((-1),0)).bind fun t5 =>
  W8 ak s_ t5)
 else (
  some (.done ak))
def Us (m_ : z4) : Option (List Int) :=
 (uJ m_).bind fun r_ =>
 (uz m_).bind fun aj =>
 (kY m_ 0).bind fun bc =>
 (loop (fun s => W7 r_ aj bc s.1 s.2) (([] : List Int),0)).bind fun t2 =>
 Wa t2
def qM (m_ : z4) (bw : List (List z5)) : Option z4 :=
 some (z4.mk m_.Inputs m_.Outputs bw)
def qL (k_ : Int) (cx : List (List z5)) : R0_ :=
 some (.next (cx,w64 (k_ + 1)))
def qK (al : List (List z5)) (k_ : Int) (row : List z5) : R0_ :=
 gd (al.length + [row].length ≤ 4294967296) <|
 qL k_ (al ++ [row])
def we (ay : List z5) (i_ : Int) (ai : z5) (dz : Int) : R2_ :=
 gd (ay.length + [(z5.mk dz ai.Out)].length ≤ 4294967296) <|
 some (.next ((ay ++ [(z5.mk dz ai.Out)]),w64 (i_ + 1)))
def vu (m_ : z4) (r_ : List Int) (aj : List Int) (k_ : Int) (ay : List z5) (i_ : Int) : R2_ :=
 bif decide (i_ < m_.Inputs) then (
  (idx r_ k_).bind fun dx =>
  (idx m_.Rows dx).bind fun am =>
  (idx am i_).bind fun ai =>
  bif decide (ai.To ≥ 0) then (
   (idx aj ai.To).bind fun dy =>
   we ay i_ ai dy)
  else (
   we ay i_ ai ai.To))
 else (
  some (.done ay))
def vw (m_ : z4) (r_ : List Int) (aj : List Int) (al : List (List z5)) (k_ : Int) : R0_ :=
 bif decide (k_ < ((r_.length : Nat) : Int)) then (
  (loop (fun s => vu m_ r_ aj k_ s.1 s.2) (([] : List z5),0)).bind fun t5 =>
  qK al k_ t5)
 else (
  some (.done al))
def kH (m_ : z4) : Option z4 :=
 (uz m_).bind fun r_ =>
 (Us m_).bind fun aj =>
 (loop (fun s => vw m_ r_ aj s.1 s.2) (([] : List (List z5)),0)).bind fun t2 =>
 qM m_ t2
def V3 (x_ : wH) : Option z4 :=
 gd ((5 : Int) ≠ 0) <|
 (V4 (zu.mk (Int.tmod x_.C.States 5) x_.C.Inputs x_.C.Outputs x_.C.Tree x_.C.Edges)).bind fun r_ =>
 (kH r_).bind fun aj =>
 some aj
def Xx (n_ : Int) : Option Int :=
 some n_
def yD (m_ : z4) (states : Int) (ba : Int) (i_ : Int) : R7_ :=
 bif decide (i_ < (w64 (states * m_.Inputs))) then (
  some (.next ((mn (w64 ((w64 (ba * states)) * m_.Outputs)) 65537),w64 (i_ + 1))))
 else (
  some (.done ba))
def xc (m_ : z4) (states : Int) : Option Int :=
 bif decide (states > 20) then (
  some 65537)
 else (
  (loop (fun s => yD m_ states s.1 s.2) (1,0)).bind fun t2 =>
  Xx t2)
def XE (s_ : Int) : Option Int :=
 some s_
def Zf (m_ : z4) (ax : Int) : Option (LR Int Int) :=
 bif decide (ax > 1) then (
  (xc m_ ax).bind fun r_ =>
  bif decide (r_ > 5000) then (
   some (.next (w64 (ax - 1))))
  else (
   some (.done ax)))
 else (
  some (.done ax))
def Yg (m_ : z4) (n_ : Int) : Option Int :=
 gd ((3 : Int) ≠ 0) <|
 (loop (fun s => Zf m_ s) (w64 (1 + (w64 (Int.tmod n_ 3))))).bind fun t2 =>
 XE t2
def xo (x_ : yf) : Option Int :=
 gd ((3 : Int) ≠ 0) <|
 some (w64 (1 + (w64 (Int.tmod x_.Inputs 3))))
abbrev zbE : Type:=Option (List (List Int))
def WA (out : List (List Int)) : zbE :=
 some out
abbrev zew : Type:=Option (LR (List (List Int) × Int) (List (List Int)))
def Y0 (i_ : Int) (bm : List (List Int)) : zew :=
 some (.next (bm,w64 (i_ + 1)))
def ZZ (ak : List (List Int)) (i_ : Int) (w_ : List Int) : zew :=
 gd (ak.length + [w_].length ≤ 4294967296) <|
 Y0 i_ (ak ++ [w_])
def vJ (x_ : yf) (i_ : Int) (bz : List Int) (k_ : Int) : R1_ :=
 (idx x_.Words i_).bind fun kl =>
 bif decide (k_ < ((kl.length : Nat) : Int)) then (
  bif decide (k_ < 12) then (
   (idx x_.Words i_).bind fun la =>
   (idx la k_).bind fun gb =>
   (xo x_).bind fun r_ =>
   gd ((r_ : Int) ≠ 0) <|
   gd (bz.length + [Int.tmod (w64 (gb)) r_].length ≤ 4294967296) <|
   some (.next ((bz ++ [Int.tmod (w64 (gb)) r_]),w64 (k_ + 1))))
  else (
   some (.done bz)))
 else (
  some (.done bz))
def qB (x_ : yf) (ak : List (List Int)) (i_ : Int) : zew :=
 bif decide (i_ < ((x_.Words.length : Nat) : Int)) then (
  bif decide (i_ < 40) then (
   (loop (fun s => vJ x_ i_ s.1 s.2) (([] : List Int),0)).bind fun t5 =>
   ZZ ak i_ t5)
  else (
   some (.done ak)))
 else (
  some (.done ak))
def XG (x_ : yf) : zbE :=
 (loop (fun s => qB x_ s.1 s.2) (([] : List (List Int)),0)).bind fun t2 =>
 WA t2
def YC : Option Int :=
 some 0
def vt (a_ : List Int) (b_ : List Int) (i_ : Int) : R3_ :=
 bif decide (i_ < ((a_.length : Nat) : Int)) then (
  (idx a_ i_).bind fun kg =>
  (idx b_ i_).bind fun kh =>
  bif decide (kg < kh) then (
   some (.done (.inr (-1))))
  else (
   (idx a_ i_).bind fun jo =>
   (idx b_ i_).bind fun jp =>
   bif decide (jo > jp) then (
    some (.done (.inr 1)))
   else (
    some (.next (w64 (i_ + 1))))))
 else (
  some (.done (.inl ())))
def uI (a_ : List Int) (b_ : List Int) : Option Int :=
 bif ((a_.length : Nat) : Int) != ((b_.length : Nat) : Int) then (
  bif decide (((a_.length : Nat) : Int) < ((b_.length : Nat) : Int)) then (
   some (-1))
  else (
   some 1))
 else (
  (loop (fun s => vt a_ b_ s) 0).bind fun t2 =>
  match t2 with
  | .inl p => YC
  | .inr p => some p)
def W5 (w_ : List Int) (dj : Int) (fl : List (List Int)) : zbE :=
 gd (([] : List Int).length + w_.length ≤ 4294967296) <|
 (idx fl dj).bind fun bj =>
 some (fl.set dj.toNat w_)
def Yb (dj : Int) (gv : List (List Int)) (i_ : Int) : zew :=
 bif decide (i_ > dj) then (
  (idx gv (w64 (i_ - 1))).bind fun d0 =>
  (idx gv i_).bind fun nl =>
  some (.next ((gv.set i_.toNat d0),w64 (i_ - 1))))
 else (
  some (.done gv))
def jG (l_ : List (List Int)) (w_ : List Int) (dj : Int) : zbE :=
 gd (l_.length + ([[]] : List (List Int)).length ≤ 4294967296) <|
 (loop (fun s => Yb dj s.1 s.2) ((l_ ++ ([[]] : List (List Int))),w64 ((((l_ ++ ([[]] : List (List Int))).length : Nat) : Int) - 1))).bind fun t4 =>
 W5 w_ dj t4
def W6 (l_ : List (List Int)) (w_ : List Int) (dj : Int) : zbE :=
 bif decide (dj < ((l_.length : Nat) : Int)) then (
  (idx l_ dj).bind fun ka =>
  (uI ka w_).bind fun r_ =>
  bif r_ == 0 then (
   some l_)
  else (
   jG l_ w_ dj))
 else (
  jG l_ w_ dj)
def Ya (l_ : List (List Int)) (w_ : List Int) (gn : Int) (ic : Int) : R7_ :=
 bif decide (gn < ic) then (
  gd ((2 : Int) ≠ 0) <|
  (idx l_ (w64 (Int.tdiv (w64 (gn + ic)) 2))).bind fun kb =>
  (uI kb w_).bind fun aj =>
  bif decide (aj < 0) then (
   some (.next (w64 ((w64 (Int.tdiv (w64 (gn + ic)) 2)) + 1),ic)))
  else (
   some (.next (gn,w64 (Int.tdiv (w64 (gn + ic)) 2)))))
 else (
  some (.done gn))
def Ur (l_ : List (List Int)) (w_ : List Int) : zbE :=
 (loop (fun s => Ya l_ w_ s.1 s.2) (0,((l_.length : Nat) : Int))).bind fun t5 =>
 W6 l_ w_ t5
def Vw (out : List (List Int)) : zbE :=
 some out
def wv (l_ : List (List Int)) (ak : List (List Int)) (i_ : Int) : zew :=
 bif decide (i_ < ((l_.length : Nat) : Int)) then (
  (idx l_ i_).bind fun bj =>
  (Ur ak bj).bind fun r_ =>
  some (.next (r_,w64 (i_ + 1))))
 else (
  some (.done ak))
def Xb (l_ : List (List Int)) : zbE :=
 (loop (fun s => wv l_ s.1 s.2) (([] : List (List Int)),0)).bind fun t2 =>
 Vw t2
def V2 (x_ : yf) : zbE :=
 (XG x_).bind fun r_ =>
 (Xb r_).bind fun aj =>
 some aj
def Ze (out : List (List Int)) : zbE :=
 (Xb out).bind fun r_ =>
 some r_
def Zd (i_ : Int) (bm : List (List Int)) : zew :=
 some (.next (bm,w64 (i_ + 1)))
def Zc (ak : List (List Int)) (i_ : Int) (w_ : List Int) : zew :=
 gd (ak.length + [w_].length ≤ 4294967296) <|
 Zd i_ (ak ++ [w_])
def wW (l_ : List (List Int)) (inputs : Int) (i_ : Int) (bz : List Int) (k_ : Int) : R1_ :=
 (idx l_ i_).bind fun bj =>
 bif decide (k_ < ((bj.length : Nat) : Int)) then (
  (idx l_ i_).bind fun d0 =>
  (idx d0 k_).bind fun ie =>
  gd ((inputs : Int) ≠ 0) <|
  gd (bz.length + [Int.tmod ie inputs].length ≤ 4294967296) <|
  some (.next ((bz ++ [Int.tmod ie inputs]),w64 (k_ + 1))))
 else (
  some (.done bz))
def wX (l_ : List (List Int)) (inputs : Int) (ak : List (List Int)) (i_ : Int) : zew :=
 bif decide (i_ < ((l_.length : Nat) : Int)) then (
  (loop (fun s => wW l_ inputs i_ s.1 s.2) (([] : List Int),0)).bind fun t5 =>
  Zc ak i_ t5)
 else (
  some (.done ak))
def Yf (l_ : List (List Int)) (inputs : Int) : zbE :=
 (loop (fun s => wX l_ inputs s.1 s.2) (([] : List (List Int)),0)).bind fun t2 =>
 Ze t2
def uS : Option z5 :=
 some (z5.mk (-1) (-1))
def Zb (m_ : z4) (x_ : z5) : Option Bool :=
 (uS).bind fun r_ =>
 bif (x_.To == r_.To) && ((x_.Out == r_.Out) && true) then (
  some true)
 else (
  bif decide (x_.To ≥ 0) then (
   bif decide (x_.To < ((m_.Rows.length : Nat) : Int)) then (
    bif decide (x_.Out ≥ 0) then (
     some (decide (x_.Out < m_.Outputs)))
    else (
     some false))
   else (
    some false))
  else (
   some false))
def qS (x_ : z5) (x1 : z4) : Option Bool :=
 (Zb x1 x_).bind fun r_ =>
 some (!r_)
def yh : Option Int :=
 some (-1)
def zB (s_ : List z5) (f_ : z4) (x8 : Int) : R3_ :=
 bif decide (x8 < ((s_.length : Nat) : Int)) then (
  (idx s_ x8).bind fun gt =>
  (qS gt f_).bind fun r_ =>
  bif r_ then (
   some (.done (.inr x8)))
  else (
   some (.next (w64 (x8 + 1)))))
 else (
  some (.done (.inl ())))
def zW (s_ : List z5) (f_ : z4) : Option Int :=
 (loop (fun s => zB s_ f_ s) 0).bind fun t2 =>
 match t2 with
 | .inl p => yh
 | .inr p => some p
def zH (s_ : List z5) (f_ : z4) : Option Bool :=
 (zW s_ f_).bind fun r_ =>
 some (decide (r_ ≥ 0))
def ZJ : Option Int :=
 some 0
def xK (m_ : z4) (km : Int) : R3_ :=
 bif decide (km < ((m_.Rows.length : Nat) : Int)) then (
  (idx m_.Rows km).bind fun am =>
  bif ((am.length : Nat) : Int) != m_.Inputs then (
   some (.done (.inr 1)))
  else (
   (zH am m_).bind fun r_ =>
   bif r_ then (
    some (.done (.inr 1)))
   else (
    some (.next (w64 (km + 1))))))
 else (
  some (.done (.inl ())))
def yX (m_ : z4) : Option Int :=
 bif decide (m_.Inputs > 16) then (
  some 3)
 else (
  bif decide (m_.Outputs > 16) then (
   some 3)
  else (
   bif decide (((m_.Rows.length : Nat) : Int) > 64) then (
    some 3)
   else (
    bif decide (m_.Inputs < 1) then (
     some 1)
    else (
     bif decide (m_.Outputs < 1) then (
      some 1)
     else (
      bif decide (((m_.Rows.length : Nat) : Int) < 1) then (
       some 1)
      else (
       (loop (fun s => xK m_ s) 0).bind fun t2 =>
       match t2 with
       | .inl p => ZJ
       | .inr p => some p))))))
def Za (m_ : z4) : Option ((Int × z4) × (Int × z4) × (Int × z4)) :=
 some ((9,m_),(11,m_),(12,m_))
def ZY (m_ : z4) : Option z4 :=
 some m_
variable {σ : Type}
def vg (dg : Int) (lv : σ) : Option (LR (σ × Int) σ) :=
 some (.next (lv,w64 (dg + 1)))
def yS (yy : σ → (ye Int × z5) → Option (σ × Bool)) (dg : Int) (am : List z5) (js : σ) (ii : Int) : Option (LR (σ × Int) (σ ⊕ σ)) :=
 bif decide (ii < ((am.length : Nat) : Int)) then (
  (idx am ii).bind fun ai =>
  (yy js ((ye.mk dg ii),ai)).bind fun yr =>
  bif !yr.2 then (
   some (.done (.inr yr.1)))
  else (
   some (.next (yr.1,w64 (ii + 1)))))
 else (
  some (.done (.inl js)))
def xZ (x0 : z4) (yy : σ → (ye Int × z5) → Option (σ × Bool)) (dp : σ) (dg : Int) : Option (LR (σ × Int) σ) :=
 bif decide (dg < ((x0.Rows.length : Nat) : Int)) then (
  (idx x0.Rows dg).bind fun am =>
  (loop (fun s => yS yy dg am s.1 s.2) (dp,0)).bind fun t3 =>
  match t3 with
  | .inl p => vg dg p
  | .inr p => some (.done p))
 else (
  some (.done dp))
def vC (x0 : z4) {σ : Type} (yy : σ → (ye Int × z5) → Option (σ × Bool)) (sg : σ) : Option σ :=
 (loop (fun s => xZ x0 yy s.1 s.2) (sg,0)).bind fun t1 =>
 some t1
abbrev zj0 : Type:=Option (List (ye Int))
def xC (s_ : List (ye Int)) : zj0 :=
 gd ((0 : Int) ≤ 0 ∧ (0 : Int) ≤ ((s_.length : Nat) : Int) ∧ (((s_.length : Nat) : Int) : Int) ≤ ((s_.length : Nat) : Int) ∧ (((s_.length : Nat) : Int) : Int) ≤ ((s_.length : Nat) : Int)) <|
 some ((s_.drop 0).take (((s_.length : Nat) : Int).toNat - 0))
def wy (out : List (ye Int)) : zj0 :=
 (xC out).bind fun r_ =>
 some r_
def zQ (ak : List (ye Int)) (x8 : ye Int) (x9 : z5) : Option (LR (List (ye Int)) Empty) :=
 (uS).bind fun bc =>
 bif (x9.To == bc.To) && ((x9.Out == bc.Out) && true) then (
  gd (ak.length + [x8].length ≤ 4294967296) <|
  some (.next (ak ++ [x8])))
 else (
  some (.next ak))
def vX (m_ : z4) : zj0 :=
 (ZY m_).bind fun aj =>
 (vC aj (yOf (fun s x => zQ s x.1 x.2)) (.next ([] : List (ye Int)))).bind fun t2 =>
 match t2 with
 | .next ak => (
  wy ak)
 | .done z => nomatch z
def wV (m_ : z4) : Option (Bool × Int) :=
 (yX m_).bind fun r_ =>
 bif r_ != 0 then (
  some (false,r_))
 else (
  (vX m_).bind fun aj =>
  some (((aj.length : Nat) : Int) == 0,0))
def uR (x0 : z4) : Option Bool :=
 (wV x0).bind fun r_ =>
 some r_.1
def yb (iy : Int → (List Bool) → z4 → Option (List Bool × z4)) (am : List z5) (x1 : List Bool) (fc : Int) (d8 : Int) (gp : List (List z5)) (kn : Int) : Option (LR (List Bool × Int × Int × List (List z5) × Int) ((List Bool × z4))) :=
 bif decide (kn < ((am.length : Nat) : Int)) then (
  (idx am kn).bind fun ai =>
  (iy ai.To x1 (z4.mk fc d8 gp)).bind fun r_ =>
  some (.next (r_.1,r_.2.Inputs,r_.2.Outputs,r_.2.Rows,w64 (kn + 1))))
 else (
  some (.done (x1,(z4.mk fc d8 gp))))
def yQ (iy : Int → (List Bool) → z4 → Option (List Bool × z4)) (s_ : Int) (y0 : List Bool) (y1 : z4) : Option (List Bool × z4) :=
 bif s_ == (-1) then (
  some (y0,y1))
 else (
  (idx y0 s_).bind fun nr =>
  bif nr then (
   some (y0,y1))
  else (
   (idx y0 s_).bind fun nu =>
   (idx y1.Rows s_).bind fun am =>
   (loop (fun s => yb iy am s.1 s.2.1 s.2.2.1 s.2.2.2.1 s.2.2.2.2) ((y0.set s_.toNat true),y1.Inputs,y1.Outputs,y1.Rows,0)).bind fun t1 =>
   some t1))
def zK (fu : Nat) : Int → (List Bool) → z4 → Option (List Bool × z4):=Nat.rec (motive:=fun _ => Int → (List Bool) → z4 → Option (List Bool × z4)) (fun _ _ _ => none) (fun _ ih => yQ ih) fu
def wL : Option Int :=
 some (-1)
def zX (s_ : List Bool) (v_ : Bool) (x8 : Int) : R3_ :=
 bif decide (x8 < ((s_.length : Nat) : Int)) then (
  (idx s_ x8).bind fun gt =>
  bif v_ == gt then (
   some (.done (.inr x8)))
  else (
   some (.next (w64 (x8 + 1)))))
 else (
  some (.done (.inl ())))
def wb (s_ : List Bool) (v_ : Bool) : Option Int :=
 (loop (fun s => zX s_ v_ s) 0).bind fun t2 =>
 match t2 with
 | .inl p => wL
 | .inr p => some p
def yl (s_ : List Bool) (v_ : Bool) : Option Bool :=
 (wb s_ v_).bind fun r_ =>
 some (decide (r_ ≥ 0))
def wz (m_ : z4) : Option (Bool × Int) :=
 (yX m_).bind fun r_ =>
 bif r_ != 0 then (
  some (false,r_))
 else (
  gd ((0 : Int) ≤ ((m_.Rows.length : Nat) : Int) ∧ (((m_.Rows.length : Nat) : Int) : Int) ≤ 4294967296) <|
  (zK WJ 0 (List.replicate ((m_.Rows.length : Nat) : Int).toNat false) m_).bind fun aj =>
  (yl aj.1 false).bind fun bc =>
  some (!bc,0))
def uQ (x0 : z4) : Option Bool :=
 (wz x0).bind fun r_ =>
 some r_.1
def ZQ (m_ : z4) : Option z4 :=
 some m_
def jX (out : yj (ye Int)) : Option (yj (ye Int)) :=
 some out
abbrev zk0 : Type:=Option (LR (yj (ye Int) × Int) (yj (ye Int)))
def uk (eb : Int) (bm : yj (ye Int)) : zk0 :=
 some (.next (bm,w64 (eb + 1)))
def uj (p_ : List Int) (am : List z5) (ak : yj (ye Int)) (eb : Int) : zk0 :=
 bif decide (eb < ((am.length : Nat) : Int)) then (
  (idx am eb).bind fun ai =>
  (idx (yj.toL ak) eb).bind fun cell =>
  (some (yj.setI ak eb (ye.mk ai.Out (-1)))).bind fun arr =>
  bif ai.To != (-1) then (
   (idx p_ ai.To).bind fun cg =>
   (idx (yj.toL arr) eb).bind fun fw =>
   (some (yj.setI arr eb (ye.mk fw.e0 cg))).bind fun arr1 =>
   uk eb arr1)
  else (
   uk eb arr))
 else (
  some (.done ak))
def ul (m_ : z4) (p_ : List Int) (s_ : Int) : Option (yj (ye Int)) :=
 (idx m_.Rows s_).bind fun am =>
 (loop (fun s => uj p_ am s.1 s.2) ((yj.mk (ye.mk 0 0) (ye.mk 0 0) (ye.mk 0 0) (ye.mk 0 0) (ye.mk 0 0) (ye.mk 0 0) (ye.mk 0 0) (ye.mk 0 0) (ye.mk 0 0) (ye.mk 0 0) (ye.mk 0 0) (ye.mk 0 0) (ye.mk 0 0) (ye.mk 0 0) (ye.mk 0 0) (ye.mk 0 0)),0)).bind fun t2 =>
 jX t2
def vS (out : List Int) : Option (List Int) :=
 some out
abbrev zjZ : Type:=Option (LR ((List (zn × Int)) × List Int × Int) (List Int))
def xj (ak : List Int) (cj : Int) (cg : Int) (r_ : yj (ye Int)) (ee : List (zn × Int)) : zjZ :=
 (some ((z0Z ee (zn.mk cg r_)).getD 0)).bind fun val =>
 (idx ak cj).bind fun eu =>
 some (.next (ee,(ak.set cj.toNat val),w64 (cj + 1)))
def wr (m_ : z4) (p_ : List Int) (names : List (zn × Int)) (ak : List Int) (cj : Int) : zjZ :=
 bif decide (cj < ((p_.length : Nat) : Int)) then (
  (idx p_ cj).bind fun cg =>
  (ul m_ p_ cj).bind fun r_ =>
  (some ((z0Z names (zn.mk cg r_)).getD 0)).bind fun mw =>
  bif !((z0Z names (zn.mk cg r_)).isSome) then (
   xj ak cj cg r_ (z9i names (zn.mk cg r_) ((names.length : Nat) : Int)))
  else (
   xj ak cj cg r_ names))
 else (
  some (.done ak))
def um (m_ : z4) (p_ : List Int) : Option (List Int) :=
 gd ((0 : Int) ≤ ((p_.length : Nat) : Int) ∧ (((p_.length : Nat) : Int) : Int) ≤ 4294967296) <|
 (loop (fun s => wr m_ p_ s.1 s.2.1 s.2.2) (([] : List (zn × Int)),(List.replicate ((p_.length : Nat) : Int).toNat (0 : Int)),0)).bind fun t2 =>
 vS t2
def xA : Option Bool :=
 some true
abbrev zgq : Type:=Option (LR Int (Unit ⊕ Bool))
def ya (s1 : List Int) (s2 : List Int) (gf : Int) : zgq :=
 bif decide (gf < ((s1.length : Nat) : Int)) then (
  (idx s1 gf).bind fun ko =>
  (idx s2 gf).bind fun jg =>
  bif ko != jg then (
   some (.done (.inr false)))
  else (
   some (.next (w64 (gf + 1)))))
 else (
  some (.done (.inl ())))
def xu (s1 : List Int) (s2 : List Int) : Option Bool :=
 bif ((s1.length : Nat) : Int) != ((s2.length : Nat) : Int) then (
  some false)
 else (
  (loop (fun s => ya s1 s2 s) 0).bind fun t2 =>
  match t2 with
  | .inl p => xA
  | .inr p => some p)
def xR (x0 : z4) (yy : σ → (List Int) → Option (σ × Bool)) (dp : σ) (p_ : List Int) : Option (LR (σ × List Int) σ) :=
 (yy dp p_).bind fun yr =>
 bif yr.2 then (
  (um x0 p_).bind fun r_ =>
  (xu p_ r_).bind fun aj =>
  bif aj then (
   some (.done yr.1))
  else (
   some (.next (yr.1,r_))))
 else (
  some (.done yr.1))
def vq (x0 : z4) {σ : Type} (yy : σ → (List Int) → Option (σ × Bool)) (sg : σ) : Option σ :=
 gd ((0 : Int) ≤ ((x0.Rows.length : Nat) : Int) ∧ (((x0.Rows.length : Nat) : Int) : Int) ≤ 4294967296) <|
 (loop (fun s => xR x0 yy s.1 s.2) (sg,(List.replicate ((x0.Rows.length : Nat) : Int).toNat (0 : Int)))).bind fun t1 =>
 some t1
def vT (p_ : List Int) (n_ : Int) : Option (List Int × Int × Int) :=
 some (p_,n_,0)
def xk (je : List Int) (ba : Int) (gu : List Int) : Option (LR (List Int × Int) Empty) :=
 some (.next (gu,w64 (ba + 1)))
def uo (m_ : z4) : Option (List Int × Int × Int) :=
 (yX m_).bind fun r_ =>
 bif r_ != 0 then (
  some (([] : List Int),0,r_))
 else (
  (ZQ m_).bind fun aj =>
  (vq aj (yOf (fun s x => xk s.1 s.2 x)) (.next (([] : List Int),(-1)))).bind fun t2 =>
  match t2 with
  | .next (je,ba) => (
   vT je ba)
  | .done z => nomatch z)
def wo (m_ : Int) : Option Int :=
 some m_
def xa (x_ : List Int) (kp : Int) (i_ : Int) : R7_ :=
 bif decide (i_ < ((x_.length : Nat) : Int)) then (
  (idx x_ i_).bind fun ld =>
  some (.next ((mx kp ld),w64 (i_ + 1))))
 else (
  some (.done kp))
def wp (x_ : List Int) : Option Int :=
 bif decide (((x_.length : Nat) : Int) < 1) then (
  none)
 else (
  (idx x_ 0).bind fun lf =>
  (loop (fun s => xa x_ s.1 s.2) (lf,1)).bind fun t2 =>
  wo t2)
def uP (x0 : z4) : Option Bool :=
 (uo x0).bind fun r_ =>
 (wp r_.1).bind fun aj =>
 some (aj == (w64 (((r_.1.length : Nat) : Int) - 1)))
def ve : Option Int :=
 some 0
def wh (m_ : z4) : Option Int :=
 (yX m_).bind fun r_ =>
 bif r_ != 0 then (
  some r_)
 else (
  (Za m_).bind fun aj =>
  (uR aj.1.2).bind fun bc =>
  bif !bc then (
   some aj.1.1)
  else (
   (uQ aj.2.1.2).bind fun bt =>
   bif !bt then (
    some aj.2.1.1)
   else (
    (uP aj.2.2.2).bind fun gc =>
    bif !gc then (
     some aj.2.2.1)
    else (
     ve))))
def VE (n_ : Int) : Option Int :=
 some n_
def uY (m_ : z4) (states : Int) (ba : Int) (i_ : Int) : R7_ :=
 bif decide (i_ < (w64 (states * m_.Inputs))) then (
  bif decide (ba ≤ 65536) then (
   some (.next (w64 (ba * (w64 (states * m_.Outputs))),w64 (i_ + 1))))
  else (
   some (.done ba)))
 else (
  some (.done ba))
def uZ (m_ : z4) (states : Int) : Option Int :=
 bif decide (states > 65536) then (
  some 65537)
 else (
  (loop (fun s => uY m_ states s.1 s.2) (1,0)).bind fun t2 =>
  VE t2)
def Xh (m_ : z4) (states : Int) : Option Int :=
 (wh m_).bind fun r_ =>
 bif r_ != 0 then (
  some r_)
 else (
  bif decide (states < 1) then (
   some 1)
  else (
   (uZ m_ states).bind fun aj =>
   bif decide (aj > 65536) then (
    some 3)
   else (
    some 0)))
def YJ (c_ : Int) (x1 : Int) : Option Bool :=
 bif decide (c_ < 0) then (
  some true)
 else (
  some (decide (c_ ≥ x1)))
def xQ : Option Int :=
 some (-1)
def zM (s_ : List Int) (f_ : Int) (x8 : Int) : R3_ :=
 bif decide (x8 < ((s_.length : Nat) : Int)) then (
  (idx s_ x8).bind fun gt =>
  (YJ gt f_).bind fun r_ =>
  bif r_ then (
   some (.done (.inr x8)))
  else (
   some (.next (w64 (x8 + 1)))))
 else (
  some (.done (.inl ())))
def xh (s_ : List Int) (f_ : Int) : Option Int :=
 (loop (fun s => zM s_ f_ s) 0).bind fun t2 =>
 match t2 with
 | .inl p => xQ
 | .inr p => some p
def yC (s_ : List Int) (f_ : Int) : Option Bool :=
 (xh s_ f_).bind fun r_ =>
 some (decide (r_ ≥ 0))
def Zy (w_ : List Int) (inputs : Int) : Option Int :=
 bif decide (inputs > 16) then (
  some 3)
 else (
  bif decide (((w_.length : Nat) : Int) > 256) then (
   some 3)
  else (
   bif decide (inputs < 1) then (
    some 1)
   else (
    (yC w_ inputs).bind fun r_ =>
    bif r_ then (
     some 1)
    else (
     some 0))))
def Wj : Option Int :=
 some 0
def vE (l_ : List (List Int)) (inputs : Int) (kq : Int) : R3_ :=
 bif decide (kq < ((l_.length : Nat) : Int)) then (
  (idx l_ kq).bind fun bj =>
  (Zy bj inputs).bind fun r_ =>
  bif r_ != 0 then (
   some (.done (.inr r_)))
  else (
   some (.next (w64 (kq + 1)))))
 else (
  some (.done (.inl ())))
def Xm (l_ : List (List Int)) (inputs : Int) : Option Int :=
 bif decide (inputs > 16) then (
  some 3)
 else (
  bif decide (((l_.length : Nat) : Int) > 4096) then (
   some 3)
  else (
   bif decide (inputs < 1) then (
    some 1)
   else (
    (loop (fun s => vE l_ inputs s) 0).bind fun t2 =>
    match t2 with
    | .inl p => Wj
    | .inr p => some p)))
def Zl (x_ : Int) : Option Bool :=
 some (x_ != x_)
def v7 (x_ : Int) (y_ : Int) : Option Int :=
 (Zl x_).bind fun r_ =>
 (Zl y_).bind fun aj =>
 bif r_ then (
  bif aj then (
   some 0)
  else (
   some (-1)))
 else (
  bif aj then (
   some 1)
  else (
   bif decide (x_ < y_) then (
    some (-1))
   else (
    bif decide (x_ > y_) then (
     some 1)
    else (
     some 0))))
def yT (s1 : List Int) (s2 : List Int) : Option Int :=
 bif decide (((s1.length : Nat) : Int) < ((s2.length : Nat) : Int)) then (
  some (-1))
 else (
  some 0)
def zY (s1 : List Int) (s2 : List Int) (ix : Int) : R3_ :=
 bif decide (ix < ((s1.length : Nat) : Int)) then (
  (idx s1 ix).bind fun ko =>
  bif decide (ix ≥ ((s2.length : Nat) : Int)) then (
   some (.done (.inr 1)))
  else (
   (idx s2 ix).bind fun jg =>
   (v7 ko jg).bind fun r_ =>
   bif r_ != 0 then (
    some (.done (.inr r_)))
   else (
    some (.next (w64 (ix + 1))))))
 else (
  some (.done (.inl ())))
def yP (s1 : List Int) (s2 : List Int) : Option Int :=
 (loop (fun s => zY s1 s2 s) 0).bind fun t2 =>
 match t2 with
 | .inl p => yT s1 s2
 | .inr p => some p
def X4 : Option Int :=
 some 0
def qd (vals : List Int) (x8 : Int) : R3_ :=
 bif decide (x8 < ((vals.length : Nat) : Int)) then (
  (idx vals x8).bind fun lh =>
  bif lh != 0 then (
   some (.done (.inr lh)))
  else (
   some (.next (w64 (x8 + 1)))))
 else (
  some (.done (.inl ())))
def V8 (vals : List Int) : Option Int :=
 (loop (fun s => qd vals s) 0).bind fun t2 =>
 match t2 with
 | .inl p => X4
 | .inr p => some p
def jM (a_ : List Int) (b_ : List Int) : Option Int :=
 (v7 ((a_.length : Nat) : Int) ((b_.length : Nat) : Int)).bind fun r_ =>
 (yP a_ b_).bind fun aj =>
 (V8 ([r_,aj])).bind fun bc =>
 some bc
def ZM : Option Bool :=
 some true
def vF (l_ : List (List Int)) (i_ : Int) : zgq :=
 bif decide (i_ < ((l_.length : Nat) : Int)) then (
  (idx l_ (w64 (i_ - 1))).bind fun bj =>
  (idx l_ i_).bind fun d0 =>
  (jM bj d0).bind fun r_ =>
  bif decide (r_ ≥ 0) then (
   some (.done (.inr false)))
  else (
   some (.next (w64 (i_ + 1)))))
 else (
  some (.done (.inl ())))
def Xn (l_ : List (List Int)) : Option Bool :=
 (loop (fun s => vF l_ s) 1).bind fun t2 =>
 match t2 with
 | .inl p => ZM
 | .inr p => some p
def Wi (n_ : Int) : Option Int :=
 some n_
def vD (l_ : List (List Int)) (ba : Int) (x7 : Int) : R7_ :=
 bif decide (x7 < ((l_.length : Nat) : Int)) then (
  (idx l_ x7).bind fun bj =>
  some (.next (w64 (ba + ((bj.length : Nat) : Int)),w64 (x7 + 1))))
 else (
  some (.done ba))
def Xl (l_ : List (List Int)) : Option Int :=
 (loop (fun s => vD l_ s.1 s.2) (0,0)).bind fun t2 =>
 Wi t2
def ZB (l_ : List (List Int)) (inputs : Int) : Option Int :=
 (Xm l_ inputs).bind fun r_ =>
 bif r_ != 0 then (
  some r_)
 else (
  (Xn l_).bind fun aj =>
  bif !aj then (
   some 1)
  else (
   (Xl l_).bind fun bc =>
   bif decide (bc > 65536) then (
    some 3)
   else (
    some 0)))
def Xf (m_ : z4) (l_ : List (List Int)) (states : Int) : Option Int :=
 (Xh m_ states).bind fun r_ =>
 bif r_ != 0 then (
  some r_)
 else (
  (ZB l_ m_.Inputs).bind fun aj =>
  some aj)
abbrev zi7 : Type:=Option (z4 × Int)
def XI (m_ : z4) (states : Int) : zi7 :=
 some (m_,states)
def wZ (t_ : z4) (next : Int) : Option Bool :=
 some (next == ((t_.Rows.length : Nat) : Int))
abbrev zim : Type:=Option (LR (Int × Int) (Int ⊕ Bool))
def wY (s_ : Int) (gi : Int) : zim :=
 some (.next (gi,w64 (s_ + 1)))
def xN (cj : Int) (jt : Int) : zim :=
 some (.next (jt,w64 (cj + 1)))
def xL (am : List z5) (cd : Int) (cj : Int) : zim :=
 bif decide (cj < ((am.length : Nat) : Int)) then (
  (idx am cj).bind fun ai =>
  bif decide (ai.To > cd) then (
   some (.done (.inr false)))
  else (
   bif ai.To == cd then (
    xN cj (w64 (cd + 1)))
   else (
    xN cj cd)))
 else (
  some (.done (.inl cd)))
def xM (t_ : z4) (db : Int) (s_ : Int) : zim :=
 bif decide (s_ < db) then (
  (idx t_.Rows s_).bind fun am =>
  (loop (fun s => xL am s.1 s.2) (db,0)).bind fun t4 =>
  match t4 with
  | .inl p => wY s_ p
  | .inr p => some (.done (.inr p)))
 else (
  some (.done (.inl db)))
def vN (t_ : z4) : Option Bool :=
 (loop (fun s => xM t_ s.1 s.2) (1,0)).bind fun t2 =>
 match t2 with
 | .inl p => wZ t_ p
 | .inr p => some p
def Uy : Option Int :=
 some (-1)
abbrev ziZ : Type:=Option (LR (Int × Int × Int) (Unit ⊕ Int))
def uD (dh : Int) (gq : Int) (fx : Int) (kr : Int) (kc : Int) : ziZ :=
 bif fx != kc then (
  some (.done (.inr dh)))
 else (
  some (.next (gq,kr,w64 (dh + 1))))
def uE (other : z4) (t_ : Int) (dh : Int) (dm : Int) (gq : Int) (fx : Int) : ziZ :=
 bif t_ != (-1) then (
  (idx other.Rows t_).bind fun am =>
  (idx am dm).bind fun ai =>
  uD dh gq fx ai.To ai.Out)
 else (
  uD dh gq fx (-1) (-1))
def jK (m_ : z4) (other : z4) (w_ : List Int) (s_ : Int) (t_ : Int) (dh : Int) : ziZ :=
 bif decide (dh < ((w_.length : Nat) : Int)) then (
  (idx w_ dh).bind fun dm =>
  bif s_ != (-1) then (
   (idx m_.Rows s_).bind fun bu =>
   (idx bu dm).bind fun aq =>
   uE other t_ dh dm aq.To aq.Out)
  else (
   uE other t_ dh dm (-1) (-1)))
 else (
  some (.done (.inl ())))
def V6 (m_ : z4) (other : z4) (w_ : List Int) : Option Int :=
 (loop (fun s => jK m_ other w_ s.1 s.2.1 s.2.2) (0,0,0)).bind fun t2 =>
 match t2 with
 | .inl p => Uy
 | .inr p => some p
def VD : Option Bool :=
 some true
abbrev zjY : Type:=Option (LR (List Bool × List (ye Int) × Int) ((List Bool × List (ye Int)) ⊕ Bool))
def Zj (gw : Int) (ju : List Bool) (jv : List (ye Int)) : zjY :=
 some (.next (ju,jv,w64 (gw + 1)))
def uW (t_ : z4) (dt : ye Int) (am : List z5) (fg : List Bool) (fy : List (ye Int)) (gw : Int) : zjY :=
 bif decide (gw < ((am.length : Nat) : Int)) then (
  (idx am gw).bind fun ai =>
  (idx t_.Rows dt.e1).bind fun bu =>
  (idx bu gw).bind fun aq =>
  bif ai.Out != aq.Out then (
   some (.done (.inr false)))
  else (
   (idx fg (w64 ((w64 (ai.To * ((t_.Rows.length : Nat) : Int))) + aq.To))).bind fun lw =>
   bif !lw then (
    (idx fg (w64 ((w64 (ai.To * ((t_.Rows.length : Nat) : Int))) + aq.To))).bind fun mg =>
    gd (fy.length + [(ye.mk ai.To aq.To)].length ≤ 4294967296) <|
    Zj gw (fg.set (w64 ((w64 (ai.To * ((t_.Rows.length : Nat) : Int))) + aq.To)).toNat true) (fy ++ [(ye.mk ai.To aq.To)]))
   else (
    Zj gw fg fy)))
 else (
  some (.done (.inl (fg,fy))))
def uX (m_ : z4) (t_ : z4) (ku : List Bool) (list : List (ye Int)) : Option (LR (List Bool × List (ye Int)) (Unit ⊕ Bool)) :=
 bif decide (((list.length : Nat) : Int) > 0) then (
  (idx list (w64 (((list.length : Nat) : Int) - 1))).bind fun dt =>
  gd ((0 : Int) ≤ w64 (((list.length : Nat) : Int) - 1) ∧ (w64 (((list.length : Nat) : Int) - 1) : Int) ≤ ((list.length : Nat) : Int)) <|
  (idx m_.Rows dt.e0).bind fun am =>
  (loop (fun s => uW t_ dt am s.1 s.2.1 s.2.2) (ku,(list.take (w64 (((list.length : Nat) : Int) - 1)).toNat),0)).bind fun t3 =>
  match t3 with
  | .inl p => some (.next p)
  | .inr p => some (.done (.inr p)))
 else (
  some (.done (.inl ())))
def Xg (m_ : z4) (t_ : z4) : Option Bool :=
 gd ((0 : Int) ≤ w64 (((m_.Rows.length : Nat) : Int) * ((t_.Rows.length : Nat) : Int)) ∧ (w64 (((m_.Rows.length : Nat) : Int) * ((t_.Rows.length : Nat) : Int)) : Int) ≤ 4294967296) <|
 (idx (List.replicate (w64 (((m_.Rows.length : Nat) : Int) * ((t_.Rows.length : Nat) : Int))).toNat false) 0).bind fun i8 =>
 (loop (fun s => uX m_ t_ s.1 s.2) (((List.replicate (w64 (((m_.Rows.length : Nat) : Int) * ((t_.Rows.length : Nat) : Int))).toNat false).set (0 : Int).toNat true),([(ye.mk 0 0)] : List (ye Int)))).bind fun t2 =>
 match t2 with
 | .inl p => VD
 | .inr p => some p
def wD (x_ : zS) (t_ : z4) : Option Bool :=
 (Xg x_.m_ t_).bind fun aj =>
 some (!aj)
def wC (x_ : zS) (t_ : z4) (gf : Int) : zgq :=
 bif decide (gf < ((x_.l_.length : Nat) : Int)) then (
  (idx x_.l_ gf).bind fun bj =>
  (V6 x_.m_ t_ bj).bind fun bc =>
  bif bc != (-1) then (
   some (.done (.inr false)))
  else (
   some (.next (w64 (gf + 1)))))
 else (
  some (.done (.inl ())))
def xe (x_ : zS) (t_ : z4) : Option Bool :=
 (vN t_).bind fun r_ =>
 bif !r_ then (
  some false)
 else (
  (loop (fun s => wC x_ t_ s) 0).bind fun t2 =>
  match t2 with
  | .inl p => wD x_ t_
  | .inr p => some p)
def qU (yr : σ × Bool) (kw : List z5) (k_ : Int) : Option (LR (σ × List z5) σ) :=
 bif decide (k_ < 0) then (
  some (.done yr.1))
 else (
  some (.next (yr.1,kw)))
def xp (x0 : z4) (x1 : Int) (co : List z5) (ap : Int) : Option (LR (List z5 × Int) ((List z5 × Int))) :=
 bif decide (ap ≥ 0) then (
  (idx co ap).bind fun nn =>
  (idx co ap).bind fun a8 =>
  (idx (co.set ap.toNat (z5.mk a8.To (w64 (a8.Out + 1)))) ap).bind fun i8 =>
  bif decide (i8.Out < x0.Outputs) then (
   some (.done ((co.set ap.toNat (z5.mk a8.To (w64 (a8.Out + 1)))),ap)))
  else (
   (idx (co.set ap.toNat (z5.mk a8.To (w64 (a8.Out + 1)))) ap).bind fun gj =>
   (idx ((co.set ap.toNat (z5.mk a8.To (w64 (a8.Out + 1)))).set ap.toNat (z5.mk gj.To 0)) ap).bind fun dn =>
   (idx (((co.set ap.toNat (z5.mk a8.To (w64 (a8.Out + 1)))).set ap.toNat (z5.mk gj.To 0)).set ap.toNat (z5.mk (w64 (dn.To + 1)) dn.Out)) ap).bind fun my =>
   bif decide (my.To < x1) then (
    some (.done ((((co.set ap.toNat (z5.mk a8.To (w64 (a8.Out + 1)))).set ap.toNat (z5.mk gj.To 0)).set ap.toNat (z5.mk (w64 (dn.To + 1)) dn.Out)),ap)))
   else (
    (idx (((co.set ap.toNat (z5.mk a8.To (w64 (a8.Out + 1)))).set ap.toNat (z5.mk gj.To 0)).set ap.toNat (z5.mk (w64 (dn.To + 1)) dn.Out)) ap).bind fun lk =>
    some (.next (((((co.set ap.toNat (z5.mk a8.To (w64 (a8.Out + 1)))).set ap.toNat (z5.mk gj.To 0)).set ap.toNat (z5.mk (w64 (dn.To + 1)) dn.Out)).set ap.toNat (z5.mk 0 lk.Out)),w64 (ap - 1))))))
 else (
  some (.done (co,ap)))
def zL (x0 : z4) (x1 : Int) (yy : σ → z4 → Option (σ × Bool)) (bo : List (Option (Int × Int × Int))) (dp : σ) (all : List z5) : Option (LR (σ × List z5) σ) :=
 (z2Q all bo).bind fun rows =>
 (yy dp (z4.mk x0.Inputs x0.Outputs rows)).bind fun yr =>
 bif yr.2 then (
  (loop (fun s => xp x0 x1 s.1 s.2) (all,w64 (((all.length : Nat) : Int) - 1))).bind fun t4 =>
  qU yr t4.1 t4.2)
 else (
  some (.done yr.1))
def qV (x0 : z4) (x1 : Int) (yy : σ → z4 → Option (σ × Bool)) (sg : σ) (bo : List (Option (Int × Int × Int))) : Option σ :=
 (loop (fun s => zL x0 x1 yy bo s.1 s.2) (sg,(List.replicate (w64 (x1 * x0.Inputs)).toNat (z5.mk 0 0)))).bind fun t2 =>
 some t2
def yp (x0 : z4) (x1 : Int) (ct : List (Option (Int × Int × Int))) (ck : Int) : Option (LR ((List (Option (Int × Int × Int))) × Int) ((List (Option (Int × Int × Int))))) :=
 bif decide (ck < x1) then (
  gd ((0 : Int) ≤ w64 (ck * x0.Inputs) ∧ (w64 (ck * x0.Inputs) : Int) ≤ w64 ((w64 (ck + 1)) * x0.Inputs) ∧ (w64 ((w64 (ck + 1)) * x0.Inputs) : Int) ≤ w64 ((w64 (ck + 1)) * x0.Inputs) ∧ (w64 ((w64 (ck + 1)) * x0.Inputs) : Int) ≤ (((List.replicate (w64 (x1 * x0.Inputs)).toNat (z5.mk 0 0)).length : Nat) : Int)) <|
  (idx ct ck).bind fun fh =>
  gd (fh = none) <|
  some (.next ((ct.set ck.toNat (some (w64 (ck * x0.Inputs),w64 ((w64 (ck + 1)) * x0.Inputs),w64 ((w64 (ck + 1)) * x0.Inputs)))),w64 (ck + 1))))
 else (
  some (.done ct))
def wB (x0 : z4) (x1 : Int) {σ : Type} (yy : σ → z4 → Option (σ × Bool)) (sg : σ) : Option σ :=
 gd ((0 : Int) ≤ x1 ∧ (x1 : Int) ≤ 4294967296) <|
 gd ((0 : Int) ≤ w64 (x1 * x0.Inputs) ∧ (w64 (x1 * x0.Inputs) : Int) ≤ 4294967296) <|
 (loop (fun s => yp x0 x1 s.1 s.2) ((List.replicate x1.toNat none),0)).bind fun t5 =>
 qV x0 x1 yy sg t5
variable {τ : Type}
def zO (y : τ → z4 → Option (τ × Bool)) (m_ : z4) (l_ : List (List Int)) (s_ : τ) (x_ : z4) : Option (LR τ τ) :=
 (xe (zS.mk m_ l_ ()) x_).bind fun r_ =>
 bif r_ then (
  (y s_ x_).bind fun aj =>
  bif aj.2 then (
   some (.next aj.1))
  else (
   some (.done aj.1)))
 else (
  some (.next s_))
def zZ (y : τ → z4 → Option (τ × Bool)) (m_ : z4) (l_ : List (List Int)) (states : Int) (i_ : Int) (s_ : τ) : Option (LR (Int × τ) τ) :=
 bif decide (i_ ≤ states) then (
  (XI m_ i_).bind fun r_ =>
  (wB r_.1 r_.2 (yOf fun s x => zO y m_ l_ s x) (.next s_)).bind fun t_ =>
  match t_ with
  | .next s_ => some (.next (w64 (i_ + 1),s_))
  | .done s_ => some (.done s_))
 else (
  some (.done s_))
def yG (y : τ → z4 → Option (τ × Bool)) (m_ : z4) (l_ : List (List Int)) (states : Int) (s_ : τ) : Option τ :=
 loop (fun q => zZ y m_ l_ states q.1 q.2) (1,s_)
def zP (s_ : List z5) : Option (List z5) :=
 gd (([] : List z5).length + s_.length ≤ 4294967296) <|
 some s_
def zV (s_ : List z5) : Option (List z5) :=
 gd ((0 : Int) ≤ 0 ∧ (0 : Int) ≤ ((s_.length : Nat) : Int) ∧ (((s_.length : Nat) : Int) : Int) ≤ ((s_.length : Nat) : Int) ∧ (((s_.length : Nat) : Int) : Int) ≤ ((s_.length : Nat) : Int)) <|
 some ((s_.drop 0).take (((s_.length : Nat) : Int).toNat - 0))
def QR (aj : z4) (bw : List (List z5)) : zi7 :=
 some ((z4.mk aj.Inputs aj.Outputs bw),0)
def vh (aj : z4) (al : List (List z5)) (ia : Int) : R0_ :=
 bif decide (ia < ((aj.Rows.length : Nat) : Int)) then (
  (idx aj.Rows ia).bind fun am =>
  (zP am).bind fun bc =>
  (zV bc).bind fun bt =>
  (idx al ia).bind fun ly =>
  some (.next ((al.set ia.toNat bt),w64 (ia + 1))))
 else (
  some (.done al))
def Y5 (m_ : z4) (l_ : List (List Int)) (states : Int) : zi7 :=
 (Xf m_ l_ states).bind fun r_ =>
 bif r_ != 0 then (
  some ((z4.mk 0 0 []),r_))
 else (
  (yG (fun _ x => some (x,false)) m_ l_ states (z4.mk 0 0 [])).bind fun aj =>
  bif ((aj.Rows.length : Nat) : Int) == 0 then (
   some ((z4.mk 0 0 []),7))
  else (
   gd ((0 : Int) ≤ ((aj.Rows.length : Nat) : Int) ∧ (((aj.Rows.length : Nat) : Int) : Int) ≤ 4294967296) <|
   (loop (fun s => vh aj s.1 s.2) ((List.replicate ((aj.Rows.length : Nat) : Int).toNat ([] : List z5)),0)).bind fun t2 =>
   QR aj t2))
def XJ (m_ : z4) (l_ : List (List Int)) (states : Int) : Option (Int × Int) :=
 (Xf m_ l_ states).bind fun r_ =>
 bif r_ != 0 then (
  some (0,r_))
 else (
  (yG (fun s _ => some (w64 (s + 1),true)) m_ l_ states 0).bind fun aj =>
  some (aj,0))
def uF (m_ : z4) (states : Int) : Option (Int × Int) :=
 (Xh m_ states).bind fun r_ =>
 bif r_ != 0 then (
  some (0,r_))
 else (
  (uZ m_ states).bind fun aj =>
  some (aj,0))
def ZS (m_ : z4) (ct : List (List z5)) : Option z4 :=
 some (z4.mk m_.Inputs m_.Outputs ct)
abbrev zjX : Type:=Option (LR (Int × List (List z5) × Int) (List (List z5)))
def ZR (s_ : Int) (ir : Int) (iu : List (List z5)) : zjX :=
 some (.next (ir,iu,w64 (s_ - 1)))
def yV (m_ : z4) (states : Int) (s_ : Int) (cu : Int) (fj : List (List z5)) (i_ : Int) : Option (LR (Int × List (List z5) × Int) ((Int × List (List z5)))) :=
 bif decide (i_ ≥ 0) then (
  gd (((w64 (states * m_.Outputs)) : Int) ≠ 0) <|
  gd (((w64 (states * m_.Outputs)) : Int) ≠ 0) <|
  (idx fj s_).bind fun fh =>
  gd ((m_.Outputs : Int) ≠ 0) <|
  gd ((m_.Outputs : Int) ≠ 0) <|
  (idx fh i_).bind fun lz =>
  some (.next (w64 (Int.tdiv cu (w64 (states * m_.Outputs))),(fj.set s_.toNat (fh.set i_.toNat (z5.mk (w64 (Int.tdiv (Int.tmod cu (w64 (states * m_.Outputs))) m_.Outputs)) (Int.tmod (Int.tmod cu (w64 (states * m_.Outputs))) m_.Outputs)))),w64 (i_ - 1))))
 else (
  some (.done (cu,fj)))
def yW (m_ : z4) (states : Int) (gy : Int) (ge : List (List z5)) (s_ : Int) : zjX :=
 bif decide (s_ ≥ 0) then (
  (loop (fun s => yV m_ states s_ s.1 s.2.1 s.2.2) (gy,ge,w64 (m_.Inputs - 1))).bind fun t5 =>
  ZR s_ t5.1 t5.2)
 else (
  some (.done ge))
def ZT (m_ : z4) (states : Int) (number : Int) (bo : List (List z5)) : Option z4 :=
 (loop (fun s => yW m_ states s.1 s.2.1 s.2.2) (number,bo,w64 (states - 1))).bind fun t3 =>
 ZS m_ t3
def yU (m_ : z4) (states : Int) (fk : List (List z5)) (ax : Int) : R0_ :=
 bif decide (ax < states) then (
  gd ((0 : Int) ≤ m_.Inputs ∧ (m_.Inputs : Int) ≤ 4294967296) <|
  gd (fk.length + ([(List.replicate m_.Inputs.toNat (z5.mk 0 0))] : List (List z5)).length ≤ 4294967296) <|
  some (.next ((fk ++ ([(List.replicate m_.Inputs.toNat (z5.mk 0 0))] : List (List z5))),w64 (ax + 1))))
 else (
  some (.done fk))
def Xy (m_ : z4) (states : Int) (number : Int) : Option z4 :=
 (loop (fun s => yU m_ states s.1 s.2) (([] : List (List z5)),0)).bind fun t6 =>
 ZT m_ states number t6
def Wc (out : List Int) : Option (List Int) :=
 some out
def Ye (m_ : z4) (w_ : List Int) (ax : Int) (ak : List Int) (k_ : Int) : Option (LR (Int × List Int × Int) (List Int)) :=
 bif decide (k_ < ((w_.length : Nat) : Int)) then (
  (idx w_ k_).bind fun dm =>
  (Xd m_ ax dm).bind fun r_ =>
  gd (ak.length + [r_.Out].length ≤ 4294967296) <|
  some (.next (r_.To,(ak ++ [r_.Out]),w64 (k_ + 1))))
 else (
  some (.done ak))
def WU (m_ : z4) (s_ : Int) (w_ : List Int) : Option (List Int) :=
 (loop (fun s => Ye m_ w_ s.1 s.2.1 s.2.2) (s_,([] : List Int),0)).bind fun t2 =>
 Wc t2
def Vu : Option Int :=
 some (-1)
def jY (r_ : List Int) (aj : List Int) (i_ : Int) : R3_ :=
 bif decide (i_ < ((r_.length : Nat) : Int)) then (
  (idx r_ i_).bind fun dx =>
  (idx aj i_).bind fun dy =>
  bif dx != dy then (
   some (.done (.inr i_)))
  else (
   some (.next (w64 (i_ + 1)))))
 else (
  some (.done (.inl ())))
def WQ (m_ : z4) (other : z4) (w_ : List Int) : Option Int :=
 (WU m_ 0 w_).bind fun r_ =>
 (WU other 0 w_).bind fun aj =>
 (loop (fun s => jY r_ aj s) 0).bind fun t2 =>
 match t2 with
 | .inl p => Vu
 | .inr p => some p
def Xz : Option (Int × Int) :=
 some ((-1),(-1))
def jZ (m_ : z4) (other : z4) (l_ : List (List Int)) (i_ : Int) : Option (LR Int (Unit ⊕ (Int × Int))) :=
 bif decide (i_ < ((l_.length : Nat) : Int)) then (
  (idx l_ i_).bind fun bj =>
  (WQ m_ other bj).bind fun r_ =>
  bif decide (r_ ≥ 0) then (
   some (.done (.inr (i_,r_))))
  else (
   some (.next (w64 (i_ + 1)))))
 else (
  some (.done (.inl ())))
def jF (m_ : z4) (other : z4) (l_ : List (List Int)) : Option (Int × Int) :=
 (loop (fun s => jZ m_ other l_ s) 0).bind fun t2 =>
 match t2 with
 | .inl p => Xz
 | .inr p => some p
def YT (m_ : z4) (bw : List (List z5)) : Option z4 :=
 some (z4.mk m_.Inputs m_.Outputs bw)
def YS (k_ : Int) (cx : List (List z5)) : R0_ :=
 some (.next (cx,w64 (k_ + 1)))
def YR (al : List (List z5)) (k_ : Int) (row : List z5) : R0_ :=
 gd (al.length + [row].length ≤ 4294967296) <|
 YS k_ (al ++ [row])
def YQ (i_ : Int) (kx : List z5) : R2_ :=
 some (.next (kx,w64 (i_ + 1)))
def YP (ay : List z5) (i_ : Int) (ai : z5) (to : Int) : R2_ :=
 gd (ay.length + [(z5.mk to ai.Out)].length ≤ 4294967296) <|
 YQ i_ (ay ++ [(z5.mk to ai.Out)])
def kU (n_ : Int) (l4 : Int) : R7_ :=
 some (.next (l4,w64 (n_ + 1)))
def uK (l_ : List Int) (ai : z5) (j8 : Int) (n_ : Int) : R7_ :=
 bif decide (n_ < ((l_.length : Nat) : Int)) then (
  (idx l_ n_).bind fun d0 =>
  bif d0 == ai.To then (
   kU n_ n_)
  else (
   kU n_ j8))
 else (
  some (.done j8))
def uL (m_ : z4) (l_ : List Int) (k_ : Int) (ay : List z5) (i_ : Int) : R2_ :=
 bif decide (i_ < m_.Inputs) then (
  (idx l_ k_).bind fun bj =>
  (idx m_.Rows bj).bind fun am =>
  (idx am i_).bind fun ai =>
  (loop (fun s => uK l_ ai s.1 s.2) ((-1),0)).bind fun t8 =>
  YP ay i_ ai t8)
 else (
  some (.done ay))
def uM (m_ : z4) (l_ : List Int) (al : List (List z5)) (k_ : Int) : R0_ :=
 bif decide (k_ < ((l_.length : Nat) : Int)) then (
  (loop (fun s => uL m_ l_ k_ s.1 s.2) (([] : List z5),0)).bind fun t5 =>
  YR al k_ t5)
 else (
  some (.done al))
def WT (m_ : z4) (l_ : List Int) : Option z4 :=
 (loop (fun s => uM m_ l_ s.1 s.2) (([] : List (List z5)),0)).bind fun t2 =>
 YT m_ t2
def kV (m_ : z4) : Option z4 :=
 (ZH m_).bind fun r_ =>
 (WT m_ r_).bind fun aj =>
 some aj
def Vy : Option Bool :=
 some true
def YU (s_ : Int) : zgq :=
 some (.next (w64 (s_ + 1)))
def kW (a_ : z4) (b_ : z4) (s_ : Int) (i_ : Int) : zgq :=
 (idx a_.Rows s_).bind fun ky =>
 bif decide (i_ < ((ky.length : Nat) : Int)) then (
  (idx a_.Rows s_).bind fun l5 =>
  (idx l5 i_).bind fun ai =>
  (idx b_.Rows s_).bind fun l6 =>
  (idx l6 i_).bind fun aq =>
  bif !((ai.To == aq.To) && ((ai.Out == aq.Out) && true)) then (
   some (.done (.inr false)))
  else (
   some (.next (w64 (i_ + 1)))))
 else (
  some (.done (.inl ())))
def kX (a_ : z4) (b_ : z4) (s_ : Int) : zgq :=
 bif decide (s_ < ((a_.Rows.length : Nat) : Int)) then (
  (idx a_.Rows s_).bind fun am =>
  (idx b_.Rows s_).bind fun bu =>
  bif ((am.length : Nat) : Int) != ((bu.length : Nat) : Int) then (
   some (.done (.inr false)))
  else (
   (loop (fun s => kW a_ b_ s_ s) 0).bind fun t4 =>
   match t4 with
   | .inl p => YU s_
   | .inr p => some (.done (.inr p))))
 else (
  some (.done (.inl ())))
def uN (a_ : z4) (b_ : z4) : Option Bool :=
 bif a_.Inputs != b_.Inputs then (
  some false)
 else (
  bif a_.Outputs != b_.Outputs then (
   some false)
  else (
   bif ((a_.Rows.length : Nat) : Int) != ((b_.Rows.length : Nat) : Int) then (
    some false)
   else (
    (loop (fun s => kX a_ b_ s) 0).bind fun t2 =>
    match t2 with
    | .inl p => Vy
    | .inr p => some p)))
def wu (m_ : z4) : Option Bool :=
 (kV m_).bind fun aj =>
 (uN m_ aj).bind fun bc =>
 some bc
def wt (r_ : List (List Int) × List Bool) (s_ : Int) : zgq :=
 bif decide (s_ < ((r_.2.length : Nat) : Int)) then (
  (idx r_.2 s_).bind fun u_ =>
  bif !u_ then (
   some (.done (.inr false)))
  else (
   some (.next (w64 (s_ + 1)))))
 else (
  some (.done (.inl ())))
def wS (m_ : z4) : Option Bool :=
 (jI m_).bind fun r_ =>
 (loop (fun s => wt r_ s) 0).bind fun t2 =>
 match t2 with
 | .inl p => wu m_
 | .inr p => some p
def kF (a_ : z4) (b_ : z4) (bp : List (List z5)) : Option z4 :=
 some (z4.mk a_.Inputs (mx a_.Outputs b_.Outputs) bp)
def kE (s_ : Int) (da : List (List z5)) : R0_ :=
 some (.next (da,w64 (s_ + 1)))
def kD (bf : List (List z5)) (s_ : Int) (row : List z5) : R0_ :=
 gd (bf.length + [row].length ≤ 4294967296) <|
 kE s_ (bf ++ [row])
def uu (ay : List z5) (i_ : Int) (ai : z5) (dz : Int) : R2_ :=
 gd (ay.length + [(z5.mk dz ai.Out)].length ≤ 4294967296) <|
 some (.next ((ay ++ [(z5.mk dz ai.Out)]),w64 (i_ + 1)))
def xT (a_ : z4) (b_ : z4) (s_ : Int) (ay : List z5) (i_ : Int) : R2_ :=
 bif decide (i_ < b_.Inputs) then (
  (idx b_.Rows s_).bind fun am =>
  (idx am i_).bind fun ai =>
  bif decide (ai.To ≥ 0) then (
   uu ay i_ ai (w64 (ai.To + ((a_.Rows.length : Nat) : Int))))
  else (
   uu ay i_ ai ai.To))
 else (
  some (.done ay))
def xU (a_ : z4) (b_ : z4) (bf : List (List z5)) (s_ : Int) : R0_ :=
 bif decide (s_ < ((b_.Rows.length : Nat) : Int)) then (
  (loop (fun s => xT a_ b_ s_ s.1 s.2) (([] : List z5),0)).bind fun t6 =>
  kD bf s_ t6)
 else (
  some (.done bf))
def kG (a_ : z4) (b_ : z4) (cm : List (List z5)) : Option z4 :=
 (loop (fun s => xU a_ b_ s.1 s.2) (cm,0)).bind fun t3 =>
 kF a_ b_ t3
def xS (a_ : z4) (cr : List (List z5)) (ax : Int) : R0_ :=
 bif decide (ax < ((a_.Rows.length : Nat) : Int)) then (
  (idx a_.Rows ax).bind fun bu =>
  gd (cr.length + [bu].length ≤ 4294967296) <|
  some (.next ((cr ++ [bu]),w64 (ax + 1))))
 else (
  some (.done cr))
def Yc (a_ : z4) (b_ : z4) : Option z4 :=
 (loop (fun s => xS a_ s.1 s.2) (([] : List (List z5)),0)).bind fun t8 =>
 kG a_ b_ t8
abbrev ziY : Type:=Option (List Int × Bool)
def kB (w_ : List Int) : ziY :=
 some (w_,true)
abbrev zjW : Type:=Option (LR Int ((Int × Int × Int × List Int)))
def wT (i_ : Int) (mz : Int) (m0 : Bool) (m7 : Bool) (nb : Bool) (nc : Bool) (nd : Bool) : zjW :=
 some (.next (w64 (i_ + 1)))
def ur (r_ : z4) (s_ : Int) (t_ : Int) (ba : Int) (bz : List Int) (aj : List (List Bool)) (i_ : Int) : zjW :=
 bif decide (i_ < r_.Inputs) then (
  (idx r_.Rows s_).bind fun am =>
  (idx am i_).bind fun ai =>
  (idx r_.Rows t_).bind fun bu =>
  (idx bu i_).bind fun aq =>
  bif ai.Out != aq.Out then (
   gd (bz.length + [i_].length ≤ 4294967296) <|
   some (.done (ai.To,aq.To,w64 (ba - 1),(bz ++ [i_]))))
  else (
   bif decide (ai.To ≥ 0) then (
    bif decide (aq.To ≥ 0) then (
     (idx aj ai.To).bind fun dx =>
     (idx dx aq.To).bind fun jw =>
     bif jw then (
      gd (bz.length + [i_].length ≤ 4294967296) <|
      some (.done (ai.To,aq.To,w64 (ba - 1),(bz ++ [i_]))))
     else (
      wT i_ ai.To (decide (ai.To ≥ 0)) (decide (ai.To ≥ 0)) (decide (aq.To ≥ 0)) (decide (aq.To ≥ 0)) jw))
    else (
     wT i_ ai.To (decide (ai.To ≥ 0)) (decide (ai.To ≥ 0)) (decide (aq.To ≥ 0)) (decide (aq.To ≥ 0)) false))
   else (
    wT i_ ai.To (decide (ai.To ≥ 0)) (decide (ai.To ≥ 0)) false false false)))
 else (
  some (.done (s_,t_,w64 (ba - 1),bz)))
def kA (r_ : z4) (s_ : Int) (t_ : Int) (ba : Int) (bz : List Int) : Option (LR (Int × Int × Int × List Int) (List Int)) :=
 bif decide (ba > 0) then (
  (uB r_ (w64 (ba - 1))).bind fun aj =>
  (loop (fun s => ur r_ s_ t_ ba bz aj s) 0).bind fun t4 =>
  some (.next t4))
 else (
  some (.done bz))
def kC (a_ : z4) (r_ : z4) (n_ : Int) : ziY :=
 bif n_ == ((r_.Rows.length : Nat) : Int) then (
  some (([] : List Int),false))
 else (
  (loop (fun s => kA r_ s.1 s.2.1 s.2.2.1 s.2.2.2) (0,((a_.Rows.length : Nat) : Int),n_,([] : List Int))).bind fun t3 =>
  kB t3)
def uq (a_ : z4) (r_ : z4) (d9 : Int) : Option (LR Int Int) :=
 bif decide (d9 < ((r_.Rows.length : Nat) : Int)) then (
  (uB r_ d9).bind fun bc =>
  (idx bc 0).bind fun dy =>
  (idx dy ((a_.Rows.length : Nat) : Int)).bind fun lb =>
  bif !lb then (
   some (.next (w64 (d9 + 1))))
  else (
   some (.done d9)))
 else (
  some (.done d9))
def ut (a_ : z4) (b_ : z4) : ziY :=
 (Yc a_ b_).bind fun r_ =>
 (loop (fun s => uq a_ r_ s) 0).bind fun t6 =>
 kC a_ r_ t6
def Vv (gk : Int) (fz : Int) (gx : List (List z5)) (n_ : Int) : zi7 :=
 some ((z4.mk gk fz gx),n_)
abbrev zgE : Type:=Option (LR (Int × Int × List (List z5) × Int × Int) ((Int × Int × List (List z5) × Int)))
def YO (s_ : Int) (eg : Int) (du : Int) (fm : List (List z5)) (d9 : Int) : zgE :=
 some (.next (eg,du,fm,d9,w64 (s_ + 1)))
def xF (k_ : Int) (em : Int) (dv : Int) (fp : List (List z5)) (l7 : Int) : zgE :=
 some (.next (em,dv,fp,l7,w64 (k_ + 1)))
def kf (fe : Int) (k_ : Int) (ep : Int) (dw : Int) (fq : List (List z5)) : zgE :=
 xF k_ ep dw fq (w64 (fe + 1))
def xD (m_ : z4) (l_ : List (List Int)) (s_ : Int) (bi : Int) (bg : Int) (bn : List (List z5)) (fe : Int) (k_ : Int) : zgE :=
 (xc m_ s_).bind fun r_ =>
 bif decide (k_ < r_) then (
  (Xy m_ s_ k_).bind fun aj =>
  (jF m_ aj l_).bind fun bc =>
  bif decide (bc.1 ≥ 0) then (
   xF k_ bi bg bn fe)
  else (
   (wS aj).bind fun bt =>
   bif !bt then (
    xF k_ bi bg bn fe)
   else (
    (ut m_ aj).bind fun gc =>
    bif !gc.2 then (
     xF k_ bi bg bn fe)
    else (
     bif fe == 0 then (
      kf fe k_ aj.Inputs aj.Outputs aj.Rows)
     else (
      kf fe k_ bi bg bn)))))
 else (
  some (.done (bi,bg,bn,fe)))
def xE (m_ : z4) (l_ : List (List Int)) (states : Int) (cq : Int) (ce : Int) (dc : List (List z5)) (ba : Int) (s_ : Int) : zgE :=
 bif decide (s_ ≤ states) then (
  (loop (fun s => xD m_ l_ s_ s.1 s.2.1 s.2.2.1 s.2.2.2.1 s.2.2.2.2) (cq,ce,dc,ba,0)).bind fun t4 =>
  YO s_ t4.1 t4.2.1 t4.2.2.1 t4.2.2.2)
 else (
  some (.done (cq,ce,dc,ba)))
def WR (m_ : z4) (l_ : List (List Int)) (states : Int) : zi7 :=
 (loop (fun s => xE m_ l_ states s.1 s.2.1 s.2.2.1 s.2.2.2.1 s.2.2.2.2) (0,0,([] : List (List z5)),0,1)).bind fun t2 =>
 Vv t2.1 t2.2.1 t2.2.2.1 t2.2.2.2
def YE (cm : List (List z5)) : Option z4 :=
 some (z4.mk 1 2 cm)
def YD (l_ : List z5) (bp : List (List z5)) (i_ : Int) : R0_ :=
 bif decide (i_ < ((l_.length : Nat) : Int)) then (
  gd ((0 : Int) ≤ i_ ∧ (i_ : Int) ≤ w64 (i_ + 1) ∧ (w64 (i_ + 1) : Int) ≤ ((l_.length : Nat) : Int)) <|
  gd (bp.length + ([((l_.drop i_.toNat).take ((w64 (i_ + 1)).toNat - i_.toNat))] : List (List z5)).length ≤ 4294967296) <|
  some (.next ((bp ++ ([((l_.drop i_.toNat).take ((w64 (i_ + 1)).toNat - i_.toNat))] : List (List z5))),w64 (i_ + 1))))
 else (
  some (.done bp))
def Zg (l_ : List z5) : Option z4 :=
 (loop (fun s => YD l_ s.1 s.2) (([] : List (List z5)),0)).bind fun t2 =>
 YE t2
def uC (n_ : Int) : Option (List Int) :=
 gd ((0 : Int) ≤ n_ ∧ (n_ : Int) ≤ 4294967296) <|
 some (List.replicate n_.toNat (0 : Int))
def VC (m_ : z4) (other : z4) (l_ : List (List Int)) : Option Int :=
 bif m_.Inputs != other.Inputs then (
  some 5)
 else (
  (ZB l_ m_.Inputs).bind fun r_ =>
  some r_)
def VB (m_ : z4) (other : z4) (gu : Int) : R3_ :=
 bif decide (gu < (([m_,other].length : Nat) : Int)) then (
  (idx ([m_,other]) gu).bind fun i8 =>
  (yX i8).bind fun aj =>
  bif aj != 0 then (
   some (.done (.inr aj)))
  else (
   some (.next (w64 (gu + 1)))))
 else (
  some (.done (.inl ())))
def z09 (m_ : z4) (other : z4) (l_ : List (List Int)) : Option Int :=
 (loop (fun s => VB m_ other s) 0).bind fun t2 =>
 match t2 with
 | .inl p => VC m_ other l_
 | .inr p => some p
def WC : Option (Int × Int × Int) :=
 some ((-1),(-1),0)
def WB (m_ : z4) (other : z4) (l_ : List (List Int)) (ck : Int) : Option (LR Int (Unit ⊕ (Int × Int × Int))) :=
 bif decide (ck < ((l_.length : Nat) : Int)) then (
  (idx l_ ck).bind fun bj =>
  (V6 m_ other bj).bind fun aj =>
  bif aj != (-1) then (
   some (.done (.inr (ck,aj,0))))
  else (
   some (.next (w64 (ck + 1)))))
 else (
  some (.done (.inl ())))
def QQ (m_ : z4) (other : z4) (l_ : List (List Int)) : Option (Int × Int × Int) :=
 (z09 m_ other l_).bind fun r_ =>
 bif r_ != 0 then (
  some (0,0,r_))
 else (
  (loop (fun s => WB m_ other l_ s) 0).bind fun t2 =>
  match t2 with
  | .inl p => WC
  | .inr p => some p)
def XF : Option Bool :=
 (Zg ([(z5.mk 1 0),(z5.mk 0 1)])).bind fun r_ =>
 (uF r_ 1).bind fun aj =>
 (uF r_ 2).bind fun bc =>
 (uF r_ 5).bind fun bt =>
 (XJ r_ [] 1).bind fun gc =>
 (XJ r_ [] 2).bind fun jx =>
 bif aj.2 != 0 then (
  some false)
 else (
  bif bc.2 != 0 then (
   some false)
  else (
   bif bt.2 != 3 then (
    some false)
   else (
    bif gc.2 != 0 then (
     some false)
    else (
     bif jx.2 != 0 then (
      some false)
     else (
      bif aj.1 != 2 then (
       some false)
      else (
       bif bc.1 != 16 then (
        some false)
       else (
        bif gc.1 != 2 then (
         some false)
        else (
         bif jx.1 != 9 then (
          some false)
         else (
          (Y5 r_ [] 2).bind fun iv =>
          (uC 1).bind fun ig =>
          (Y5 r_ ([ig]) 2).bind fun jf =>
          (uC 3).bind fun jy =>
          (Y5 r_ ([jy]) 2).bind fun j4 =>
          (uC 4).bind fun iw =>
          (Y5 r_ ([iw]) 2).bind fun mb =>
          (uC 2).bind fun j5 =>
          (Y5 r_ ([j5]) 2).bind fun jh =>
          (Zg ([(z5.mk 0 0)])).bind fun ja =>
          (Zg ([(z5.mk 1 0),(z5.mk 1 1)])).bind fun jb =>
          bif iv.2 != 0 then (
           some false)
          else (
           bif jf.2 != 0 then (
            some false)
           else (
            bif j4.2 != 7 then (
             some false)
            else (
             bif mb.2 != 7 then (
              some false)
             else (
              bif jh.2 != 0 then (
               some false)
              else (
               (uN iv.1 ja).bind fun ng =>
               bif !ng then (
                some false)
               else (
                (uN jf.1 ja).bind fun nh =>
                bif !nh then (
                 some false)
                else (
                 (uN jh.1 jb).bind fun ni =>
                 bif !ni then (
                  some false)
                 else (
                  (uC 1).bind fun kz =>
                  (uC 3).bind fun k0 =>
                  (QQ r_ jb ([kz,k0])).bind fun ll =>
                  bif ll.2.2 == 0 then (
                   bif ll.1 == 1 then (
                    some (ll.2.1 == 2))
                   else (
                    some false))
                  else (
                   some false))))))))))))))))))
def YW (x_ : wH) (y_ : yf) (z_ : ye Int) : Option Bool :=
 (V3 (wH.mk x_.C)).bind fun r_ =>
 (Yg r_ z_.e0).bind fun aj =>
 (V2 y_).bind fun bc =>
 (Yf bc r_.Inputs).bind fun bt =>
 gd ((8 : Int) ≠ 0) <|
 gd ((0 : Int) ≤ (mn ((bt.length : Nat) : Int) (w64 (Int.tmod z_.e1 8))) ∧ ((mn ((bt.length : Nat) : Int) (w64 (Int.tmod z_.e1 8))) : Int) ≤ ((bt.length : Nat) : Int)) <|
 (Y5 r_ (bt.take (mn ((bt.length : Nat) : Int) (w64 (Int.tmod z_.e1 8))).toNat) aj).bind fun gc =>
 (XJ r_ (bt.take (mn ((bt.length : Nat) : Int) (w64 (Int.tmod z_.e1 8))).toNat) aj).bind fun jx =>
 (uF r_ aj).bind fun iv =>
 (WR r_ (bt.take (mn ((bt.length : Nat) : Int) (w64 (Int.tmod z_.e1 8))).toNat) aj).bind fun ig =>
 bif jx.2 != 0 then (
  some false)
 else (
  bif iv.2 != 0 then (
   some false)
  else (
   bif jx.1 != ig.2 then (
    some false)
   else (
    (xc r_ aj).bind fun jf =>
    bif iv.1 != jf then (
     some false)
    else (
     bif ig.2 == 0 then (
      bif gc.2 == 7 then (
       bif ((gc.1.Rows.length : Nat) : Int) == 0 then (
        (XF).bind fun jy =>
        some jy)
       else (
        some false))
      else (
       some false))
     else (
      bif gc.2 == 0 then (
       (uN gc.1 ig.1).bind fun j4 =>
       bif j4 then (
        (XF).bind fun iw =>
        some iw)
       else (
        some false))
      else (
       some false))))))
abbrev F0_:=UA (eI .i64)
abbrev F1_:=eSl 1 false (eI .u8)
abbrev F2_:=eSl 1 true (eI .i64)
abbrev F3_:=eOs 1 true (eI .i64)
abbrev F4_:=eSl 1 false (eI .u16)
abbrev F5_:=eOs 1 false (eI .i64)
abbrev F6_:=eSl 1 false (eI .i64)
abbrev F7_:=zb4 F0_
abbrev F8_:=wj (eI .i64) (eI .i64)
abbrev F9_:=eSl 1 true F2_
abbrev zib:=eSl 1 true F6_
abbrev zkH:=eSl 1 false F1_
abbrev zgG:=eOs 1 false F6_
abbrev qH:=eSl 1 false F6_
abbrev z2o:=eOs 2 true F8_
abbrev KL:=eSl 2 true F8_
abbrev zw:=eSl 2 false F8_
abbrev xJ:=eOs 2 false F8_
abbrev KK:=VJ (eI .i64) F7_
abbrev z74:=Yi (eI .u8) zkH
abbrev zkG:=eSl 1 true KL
abbrev zkF:=eSl 1 false KL
abbrev zkE:=eSl 1 false zw
abbrev US:=qE (eI .u8) (eI .u8) (eI .u8) F1_ F4_
abbrev zbG:=y5 (eI .i64) (eI .i64) zkG
abbrev zbO:=y5 (eI .i64) (eI .i64) zkF
abbrev ze:=y5 (eI .i64) (eI .i64) zkE
abbrev z4J:=eSp ze
def rpN {α : Type _} (n : Nat) (a : α) (l : List α) : List α:=Nat.rec l (fun _ r => a :: r) n
abbrev aLn (n : Nat) : H:=.a (.atom (.int .i64 ((n : Nat) : Int)))
end Go.Own
