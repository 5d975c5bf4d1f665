/- -/
import Derived.Test.YtedigoohmnbjfaaGreatPartC
import Derived.Test.YtedigoohmnbjfaaGreatProg
import Derived.Test.YtedigoohmnbjfaaGreatPartD
import Derived.Test.YtedigoohmnbjfaaGreatChecked
import Derived.Lib.AppendZerosOnto
import Derived.Lib.SliceRun
import Derived.WalkKit
import Derived.Lib.Walk
import Derived.Test.YtedigoohmnbjfaaGreatPartE
import Derived.Recover
import Derived.Defers
import Derived.Tactics2
set_option linter.unusedVariables false
set_option linter.unusedSimpArgs false
namespace Go.Ex
open Go.Proofs.Tryz
open Go.Proofs
def i32:EI:=⟨.slice 51,1,24,some [.slice none 0 0],false⟩
theorem q3:EqP prog 3 [.int .i64 0] false 1:=z8S (k:=.int .i64) underlying3 ⟨_,(by kernel_rfl:prog.info? 3=some Tryz.t3),rfl⟩ rfl
theorem q36:EqP prog 36 (zeA 3 [.int .i64 0]) true 2:=WR underlying36 q3 ⟨_,(by kernel_rfl:prog.info? 36=some t36),rfl⟩
def i36:EI:=⟨.array 3 3,3,24,some [.int .i64 0,.int .i64 0,.int .i64 0],true⟩
theorem zvT:zgP prog 36 i36:=⟨⟨t36,by kernel_rfl,rfl,rfl,λz h=>by cases h;exact⟨_,rfl,rfl,JG rfl,rfl,⟨_,rfl⟩⟩⟩,underlying36,λ_=>XF q36 rfl rfl (gR (by kernel_rfl)) (by decide)⟩
theorem q33:EqP prog 33 [.int .i64 0] false 1:=z8S (k:=.int .i64) underlying33 ⟨_,(by kernel_rfl:prog.info? 33=some t33),rfl⟩ rfl
theorem q45:EqP prog 45 (zeA 3 [.int .i64 0]) true 2:=WR underlying45 q33 ⟨_,(by kernel_rfl:prog.info? 45=some Tryz.t45),rfl⟩
def i45:EI:=⟨.array 3 33,3,24,some [.int .i64 0,.int .i64 0,.int .i64 0],true⟩
theorem zBu:zgP prog 45 i45:=⟨⟨Tryz.t45,by kernel_rfl,rfl,rfl,λz h=>by cases h;exact⟨_,rfl,rfl,JG rfl,rfl,⟨_,rfl⟩⟩⟩,underlying45,λ_=>XF q45 rfl rfl (gR (by kernel_rfl)) (by decide)⟩
def i64:EI:=⟨.func,1,8,some [.nilFunc],false⟩
theorem q5:EqP prog 5 [.int .u8 0] false 1:=z8S (k:=.int .u8) underlying5 ⟨_,(by kernel_rfl:prog.info? 5=some Tryz.t5),rfl⟩ rfl
theorem q97:EqP prog 97 (zeA 4 [.int .u8 0]) true 2:=WR underlying97 q5 ⟨_,(by kernel_rfl:prog.info? 97=some t97),rfl⟩
def i97:EI:=⟨.array 4 5,4,4,some [.int .u8 0,.int .u8 0,.int .u8 0,.int .u8 0],true⟩
theorem zBt:zgP prog 97 i97:=⟨⟨t97,by kernel_rfl,rfl,rfl,λz h=>by cases h;exact⟨_,rfl,rfl,JG rfl,rfl,⟨_,rfl⟩⟩⟩,underlying97,λ_=>XF q97 rfl rfl (gR (by kernel_rfl)) (by decide)⟩
theorem q98:EqP prog 98 (z0u [([.int .i64 0],false),([.int .i64 0],false)]) true 2:=QH underlying98 (by kernel_rfl) ⟨_,(by kernel_rfl:prog.info? 98=some t98),rfl⟩ (by decide) (yC.cons (by decide) rfl (q3.mono (by decide)) (yC.cons (by decide) rfl (q3.mono (by decide)) (yC.nil)))
def i98:EI:=⟨.struct [(0,3),(1,3)],2,16,some [.int .i64 0,.int .i64 0],true⟩
theorem zBs:zgP prog 98 i98:=⟨⟨t98,by kernel_rfl,rfl,rfl,λz h=>by cases h;exact⟨_,rfl,rfl,JG rfl,rfl,⟨_,rfl⟩⟩⟩,⟨_,underlying98,by kernel_rfl,by
  intro f hf;simp only[pD,pX,or_false]at hf;rcases hf with rfl|rfl
  ·exact⟨Tryz.t3,by kernel_rfl⟩
  ·exact⟨Tryz.t3,by kernel_rfl⟩⟩,λ_=>XF q98 rfl rfl (gR (by kernel_rfl)) (by decide)⟩
theorem q99:EqP prog 99 (z0u [([.int .i64 0],false),([.int .i64 0],false)]) true 2:=QH underlying99 (by kernel_rfl) ⟨_,(by kernel_rfl:prog.info? 99=some t99),rfl⟩ (by decide) (yC.cons (by decide) rfl (q3.mono (by decide)) (yC.cons (by decide) rfl (q3.mono (by decide)) (yC.nil)))
def i99:EI:=⟨.struct [(0,3),(1,3)],2,16,some [.int .i64 0,.int .i64 0],true⟩
theorem zvS:zgP prog 99 i99:=⟨⟨t99,by kernel_rfl,rfl,rfl,λz h=>by cases h;exact⟨_,rfl,rfl,JG rfl,rfl,⟨_,rfl⟩⟩⟩,⟨_,underlying99,by kernel_rfl,by
  intro f hf;simp only[pD,pX,or_false]at hf;rcases hf with rfl|rfl
  ·exact⟨Tryz.t3,by kernel_rfl⟩
  ·exact⟨Tryz.t3,by kernel_rfl⟩⟩,λ_=>XF q99 rfl rfl (gR (by kernel_rfl)) (by decide)⟩
theorem zCY:EqP prog 120 (zeA 5 [.int .i64 0]) true 2:=WR underlying120 q33 ⟨_,(by kernel_rfl:prog.info? 120=some t120),rfl⟩
def zDc:EI:=⟨.array 5 33,5,40,some [.int .i64 0,.int .i64 0,.int .i64 0,.int .i64 0,.int .i64 0],true⟩
theorem zsr:zgP prog 120 zDc:=⟨⟨t120,by kernel_rfl,rfl,rfl,λz h=>by cases h;exact⟨_,rfl,rfl,JG rfl,rfl,⟨_,rfl⟩⟩⟩,underlying120,λ_=>XF zCY rfl rfl (gR (by kernel_rfl)) (by decide)⟩
theorem q21:EqP prog 21 [.int .i32 0] false 1:=z8S (k:=.int .i32) underlying21 ⟨_,(by kernel_rfl:prog.info? 21=some t21),rfl⟩ rfl
theorem zCX:EqP prog 161 (zeA 16 [.int .i32 0]) true 2:=WR underlying161 q21 ⟨_,(by kernel_rfl:prog.info? 161=some t161),rfl⟩
def zDb:EI:=⟨.array 16 21,16,64,some [.int .i32 0,.int .i32 0,.int .i32 0,.int .i32 0,.int .i32 0,.int .i32 0,.int .i32 0,.int .i32 0,.int .i32 0,.int .i32 0,.int .i32 0,.int .i32 0,.int .i32 0,.int .i32 0,.int .i32 0,.int .i32 0],true⟩
theorem zzK:zgP prog 161 zDb:=⟨⟨t161,by kernel_rfl,rfl,rfl,λz h=>by cases h;exact⟨_,rfl,rfl,JG rfl,rfl,⟨_,rfl⟩⟩⟩,underlying161,λ_=>XF zCX rfl rfl (gR (by kernel_rfl)) (by decide)⟩
theorem zCW:EqP prog 162 (zeA 16 [.int .i32 0]) true 2:=WR underlying162 q21 ⟨_,(by kernel_rfl:prog.info? 162=some t162),rfl⟩
def zDa:EI:=⟨.array 16 21,16,64,some [.int .i32 0,.int .i32 0,.int .i32 0,.int .i32 0,.int .i32 0,.int .i32 0,.int .i32 0,.int .i32 0,.int .i32 0,.int .i32 0,.int .i32 0,.int .i32 0,.int .i32 0,.int .i32 0,.int .i32 0,.int .i32 0],true⟩
theorem zsq:zgP prog 162 zDa:=⟨⟨t162,by kernel_rfl,rfl,rfl,λz h=>by cases h;exact⟨_,rfl,rfl,JG rfl,rfl,⟨_,rfl⟩⟩⟩,underlying162,λ_=>XF zCW rfl rfl (gR (by kernel_rfl)) (by decide)⟩
theorem zCV:EqP prog 216 (z0u [([.int .i64 0],false),([.int .i64 0],false),([.int .i64 0],false)]) true 2:=QH underlying216 (by kernel_rfl) ⟨_,(by kernel_rfl:prog.info? 216=some t216),rfl⟩ (by decide) (yC.cons (by decide) rfl (q3.mono (by decide)) (yC.cons (by decide) rfl (q3.mono (by decide)) (yC.cons (by decide) rfl (q3.mono (by decide)) (yC.nil))))
def zD9:EI:=⟨.struct [(0,3),(1,3),(2,3)],3,24,some [.int .i64 0,.int .i64 0,.int .i64 0],true⟩
theorem zzJ:zgP prog 216 zD9:=⟨⟨t216,by kernel_rfl,rfl,rfl,λz h=>by cases h;exact⟨_,rfl,rfl,JG rfl,rfl,⟨_,rfl⟩⟩⟩,⟨_,underlying216,by kernel_rfl,by
  intro f hf;simp only[pD,pX,or_false]at hf;rcases hf with rfl|rfl|rfl
  ·exact⟨Tryz.t3,by kernel_rfl⟩
  ·exact⟨Tryz.t3,by kernel_rfl⟩
  ·exact⟨Tryz.t3,by kernel_rfl⟩⟩,λ_=>XF zCV rfl rfl (gR (by kernel_rfl)) (by decide)⟩
theorem zCU:EqP prog 217 (z0u [([.int .i64 0],false),([.int .i64 0],false),([.int .i64 0],false)]) true 2:=QH underlying217 (by kernel_rfl) ⟨_,(by kernel_rfl:prog.info? 217=some t217),rfl⟩ (by decide) (yC.cons (by decide) rfl (q3.mono (by decide)) (yC.cons (by decide) rfl (q3.mono (by decide)) (yC.cons (by decide) rfl (q3.mono (by decide)) (yC.nil))))
def zD8:EI:=⟨.struct [(0,3),(1,3),(2,3)],3,24,some [.int .i64 0,.int .i64 0,.int .i64 0],true⟩
theorem zsp:zgP prog 217 zD8:=⟨⟨t217,by kernel_rfl,rfl,rfl,λz h=>by cases h;exact⟨_,rfl,rfl,JG rfl,rfl,⟨_,rfl⟩⟩⟩,⟨_,underlying217,by kernel_rfl,by
  intro f hf;simp only[pD,pX,or_false]at hf;rcases hf with rfl|rfl|rfl
  ·exact⟨Tryz.t3,by kernel_rfl⟩
  ·exact⟨Tryz.t3,by kernel_rfl⟩
  ·exact⟨Tryz.t3,by kernel_rfl⟩⟩,λ_=>XF zCU rfl rfl (gR (by kernel_rfl)) (by decide)⟩
theorem zzq:EqP prog 227 (zeA 2 [.int .i64 0]) true 2:=WR underlying227 q3 ⟨_,(by kernel_rfl:prog.info? 227=some t227),rfl⟩
def zD7:EI:=⟨.array 2 3,2,16,some [.int .i64 0,.int .i64 0],true⟩
theorem zso:zgP prog 227 zD7:=⟨⟨t227,by kernel_rfl,rfl,rfl,λz h=>by cases h;exact⟨_,rfl,rfl,JG rfl,rfl,⟨_,rfl⟩⟩⟩,underlying227,λ_=>XF zzq rfl rfl (gR (by kernel_rfl)) (by decide)⟩
theorem zCT:EqP prog 255 (zeA 16 [.int .i64 0,.int .i64 0]) true 3:=WR underlying255 zzq ⟨_,(by kernel_rfl:prog.info? 255=some t255),rfl⟩
def zD6:EI:=⟨.array 16 227,32,256,some [.int .i64 0,.int .i64 0,.int .i64 0,.int .i64 0,.int .i64 0,.int .i64 0,.int .i64 0,.int .i64 0,.int .i64 0,.int .i64 0,.int .i64 0,.int .i64 0,.int .i64 0,.int .i64 0,.int .i64 0,.int .i64 0,.int .i64 0,.int .i64 0,.int .i64 0,.int .i64 0,.int .i64 0,.int .i64 0,.int .i64 0,.int .i64 0,.int .i64 0,.int .i64 0,.int .i64 0,.int .i64 0,.int .i64 0,.int .i64 0,.int .i64 0,.int .i64 0],true⟩
theorem zzI:zgP prog 255 zD6:=⟨⟨t255,by kernel_rfl,rfl,rfl,λz h=>by cases h;exact⟨_,rfl,rfl,JG rfl,rfl,⟨_,rfl⟩⟩⟩,underlying255,λ_=>XF zCT rfl rfl (gR (by kernel_rfl)) (by decide)⟩
theorem zzp:EqP prog 256 (zeA 16 [.int .i64 0,.int .i64 0]) true 3:=WR underlying256 zzq ⟨_,(by kernel_rfl:prog.info? 256=some t256),rfl⟩
def zD5:EI:=⟨.array 16 227,32,256,some [.int .i64 0,.int .i64 0,.int .i64 0,.int .i64 0,.int .i64 0,.int .i64 0,.int .i64 0,.int .i64 0,.int .i64 0,.int .i64 0,.int .i64 0,.int .i64 0,.int .i64 0,.int .i64 0,.int .i64 0,.int .i64 0,.int .i64 0,.int .i64 0,.int .i64 0,.int .i64 0,.int .i64 0,.int .i64 0,.int .i64 0,.int .i64 0,.int .i64 0,.int .i64 0,.int .i64 0,.int .i64 0,.int .i64 0,.int .i64 0,.int .i64 0,.int .i64 0],true⟩
theorem zsn:zgP prog 256 zD5:=⟨⟨t256,by kernel_rfl,rfl,rfl,λz h=>by cases h;exact⟨_,rfl,rfl,JG rfl,rfl,⟨_,rfl⟩⟩⟩,underlying256,λ_=>XF zzp rfl rfl (gR (by kernel_rfl)) (by decide)⟩
theorem zCS:EqP prog 258 (z0u [([.int .i64 0],false),([.int .i64 0,.int .i64 0,.int .i64 0,.int .i64 0,.int .i64 0,.int .i64 0,.int .i64 0,.int .i64 0,.int .i64 0,.int .i64 0,.int .i64 0,.int .i64 0,.int .i64 0,.int .i64 0,.int .i64 0,.int .i64 0,.int .i64 0,.int .i64 0,.int .i64 0,.int .i64 0,.int .i64 0,.int .i64 0,.int .i64 0,.int .i64 0,.int .i64 0,.int .i64 0,.int .i64 0,.int .i64 0,.int .i64 0,.int .i64 0,.int .i64 0,.int .i64 0],true)]) true 4:=QH underlying258 (by kernel_rfl) ⟨_,(by kernel_rfl:prog.info? 258=some t258),rfl⟩ (by decide) (yC.cons (by decide) rfl (q3.mono (by decide)) (yC.cons (by decide) rfl (zzp.mono (by decide)) (yC.nil)))
def zD4:EI:=⟨.struct [(0,3),(1,256)],33,264,some [.int .i64 0,.int .i64 0,.int .i64 0,.int .i64 0,.int .i64 0,.int .i64 0,.int .i64 0,.int .i64 0,.int .i64 0,.int .i64 0,.int .i64 0,.int .i64 0,.int .i64 0,.int .i64 0,.int .i64 0,.int .i64 0,.int .i64 0,.int .i64 0,.int .i64 0,.int .i64 0,.int .i64 0,.int .i64 0,.int .i64 0,.int .i64 0,.int .i64 0,.int .i64 0,.int .i64 0,.int .i64 0,.int .i64 0,.int .i64 0,.int .i64 0,.int .i64 0,.int .i64 0],true⟩
theorem zzH:zgP prog 258 zD4:=⟨⟨t258,by kernel_rfl,rfl,rfl,λz h=>by cases h;exact⟨_,rfl,rfl,JG rfl,rfl,⟨_,rfl⟩⟩⟩,⟨_,underlying258,by kernel_rfl,by
  intro f hf;simp only[pD,pX,or_false]at hf;rcases hf with rfl|rfl
  ·exact⟨Tryz.t3,by kernel_rfl⟩
  ·exact⟨t256,by kernel_rfl⟩⟩,λ_=>XF zCS rfl rfl (gR (by kernel_rfl)) (by decide)⟩
theorem zCR:EqP prog 259 (z0u [([.int .i64 0],false),([.int .i64 0,.int .i64 0,.int .i64 0,.int .i64 0,.int .i64 0,.int .i64 0,.int .i64 0,.int .i64 0,.int .i64 0,.int .i64 0,.int .i64 0,.int .i64 0,.int .i64 0,.int .i64 0,.int .i64 0,.int .i64 0,.int .i64 0,.int .i64 0,.int .i64 0,.int .i64 0,.int .i64 0,.int .i64 0,.int .i64 0,.int .i64 0,.int .i64 0,.int .i64 0,.int .i64 0,.int .i64 0,.int .i64 0,.int .i64 0,.int .i64 0,.int .i64 0],true)]) true 4:=QH underlying259 (by kernel_rfl) ⟨_,(by kernel_rfl:prog.info? 259=some t259),rfl⟩ (by decide) (yC.cons (by decide) rfl (q3.mono (by decide)) (yC.cons (by decide) rfl (zzp.mono (by decide)) (yC.nil)))
def zD3:EI:=⟨.struct [(0,3),(1,256)],33,264,some [.int .i64 0,.int .i64 0,.int .i64 0,.int .i64 0,.int .i64 0,.int .i64 0,.int .i64 0,.int .i64 0,.int .i64 0,.int .i64 0,.int .i64 0,.int .i64 0,.int .i64 0,.int .i64 0,.int .i64 0,.int .i64 0,.int .i64 0,.int .i64 0,.int .i64 0,.int .i64 0,.int .i64 0,.int .i64 0,.int .i64 0,.int .i64 0,.int .i64 0,.int .i64 0,.int .i64 0,.int .i64 0,.int .i64 0,.int .i64 0,.int .i64 0,.int .i64 0,.int .i64 0],true⟩
theorem zlo:zgP prog 259 zD3:=⟨⟨t259,by kernel_rfl,rfl,rfl,λz h=>by cases h;exact⟨_,rfl,rfl,JG rfl,rfl,⟨_,rfl⟩⟩⟩,⟨_,underlying259,by kernel_rfl,by
  intro f hf;simp only[pD,pX,or_false]at hf;rcases hf with rfl|rfl
  ·exact⟨Tryz.t3,by kernel_rfl⟩
  ·exact⟨t256,by kernel_rfl⟩⟩,λ_=>XF zCR rfl rfl (gR (by kernel_rfl)) (by decide)⟩
end Go.Ex

namespace Go.Own
open Go.Proofs.Tryz
open Go.Proofs
def zzF:Value->Bool
 | .int _ _=>true
 | _=>false
theorem zfd:∀{z vs us:List Value} {r:Bool},z.all zzF=true->z.length=vs.length->w7 vs us=some r->Go.Ex.zdK z vs=true/\Go.Ex.w7 vs us=some r
 | [],[],us,r,_,_,h=>by
  cases us with
  | nil=>simp only[w7,Option.some.injEq]at h;subst h;exact⟨rfl,rfl⟩
  | cons u us=>simp[w7]at h
 | a::z,v::vs,us,r,hz,hl,h=>by
  have q:∃k x u' k' y,v=.int k x/\us=.int k' y::u'/\k=k':=by
   cases us with
   | nil=>cases v <;> simp[w7]at h
   | cons u us=>cases v <;> cases u <;> simp[w7]at h;exact⟨_,_,_,_,_,rfl,rfl,h.1⟩
  obtain⟨k,x,u',k',y,rfl,rfl,hk⟩:=q;simp only[w7,hk,if_true,pZ]at h;obtain⟨r',e1,rfl⟩:=h;simp only[List.all_cons,pJ]at hz;obtain⟨q1,q2⟩:=zfd hz.2 (by simpa using hl) e1;refine⟨?_,by simp[Go.Ex.w7,hk,q2]⟩;cases a <;> first|(simp[zzF]at hz;done)|simpa[Go.Ex.zdK] using q1
 | [],_::_,_,_,_,hl,_=>by simp at hl
 | _::_,[],_,_,_,hl,_=>by simp at hl
variable {P:Program}
theorem z2N {t n:Nat}{i:Go.Ex.EI}(h:Go.Ex.zqF P t i){z:List Value}(hz:i.zero=some z)(hi:z.all zzF=true)(hs:i.size=n)(hn:z.length=n):zqF P t n:={
 guard:=h.guard
 run:=λvs us r w hv hu he=>by obtain⟨q1,q2⟩:=zfd hi (by rw[hn,hv]) he;exact h.run vs us r w (by rw[hs];exact hv) (by rw[hs];exact hu) (by simpa only[Go.Ex.zzM,hz] using q1) q2 }
variable {h:Array Obj}{S:zo}
theorem zg {v:Value}(hv:v.oneCell'=true):zU S h (.atom v) [v] []:=by simp only[zU,Rep];exact⟨⟨trivial,hv⟩,trivial⟩
theorem yT (sz:Nat):zU S h (.osl sz true []) [.slice none 0 0] []:=by simp only[zU];exact⟨none,0,rfl,(λ_=>rfl),pC _,pT _,by simp,.inl ⟨trivial,rfl,rfl,trivial⟩⟩
theorem zhR {sz:Nat}:zU S h (.dop (nlQ sz [])) [.slice none 0 0] []:=by simp only[zU,Rep];exact⟨⟨_,rfl,zkH.2 ⟨by simp[Rep],λ_=>rfl⟩⟩,trivial⟩
variable {a:A}
theorem z5y {c:List Value}(q:zU S h a c []):∀n,zZ S h (List.replicate n a) (List.replicate n c).flatten []
 | 0=>by simp[zZ]
 | n+1=>by rw[nI,nI,List.flatten_cons];simp only[zZ];exact⟨c,_,[],[],rfl,rfl,q,z5y q n⟩
theorem zw7 {c c':List Value}(q:zU S h a c [])(e:c'=c):zU S h a c' []:=e ▸ q
variable {fs:List A}
theorem zL {cs:List Value}(q:zZ S h fs cs []):zU S h (.agg fs) cs []:=by simpa only[zU] using q
theorem zH:zZ S h [] [] []:=by simp[zZ]
theorem zf {c1 c2:List Value}(q1:zU S h a c1 [])(q2:zZ S h fs c2 []):zZ S h (a::fs) (c1++c2) []:=by simp only[zZ];exact⟨c1,c2,[],[],rfl,rfl,q1,q2⟩
def ti1:TI:=⟨.other,1,8,some (.atom .nilFunc),false⟩
theorem zup:jC prog 1 ti1:=⟨⟨Tryz.t1,by kernel_rfl,rfl,rfl,λz h=>by cases h;exact⟨_,rfl,rfl,λS h=>zg rfl⟩⟩,⟨_,underlying1,rfl⟩,by intro h;cases h⟩
def ti2:TI:=⟨.int .i64,1,8,some (.atom (.int .i64 0)),false⟩
theorem zu1:jC prog 2 ti2:=⟨⟨Tryz.t2,by kernel_rfl,rfl,rfl,λz h=>by cases h;exact⟨_,rfl,rfl,λS h=>zg rfl⟩⟩,underlying2,by intro h;cases h⟩
def ti3:TI:=⟨.int .i64,1,8,some (.atom (.int .i64 0)),false⟩
theorem zu0:jC prog 3 ti3:=⟨⟨Tryz.t3,by kernel_rfl,rfl,rfl,λz h=>by cases h;exact⟨_,rfl,rfl,λS h=>zg rfl⟩⟩,underlying3,by intro h;cases h⟩
def ti4:TI:=⟨.bool,1,1,some (.atom (.bool false)),false⟩
theorem ztZ:jC prog 4 ti4:=⟨⟨Tryz.t4,by kernel_rfl,rfl,rfl,λz h=>by cases h;exact⟨_,rfl,rfl,λS h=>zg rfl⟩⟩,underlying4,by intro h;cases h⟩
def ti5:TI:=⟨.int .u8,1,1,some (.atom (.int .u8 0)),false⟩
theorem ztY:jC prog 5 ti5:=⟨⟨Tryz.t5,by kernel_rfl,rfl,rfl,λz h=>by cases h;exact⟨_,rfl,rfl,λS h=>zg rfl⟩⟩,underlying5,by intro h;cases h⟩
def ti9:TI:=⟨.str,1,16,some (.atom (.string ⟨#[]⟩)),false⟩
theorem ztX:jC prog 9 ti9:=⟨⟨Tryz.t9,by kernel_rfl,rfl,rfl,λz h=>by cases h;exact⟨_,rfl,rfl,λS h=>zg rfl⟩⟩,underlying9,by intro h;cases h⟩
def zB3:TI:=⟨.other,1,16,some (.atom .nilIface),false⟩
theorem zrc:jC prog 20 zB3:=⟨⟨t20,by kernel_rfl,rfl,rfl,λz h=>by cases h;exact⟨_,rfl,rfl,λS h=>zg rfl⟩⟩,⟨_,underlying20,rfl⟩,by intro h;cases h⟩
def zB2:TI:=⟨.int .i32,1,4,some (.atom (.int .i32 0)),false⟩
theorem zrb:jC prog 21 zB2:=⟨⟨t21,by kernel_rfl,rfl,rfl,λz h=>by cases h;exact⟨_,rfl,rfl,λS h=>zg rfl⟩⟩,underlying21,by intro h;cases h⟩
def zB1:TI:=⟨.slice 5,1,24,some (.osl 1 true []),false⟩
theorem zra:jC prog 22 zB1:=⟨⟨Tryz.t22,by kernel_rfl,rfl,rfl,λz h=>by cases h;exact⟨_,rfl,rfl,λS h=>yT _⟩⟩,underlying22,by intro h;cases h⟩
def zB0:TI:=⟨.slice 43,1,24,some (.osl 1 true []),false⟩
theorem zr9:jC prog 23 zB0:=⟨⟨t23,by kernel_rfl,rfl,rfl,λz h=>by cases h;exact⟨_,rfl,rfl,λS h=>yT _⟩⟩,underlying23,by intro h;cases h⟩
def zAZ:TI:=⟨.struct [(0,1),(1,1),(2,1),(3,1),(4,1)],5,56,some (.agg [.atom (.int .u8 0),.atom (.int .u8 0),.atom (.int .u8 0),.osl 1 true [],.osl 1 true []]),false⟩
theorem zr8:jC prog 25 zAZ:=⟨⟨Tryz.t25,by kernel_rfl,rfl,rfl,λz h=>by cases h;exact⟨_,rfl,rfl,λS h=>zL (zf (zg rfl) (zf (zg rfl) (zf (zg rfl) (zf (yT _) (zf (yT _) (zH))))))⟩⟩,⟨_,underlying25,by kernel_rfl,by
  intro f hf;simp only[pD,pX,or_false]at hf;rcases hf with rfl|rfl|rfl|rfl|rfl
  ·exact⟨Tryz.t5,by kernel_rfl⟩
  ·exact⟨Tryz.t5,by kernel_rfl⟩
  ·exact⟨Tryz.t5,by kernel_rfl⟩
  ·exact⟨Tryz.t22,by kernel_rfl⟩
  ·exact⟨t23,by kernel_rfl⟩⟩,by intro h;cases h⟩
def zAY:TI:=⟨.struct [(0,5)],5,56,some (.agg [.agg [.atom (.int .u8 0),.atom (.int .u8 0),.atom (.int .u8 0),.osl 1 true [],.osl 1 true []]]),false⟩
theorem zr7:jC prog 27 zAY:=⟨⟨t27,by kernel_rfl,rfl,rfl,λz h=>by cases h;exact⟨_,rfl,rfl,λS h=>zL (zf (zL (zf (zg rfl) (zf (zg rfl) (zf (zg rfl) (zf (yT _) (zf (yT _) (zH))))))) (zH))⟩⟩,⟨_,underlying27,by kernel_rfl,by
  intro f hf;simp only[pD,pX,or_false]at hf;rcases hf with rfl
  ·exact⟨Tryz.t25,by kernel_rfl⟩⟩,by intro h;cases h⟩
def zAX:TI:=⟨.slice 96,1,24,some (.osl 1 true []),false⟩
theorem zr6:jC prog 28 zAX:=⟨⟨t28,by kernel_rfl,rfl,rfl,λz h=>by cases h;exact⟨_,rfl,rfl,λS h=>yT _⟩⟩,underlying28,by intro h;cases h⟩
def zAW:TI:=⟨.struct [(0,1),(1,1),(2,1)],3,40,some (.agg [.atom (.int .i64 0),.atom (.int .i64 0),.osl 1 true []]),false⟩
theorem zr5:jC prog 30 zAW:=⟨⟨t30,by kernel_rfl,rfl,rfl,λz h=>by cases h;exact⟨_,rfl,rfl,λS h=>zL (zf (zg rfl) (zf (zg rfl) (zf (yT _) (zH))))⟩⟩,⟨_,underlying30,by kernel_rfl,by
  intro f hf;simp only[pD,pX,or_false]at hf;rcases hf with rfl|rfl|rfl
  ·exact⟨Tryz.t3,by kernel_rfl⟩
  ·exact⟨Tryz.t3,by kernel_rfl⟩
  ·exact⟨t28,by kernel_rfl⟩⟩,by intro h;cases h⟩
def zAV:TI:=⟨.slice 51,1,24,some (.osl 1 true []),false⟩
theorem zr4:jC prog 32 zAV:=⟨⟨t32,by kernel_rfl,rfl,rfl,λz h=>by cases h;exact⟨_,rfl,rfl,λS h=>yT _⟩⟩,underlying32,by intro h;cases h⟩
def zAU:TI:=⟨.int .i64,1,8,some (.atom (.int .i64 0)),false⟩
theorem zr3:jC prog 33 zAU:=⟨⟨t33,by kernel_rfl,rfl,rfl,λz h=>by cases h;exact⟨_,rfl,rfl,λS h=>zg rfl⟩⟩,underlying33,by intro h;cases h⟩
def zAT:TI:=⟨.array 3 3,3,24,some (.agg [.atom (.int .i64 0),.atom (.int .i64 0),.atom (.int .i64 0)]),true⟩
theorem zr2:jC prog 36 zAT:=⟨⟨t36,by kernel_rfl,rfl,rfl,λz h=>by cases h;exact⟨_,rfl,rfl,λS h=>zL (zf (zg rfl) (zf (zg rfl) (zf (zg rfl) (zH))))⟩⟩,underlying36,λ_=>z2N (Go.Ex.zvT.eqn rfl) rfl rfl rfl rfl⟩
def zAS:TI:=⟨.other,1,8,some (.atom .nilFunc),false⟩
theorem zr1:jC prog 41 zAS:=⟨⟨t41,by kernel_rfl,rfl,rfl,λz h=>by cases h;exact⟨_,rfl,rfl,λS h=>zg rfl⟩⟩,⟨_,underlying41,rfl⟩,by intro h;cases h⟩
def zAR:TI:=⟨.int .u16,1,2,some (.atom (.int .u16 0)),false⟩
theorem zr0:jC prog 43 zAR:=⟨⟨t43,by kernel_rfl,rfl,rfl,λz h=>by cases h;exact⟨_,rfl,rfl,λS h=>zg rfl⟩⟩,underlying43,by intro h;cases h⟩
def zAQ:TI:=⟨.slice 3,1,24,some (.osl 1 true []),false⟩
theorem zqZ:jC prog 51 zAQ:=⟨⟨t51,by kernel_rfl,rfl,rfl,λz h=>by cases h;exact⟨_,rfl,rfl,λS h=>yT _⟩⟩,underlying51,by intro h;cases h⟩
def zAP:TI:=⟨.struct [],0,0,some (.agg []),false⟩
theorem zqY:jC prog 77 zAP:=⟨⟨Tryz.t77,by kernel_rfl,rfl,rfl,λz h=>by cases h;exact⟨_,rfl,rfl,λS h=>zL (zH)⟩⟩,⟨_,underlying77,by kernel_rfl,by intro f hf;cases hf⟩,by intro h;cases h⟩
def zAO:TI:=⟨.struct [],0,0,some (.agg []),false⟩
theorem zqX:jC prog 78 zAO:=⟨⟨t78,by kernel_rfl,rfl,rfl,λz h=>by cases h;exact⟨_,rfl,rfl,λS h=>zL (zH)⟩⟩,⟨_,underlying78,by kernel_rfl,by intro f hf;cases hf⟩,by intro h;cases h⟩
def zAN:TI:=⟨.struct [],0,0,some (.agg []),false⟩
theorem zqW:jC prog 79 zAN:=⟨⟨t79,by kernel_rfl,rfl,rfl,λz h=>by cases h;exact⟨_,rfl,rfl,λS h=>zL (zH)⟩⟩,⟨_,underlying79,by kernel_rfl,by intro f hf;cases hf⟩,by intro h;cases h⟩
def zAM:TI:=⟨.ptr 119,1,8,some (.atom (.pointer none)),false⟩
theorem zqV:jC prog 80 zAM:=⟨⟨t80,by kernel_rfl,rfl,rfl,λz h=>by cases h;exact⟨_,rfl,rfl,λS h=>zg rfl⟩⟩,underlying80,by intro h;cases h⟩
def zAL:TI:=⟨.slice 85,1,24,some (.osl 1 true []),false⟩
theorem zqU:jC prog 83 zAL:=⟨⟨t83,by kernel_rfl,rfl,rfl,λz h=>by cases h;exact⟨_,rfl,rfl,λS h=>yT _⟩⟩,underlying83,by intro h;cases h⟩
def zAK:TI:=⟨.other,1,16,some (.atom .nilIface),false⟩
theorem zqT:jC prog 85 zAK:=⟨⟨t85,by kernel_rfl,rfl,rfl,λz h=>by cases h;exact⟨_,rfl,rfl,λS h=>zg rfl⟩⟩,⟨_,underlying85,rfl⟩,by intro h;cases h⟩
def zAJ:TI:=⟨.ptr 91,1,8,some (.atom (.pointer none)),false⟩
theorem zqS:jC prog 86 zAJ:=⟨⟨t86,by kernel_rfl,rfl,rfl,λz h=>by cases h;exact⟨_,rfl,rfl,λS h=>zg rfl⟩⟩,underlying86,by intro h;cases h⟩
def zAI:TI:=⟨.slice 162,1,24,some (.osl 16 true []),false⟩
theorem zqR:jC prog 89 zAI:=⟨⟨t89,by kernel_rfl,rfl,rfl,λz h=>by cases h;exact⟨_,rfl,rfl,λS h=>yT _⟩⟩,underlying89,by intro h;cases h⟩
def zAH:TI:=⟨.struct [(0,1),(1,1),(2,1)],3,40,some (.agg [.osl 16 true [],.atom (.int .i64 0),.atom (.int .i64 0)]),false⟩
theorem zqQ:jC prog 91 zAH:=⟨⟨t91,by kernel_rfl,rfl,rfl,λz h=>by cases h;exact⟨_,rfl,rfl,λS h=>zL (zf (yT _) (zf (zg rfl) (zf (zg rfl) (zH))))⟩⟩,⟨_,underlying91,by kernel_rfl,by
  intro f hf;simp only[pD,pX,or_false]at hf;rcases hf with rfl|rfl|rfl
  ·exact⟨t89,by kernel_rfl⟩
  ·exact⟨Tryz.t3,by kernel_rfl⟩
  ·exact⟨Tryz.t3,by kernel_rfl⟩⟩,by intro h;cases h⟩
def zAG:TI:=⟨.slice 99,1,24,some (.osl 2 true []),false⟩
theorem zqP:jC prog 96 zAG:=⟨⟨t96,by kernel_rfl,rfl,rfl,λz h=>by cases h;exact⟨_,rfl,rfl,λS h=>yT _⟩⟩,underlying96,by intro h;cases h⟩
def zAF:TI:=⟨.struct [(0,1),(1,1)],2,16,some (.agg [.atom (.int .i64 0),.atom (.int .i64 0)]),true⟩
theorem zqO:jC prog 99 zAF:=⟨⟨t99,by kernel_rfl,rfl,rfl,λz h=>by cases h;exact⟨_,rfl,rfl,λS h=>zL (zf (zg rfl) (zf (zg rfl) (zH)))⟩⟩,⟨_,underlying99,by kernel_rfl,by
  intro f hf;simp only[pD,pX,or_false]at hf;rcases hf with rfl|rfl
  ·exact⟨Tryz.t3,by kernel_rfl⟩
  ·exact⟨Tryz.t3,by kernel_rfl⟩⟩,λ_=>z2N (Go.Ex.zvS.eqn rfl) rfl rfl rfl rfl⟩
def zuR:TI:=⟨.slice 4,1,24,some (.osl 1 true []),false⟩
theorem zno:jC prog 101 zuR:=⟨⟨t101,by kernel_rfl,rfl,rfl,λz h=>by cases h;exact⟨_,rfl,rfl,λS h=>yT _⟩⟩,underlying101,by intro h;cases h⟩
def zuQ:TI:=⟨.slice 101,1,24,some (.osl 1 true []),false⟩
theorem znn:jC prog 102 zuQ:=⟨⟨t102,by kernel_rfl,rfl,rfl,λz h=>by cases h;exact⟨_,rfl,rfl,λS h=>yT _⟩⟩,underlying102,by intro h;cases h⟩
def zuP:TI:=⟨.other,1,8,some (.atom .nilFunc),false⟩
theorem znm:jC prog 109 zuP:=⟨⟨t109,by kernel_rfl,rfl,rfl,λz h=>by cases h;exact⟨_,rfl,rfl,λS h=>zg rfl⟩⟩,⟨_,underlying109,rfl⟩,by intro h;cases h⟩
def zuO:TI:=⟨.other,1,8,some (.atom .nilFunc),false⟩
theorem znl:jC prog 110 zuO:=⟨⟨t110,by kernel_rfl,rfl,rfl,λz h=>by cases h;exact⟨_,rfl,rfl,λS h=>zg rfl⟩⟩,⟨_,underlying110,rfl⟩,by intro h;cases h⟩
def zuN:TI:=⟨.slice 32,1,24,some (.osl 1 true []),false⟩
theorem znk:jC prog 117 zuN:=⟨⟨t117,by kernel_rfl,rfl,rfl,λz h=>by cases h;exact⟨_,rfl,rfl,λS h=>yT _⟩⟩,underlying117,by intro h;cases h⟩
def zuM:TI:=⟨.struct [(0,3),(3,1),(4,1),(5,1),(6,1),(7,1),(8,1)],9,184,some (.agg [.agg [.atom (.int .i64 0),.atom (.int .i64 0),.osl 1 true []],.osl 1 true [],.osl 1 true [],.osl 1 true [],.osl 1 true [],.osl 1 true [],.osl 1 true []]),false⟩
theorem znj:jC prog 119 zuM:=⟨⟨t119,by kernel_rfl,rfl,rfl,λz h=>by cases h;exact⟨_,rfl,rfl,λS h=>zL (zf (zL (zf (zg rfl) (zf (zg rfl) (zf (yT _) (zH))))) (zf (yT _) (zf (yT _) (zf (yT _) (zf (yT _) (zf (yT _) (zf (yT _) (zH))))))))⟩⟩,⟨_,underlying119,by kernel_rfl,by
  intro f hf;simp only[pD,pX,or_false]at hf;rcases hf with rfl|rfl|rfl|rfl|rfl|rfl|rfl
  ·exact⟨t30,by kernel_rfl⟩
  ·exact⟨t32,by kernel_rfl⟩
  ·exact⟨t32,by kernel_rfl⟩
  ·exact⟨t32,by kernel_rfl⟩
  ·exact⟨t117,by kernel_rfl⟩
  ·exact⟨t32,by kernel_rfl⟩
  ·exact⟨t32,by kernel_rfl⟩⟩,by intro h;cases h⟩
def zuL:TI:=⟨.array 5 33,5,40,some (.agg [.atom (.int .i64 0),.atom (.int .i64 0),.atom (.int .i64 0),.atom (.int .i64 0),.atom (.int .i64 0)]),true⟩
theorem zni:jC prog 120 zuL:=⟨⟨t120,by kernel_rfl,rfl,rfl,λz h=>by cases h;exact⟨_,rfl,rfl,λS h=>zL (zf (zg rfl) (zf (zg rfl) (zf (zg rfl) (zf (zg rfl) (zf (zg rfl) (zH))))))⟩⟩,underlying120,λ_=>z2N (Go.Ex.zsr.eqn rfl) rfl rfl rfl rfl⟩
def zuK:TI:=⟨.struct [],0,0,some (.agg []),false⟩
theorem znh:jC prog 124 zuK:=⟨⟨t124,by kernel_rfl,rfl,rfl,λz h=>by cases h;exact⟨_,rfl,rfl,λS h=>zL (zH)⟩⟩,⟨_,underlying124,by kernel_rfl,by intro f hf;cases hf⟩,by intro h;cases h⟩
def zuJ:TI:=⟨.other,1,8,some (.atom .nilFunc),false⟩
theorem zng:jC prog 130 zuJ:=⟨⟨t130,by kernel_rfl,rfl,rfl,λz h=>by cases h;exact⟨_,rfl,rfl,λS h=>zg rfl⟩⟩,⟨_,underlying130,rfl⟩,by intro h;cases h⟩
def zuI:TI:=⟨.other,1,8,some (.atom .nilFunc),false⟩
theorem znf:jC prog 132 zuI:=⟨⟨t132,by kernel_rfl,rfl,rfl,λz h=>by cases h;exact⟨_,rfl,rfl,λS h=>zg rfl⟩⟩,⟨_,underlying132,rfl⟩,by intro h;cases h⟩
def zuH:TI:=⟨.other,1,8,some (.atom .nilFunc),false⟩
theorem zne:jC prog 133 zuH:=⟨⟨t133,by kernel_rfl,rfl,rfl,λz h=>by cases h;exact⟨_,rfl,rfl,λS h=>zg rfl⟩⟩,⟨_,underlying133,rfl⟩,by intro h;cases h⟩
def zuG:TI:=⟨.other,1,8,some (.atom .nilFunc),false⟩
theorem znd:jC prog 134 zuG:=⟨⟨t134,by kernel_rfl,rfl,rfl,λz h=>by cases h;exact⟨_,rfl,rfl,λS h=>zg rfl⟩⟩,⟨_,underlying134,rfl⟩,by intro h;cases h⟩
def zuF:TI:=⟨.struct [(0,1),(1,1)],2,16,some (.agg [.atom (.int .i64 0),.atom .nilFunc]),false⟩
theorem znc:jC prog 141 zuF:=⟨⟨t141,by kernel_rfl,rfl,rfl,λz h=>by cases h;exact⟨_,rfl,rfl,λS h=>zL (zf (zg rfl) (zf (zg rfl) (zH)))⟩⟩,⟨_,underlying141,by kernel_rfl,by
  intro f hf;simp only[pD,pX,or_false]at hf;rcases hf with rfl|rfl
  ·exact⟨t33,by kernel_rfl⟩
  ·exact⟨t41,by kernel_rfl⟩⟩,by intro h;cases h⟩
def zuE:TI:=⟨.array 3 141,6,48,some (.agg [.agg [.atom (.int .i64 0),.atom .nilFunc],.agg [.atom (.int .i64 0),.atom .nilFunc],.agg [.atom (.int .i64 0),.atom .nilFunc]]),false⟩
theorem znb:jC prog 142 zuE:=⟨⟨t142,by kernel_rfl,rfl,rfl,λz h=>by cases h;exact⟨_,rfl,rfl,λS h=>zL (zf (zL (zf (zg rfl) (zf (zg rfl) (zH)))) (zf (zL (zf (zg rfl) (zf (zg rfl) (zH)))) (zf (zL (zf (zg rfl) (zf (zg rfl) (zH)))) (zH))))⟩⟩,underlying142,by intro h;cases h⟩
def zuD:TI:=⟨.other,1,8,some (.atom .nilFunc),false⟩
theorem zna:jC prog 144 zuD:=⟨⟨t144,by kernel_rfl,rfl,rfl,λz h=>by cases h;exact⟨_,rfl,rfl,λS h=>zg rfl⟩⟩,⟨_,underlying144,rfl⟩,by intro h;cases h⟩
def zuC:TI:=⟨.struct [(0,1),(1,1)],2,32,some (.agg [.atom (.int .i32 0),.osl 1 true []]),false⟩
theorem zn9:jC prog 159 zuC:=⟨⟨t159,by kernel_rfl,rfl,rfl,λz h=>by cases h;exact⟨_,rfl,rfl,λS h=>zL (zf (zg rfl) (zf (yT _) (zH)))⟩⟩,⟨_,underlying159,by kernel_rfl,by
  intro f hf;simp only[pD,pX,or_false]at hf;rcases hf with rfl|rfl
  ·exact⟨t21,by kernel_rfl⟩
  ·exact⟨t51,by kernel_rfl⟩⟩,by intro h;cases h⟩
def zuB:TI:=⟨.slice 159,1,24,some (.osl 2 true []),false⟩
theorem zn8:jC prog 160 zuB:=⟨⟨t160,by kernel_rfl,rfl,rfl,λz h=>by cases h;exact⟨_,rfl,rfl,λS h=>yT _⟩⟩,underlying160,by intro h;cases h⟩
def zuA:TI:=⟨.array 16 21,16,64,some (.agg [.atom (.int .i32 0),.atom (.int .i32 0),.atom (.int .i32 0),.atom (.int .i32 0),.atom (.int .i32 0),.atom (.int .i32 0),.atom (.int .i32 0),.atom (.int .i32 0),.atom (.int .i32 0),.atom (.int .i32 0),.atom (.int .i32 0),.atom (.int .i32 0),.atom (.int .i32 0),.atom (.int .i32 0),.atom (.int .i32 0),.atom (.int .i32 0)]),true⟩
theorem zn7:jC prog 162 zuA:=⟨⟨t162,by kernel_rfl,rfl,rfl,λz h=>by cases h;exact⟨_,rfl,rfl,λS h=>zL (zf (zg rfl) (zf (zg rfl) (zf (zg rfl) (zf (zg rfl) (zf (zg rfl) (zf (zg rfl) (zf (zg rfl) (zf (zg rfl) (zf (zg rfl) (zf (zg rfl) (zf (zg rfl) (zf (zg rfl) (zf (zg rfl) (zf (zg rfl) (zf (zg rfl) (zf (zg rfl) (zH)))))))))))))))))⟩⟩,underlying162,λ_=>z2N (Go.Ex.zsq.eqn rfl) rfl rfl rfl rfl⟩
def zuz:TI:=⟨.other,1,8,some (.atom .nilFunc),false⟩
theorem zn6:jC prog 167 zuz:=⟨⟨t167,by kernel_rfl,rfl,rfl,λz h=>by cases h;exact⟨_,rfl,rfl,λS h=>zg rfl⟩⟩,⟨_,underlying167,rfl⟩,by intro h;cases h⟩
def zuy:TI:=⟨.other,1,8,some (.atom .nilFunc),false⟩
theorem zn5:jC prog 168 zuy:=⟨⟨t168,by kernel_rfl,rfl,rfl,λz h=>by cases h;exact⟨_,rfl,rfl,λS h=>zg rfl⟩⟩,⟨_,underlying168,rfl⟩,by intro h;cases h⟩
def zux:TI:=⟨.other,1,8,some (.atom .nilFunc),false⟩
theorem zn4:jC prog 174 zux:=⟨⟨t174,by kernel_rfl,rfl,rfl,λz h=>by cases h;exact⟨_,rfl,rfl,λS h=>zg rfl⟩⟩,⟨_,underlying174,rfl⟩,by intro h;cases h⟩
def zuw:TI:=⟨.other,1,8,some (.atom .nilFunc),false⟩
theorem zn3:jC prog 175 zuw:=⟨⟨t175,by kernel_rfl,rfl,rfl,λz h=>by cases h;exact⟨_,rfl,rfl,λS h=>zg rfl⟩⟩,⟨_,underlying175,rfl⟩,by intro h;cases h⟩
def zuv:TI:=⟨.struct [(0,1),(1,1)],2,32,some (.agg [.osl 1 true [],.atom (.bool false)]),false⟩
theorem zn2:jC prog 186 zuv:=⟨⟨t186,by kernel_rfl,rfl,rfl,λz h=>by cases h;exact⟨_,rfl,rfl,λS h=>zL (zf (yT _) (zf (zg rfl) (zH)))⟩⟩,⟨_,underlying186,by kernel_rfl,by
  intro f hf;simp only[pD,pX,or_false]at hf;rcases hf with rfl|rfl
  ·exact⟨t51,by kernel_rfl⟩
  ·exact⟨Tryz.t4,by kernel_rfl⟩⟩,by intro h;cases h⟩
def zuu:TI:=⟨.struct [(0,1),(1,1)],2,32,some (.agg [.osl 1 true [],.atom (.bool false)]),false⟩
theorem zn1:jC prog 187 zuu:=⟨⟨t187,by kernel_rfl,rfl,rfl,λz h=>by cases h;exact⟨_,rfl,rfl,λS h=>zL (zf (yT _) (zf (zg rfl) (zH)))⟩⟩,⟨_,underlying187,by kernel_rfl,by
  intro f hf;simp only[pD,pX,or_false]at hf;rcases hf with rfl|rfl
  ·exact⟨t51,by kernel_rfl⟩
  ·exact⟨Tryz.t4,by kernel_rfl⟩⟩,by intro h;cases h⟩
def zut:TI:=⟨.other,1,8,some (.atom .nilFunc),false⟩
theorem zn0:jC prog 189 zut:=⟨⟨t189,by kernel_rfl,rfl,rfl,λz h=>by cases h;exact⟨_,rfl,rfl,λS h=>zg rfl⟩⟩,⟨_,underlying189,rfl⟩,by intro h;cases h⟩
def zus:TI:=⟨.other,1,8,some (.atom .nilFunc),false⟩
theorem zmZ:jC prog 191 zus:=⟨⟨t191,by kernel_rfl,rfl,rfl,λz h=>by cases h;exact⟨_,rfl,rfl,λS h=>zg rfl⟩⟩,⟨_,underlying191,rfl⟩,by intro h;cases h⟩
def zur:TI:=⟨.other,1,8,some (.atom .nilFunc),false⟩
theorem zmY:jC prog 192 zur:=⟨⟨t192,by kernel_rfl,rfl,rfl,λz h=>by cases h;exact⟨_,rfl,rfl,λS h=>zg rfl⟩⟩,⟨_,underlying192,rfl⟩,by intro h;cases h⟩
def zuq:TI:=⟨.other,1,8,some (.atom .nilFunc),false⟩
theorem zmX:jC prog 199 zuq:=⟨⟨t199,by kernel_rfl,rfl,rfl,λz h=>by cases h;exact⟨_,rfl,rfl,λS h=>zg rfl⟩⟩,⟨_,underlying199,rfl⟩,by intro h;cases h⟩
def zuo:TI:=⟨.slice 227,1,24,some (.osl 2 true []),false⟩
theorem zmW:jC prog 202 zuo:=⟨⟨t202,by kernel_rfl,rfl,rfl,λz h=>by cases h;exact⟨_,rfl,rfl,λS h=>yT _⟩⟩,underlying202,by intro h;cases h⟩
def zun:TI:=⟨.other,1,8,some (.atom .nilFunc),false⟩
theorem zmV:jC prog 204 zun:=⟨⟨t204,by kernel_rfl,rfl,rfl,λz h=>by cases h;exact⟨_,rfl,rfl,λS h=>zg rfl⟩⟩,⟨_,underlying204,rfl⟩,by intro h;cases h⟩
def zum:TI:=⟨.other,1,8,some (.atom .nilFunc),false⟩
theorem zmU:jC prog 205 zum:=⟨⟨t205,by kernel_rfl,rfl,rfl,λz h=>by cases h;exact⟨_,rfl,rfl,λS h=>zg rfl⟩⟩,⟨_,underlying205,rfl⟩,by intro h;cases h⟩
def zul:TI:=⟨.int .u64,1,8,some (.atom (.int .u64 0)),false⟩
theorem zmT:jC prog 209 zul:=⟨⟨t209,by kernel_rfl,rfl,rfl,λz h=>by cases h;exact⟨_,rfl,rfl,λS h=>zg rfl⟩⟩,underlying209,by intro h;cases h⟩
def zuk:TI:=⟨.other,1,8,some (.atom .nilFunc),false⟩
theorem zmS:jC prog 213 zuk:=⟨⟨t213,by kernel_rfl,rfl,rfl,λz h=>by cases h;exact⟨_,rfl,rfl,λS h=>zg rfl⟩⟩,⟨_,underlying213,rfl⟩,by intro h;cases h⟩
def zuj:TI:=⟨.other,1,8,some (.atom .nilFunc),false⟩
theorem zmR:jC prog 214 zuj:=⟨⟨t214,by kernel_rfl,rfl,rfl,λz h=>by cases h;exact⟨_,rfl,rfl,λS h=>zg rfl⟩⟩,⟨_,underlying214,rfl⟩,by intro h;cases h⟩
def zui:TI:=⟨.struct [(0,1),(1,1),(2,1)],3,24,some (.agg [.atom (.int .i64 0),.atom (.int .i64 0),.atom (.int .i64 0)]),true⟩
theorem zmQ:jC prog 217 zui:=⟨⟨t217,by kernel_rfl,rfl,rfl,λz h=>by cases h;exact⟨_,rfl,rfl,λS h=>zL (zf (zg rfl) (zf (zg rfl) (zf (zg rfl) (zH))))⟩⟩,⟨_,underlying217,by kernel_rfl,by
  intro f hf;simp only[pD,pX,or_false]at hf;rcases hf with rfl|rfl|rfl
  ·exact⟨Tryz.t3,by kernel_rfl⟩
  ·exact⟨Tryz.t3,by kernel_rfl⟩
  ·exact⟨Tryz.t3,by kernel_rfl⟩⟩,λ_=>z2N (Go.Ex.zsp.eqn rfl) rfl rfl rfl rfl⟩
def zuh:TI:=⟨.other,1,8,some (.atom (.map none)),false⟩
theorem zmP:jC prog 218 zuh:=⟨⟨t218,by kernel_rfl,rfl,rfl,λz h=>by cases h;exact⟨_,rfl,rfl,λS h=>zg rfl⟩⟩,⟨_,underlying218,rfl⟩,by intro h;cases h⟩
def zug:TI:=⟨.array 64 51,64,1536,some (.agg (List.replicate 64 (.dop (nlQ 1 [])))),false⟩
theorem zmO:jC prog 221 zug:=⟨⟨t221,by kernel_rfl,rfl,rfl,λz h=>by cases h;exact⟨_,rfl,by kernel_rfl,λS h=>zw7 (zL (z5y (zhR) 64)) (by kernel_rfl)⟩⟩,underlying221,by intro h;cases h⟩
def zuf:TI:=⟨.ptr 246,1,8,some (.atom (.pointer none)),false⟩
theorem zmN:jC prog 222 zuf:=⟨⟨t222,by kernel_rfl,rfl,rfl,λz h=>by cases h;exact⟨_,rfl,rfl,λS h=>zg rfl⟩⟩,underlying222,by intro h;cases h⟩
def zue:TI:=⟨.other,1,8,some (.atom .nilFunc),false⟩
theorem zmM:jC prog 224 zue:=⟨⟨t224,by kernel_rfl,rfl,rfl,λz h=>by cases h;exact⟨_,rfl,rfl,λS h=>zg rfl⟩⟩,⟨_,underlying224,rfl⟩,by intro h;cases h⟩
def zud:TI:=⟨.other,1,8,some (.atom .nilFunc),false⟩
theorem zmL:jC prog 225 zud:=⟨⟨t225,by kernel_rfl,rfl,rfl,λz h=>by cases h;exact⟨_,rfl,rfl,λS h=>zg rfl⟩⟩,⟨_,underlying225,rfl⟩,by intro h;cases h⟩
def zuc:TI:=⟨.array 2 3,2,16,some (.agg [.atom (.int .i64 0),.atom (.int .i64 0)]),true⟩
theorem zmK:jC prog 227 zuc:=⟨⟨t227,by kernel_rfl,rfl,rfl,λz h=>by cases h;exact⟨_,rfl,rfl,λS h=>zL (zf (zg rfl) (zf (zg rfl) (zH)))⟩⟩,underlying227,λ_=>z2N (Go.Ex.zso.eqn rfl) rfl rfl rfl rfl⟩
def zub:TI:=⟨.other,1,8,some (.atom .nilFunc),false⟩
theorem zmJ:jC prog 229 zub:=⟨⟨t229,by kernel_rfl,rfl,rfl,λz h=>by cases h;exact⟨_,rfl,rfl,λS h=>zg rfl⟩⟩,⟨_,underlying229,rfl⟩,by intro h;cases h⟩
def zua:TI:=⟨.other,1,8,some (.atom .nilFunc),false⟩
theorem zmI:jC prog 243 zua:=⟨⟨t243,by kernel_rfl,rfl,rfl,λz h=>by cases h;exact⟨_,rfl,rfl,λS h=>zg rfl⟩⟩,⟨_,underlying243,rfl⟩,by intro h;cases h⟩
def zu9:TI:=⟨.slice 217,1,24,some (.osl 3 true []),false⟩
theorem zmH:jC prog 244 zu9:=⟨⟨t244,by kernel_rfl,rfl,rfl,λz h=>by cases h;exact⟨_,rfl,rfl,λS h=>yT _⟩⟩,underlying244,by intro h;cases h⟩
def zu8:TI:=⟨.array 64 221,4096,98304,some (.agg (List.replicate 64 (.agg (List.replicate 64 (.dop (nlQ 1 [])))))),false⟩
theorem zmG:jC prog 246 zu8:=⟨⟨t246,by kernel_rfl,rfl,rfl,λz h=>by cases h;exact⟨_,rfl,by kernel_rfl,λS h=>zw7 (zL (z5y (zL (z5y (zhR) 64)) 64)) (by kernel_rfl)⟩⟩,underlying246,by intro h;cases h⟩
def zu7:TI:=⟨.slice 251,1,24,some (.osl 4 true []),false⟩
theorem zmF:jC prog 247 zu7:=⟨⟨t247,by kernel_rfl,rfl,rfl,λz h=>by cases h;exact⟨_,rfl,rfl,λS h=>yT _⟩⟩,underlying247,by intro h;cases h⟩
def zu6:TI:=⟨.struct [(0,1),(1,1),(2,1),(3,1)],4,48,some (.agg [.atom (.int .i64 0),.atom (.int .i64 0),.osl 1 true [],.atom (.bool false)]),false⟩
theorem zmE:jC prog 251 zu6:=⟨⟨t251,by kernel_rfl,rfl,rfl,λz h=>by cases h;exact⟨_,rfl,rfl,λS h=>zL (zf (zg rfl) (zf (zg rfl) (zf (yT _) (zf (zg rfl) (zH)))))⟩⟩,⟨_,underlying251,by kernel_rfl,by
  intro f hf;simp only[pD,pX,or_false]at hf;rcases hf with rfl|rfl|rfl|rfl
  ·exact⟨Tryz.t3,by kernel_rfl⟩
  ·exact⟨Tryz.t3,by kernel_rfl⟩
  ·exact⟨t51,by kernel_rfl⟩
  ·exact⟨Tryz.t4,by kernel_rfl⟩⟩,by intro h;cases h⟩
def zu5:TI:=⟨.other,1,8,some (.atom .nilFunc),false⟩
theorem zmD:jC prog 253 zu5:=⟨⟨t253,by kernel_rfl,rfl,rfl,λz h=>by cases h;exact⟨_,rfl,rfl,λS h=>zg rfl⟩⟩,⟨_,underlying253,rfl⟩,by intro h;cases h⟩
def zu4:TI:=⟨.other,1,8,some (.atom (.map none)),false⟩
theorem zmC:jC prog 254 zu4:=⟨⟨t254,by kernel_rfl,rfl,rfl,λz h=>by cases h;exact⟨_,rfl,rfl,λS h=>zg rfl⟩⟩,⟨_,underlying254,rfl⟩,by intro h;cases h⟩
def zu3:TI:=⟨.array 16 227,32,256,some (.agg [.agg [.atom (.int .i64 0),.atom (.int .i64 0)],.agg [.atom (.int .i64 0),.atom (.int .i64 0)],.agg [.atom (.int .i64 0),.atom (.int .i64 0)],.agg [.atom (.int .i64 0),.atom (.int .i64 0)],.agg [.atom (.int .i64 0),.atom (.int .i64 0)],.agg [.atom (.int .i64 0),.atom (.int .i64 0)],.agg [.atom (.int .i64 0),.atom (.int .i64 0)],.agg [.atom (.int .i64 0),.atom (.int .i64 0)],.agg [.atom (.int .i64 0),.atom (.int .i64 0)],.agg [.atom (.int .i64 0),.atom (.int .i64 0)],.agg [.atom (.int .i64 0),.atom (.int .i64 0)],.agg [.atom (.int .i64 0),.atom (.int .i64 0)],.agg [.atom (.int .i64 0),.atom (.int .i64 0)],.agg [.atom (.int .i64 0),.atom (.int .i64 0)],.agg [.atom (.int .i64 0),.atom (.int .i64 0)],.agg [.atom (.int .i64 0),.atom (.int .i64 0)]]),true⟩
theorem zmB:jC prog 256 zu3:=⟨⟨t256,by kernel_rfl,rfl,rfl,λz h=>by cases h;exact⟨_,rfl,rfl,λS h=>zL (zf (zL (zf (zg rfl) (zf (zg rfl) (zH)))) (zf (zL (zf (zg rfl) (zf (zg rfl) (zH)))) (zf (zL (zf (zg rfl) (zf (zg rfl) (zH)))) (zf (zL (zf (zg rfl) (zf (zg rfl) (zH)))) (zf (zL (zf (zg rfl) (zf (zg rfl) (zH)))) (zf (zL (zf (zg rfl) (zf (zg rfl) (zH)))) (zf (zL (zf (zg rfl) (zf (zg rfl) (zH)))) (zf (zL (zf (zg rfl) (zf (zg rfl) (zH)))) (zf (zL (zf (zg rfl) (zf (zg rfl) (zH)))) (zf (zL (zf (zg rfl) (zf (zg rfl) (zH)))) (zf (zL (zf (zg rfl) (zf (zg rfl) (zH)))) (zf (zL (zf (zg rfl) (zf (zg rfl) (zH)))) (zf (zL (zf (zg rfl) (zf (zg rfl) (zH)))) (zf (zL (zf (zg rfl) (zf (zg rfl) (zH)))) (zf (zL (zf (zg rfl) (zf (zg rfl) (zH)))) (zf (zL (zf (zg rfl) (zf (zg rfl) (zH)))) (zH)))))))))))))))))⟩⟩,underlying256,λ_=>z2N (Go.Ex.zsn.eqn rfl) rfl rfl rfl rfl⟩
def zu2:TI:=⟨.struct [(0,1),(1,32)],33,264,some (.agg [.atom (.int .i64 0),.agg [.agg [.atom (.int .i64 0),.atom (.int .i64 0)],.agg [.atom (.int .i64 0),.atom (.int .i64 0)],.agg [.atom (.int .i64 0),.atom (.int .i64 0)],.agg [.atom (.int .i64 0),.atom (.int .i64 0)],.agg [.atom (.int .i64 0),.atom (.int .i64 0)],.agg [.atom (.int .i64 0),.atom (.int .i64 0)],.agg [.atom (.int .i64 0),.atom (.int .i64 0)],.agg [.atom (.int .i64 0),.atom (.int .i64 0)],.agg [.atom (.int .i64 0),.atom (.int .i64 0)],.agg [.atom (.int .i64 0),.atom (.int .i64 0)],.agg [.atom (.int .i64 0),.atom (.int .i64 0)],.agg [.atom (.int .i64 0),.atom (.int .i64 0)],.agg [.atom (.int .i64 0),.atom (.int .i64 0)],.agg [.atom (.int .i64 0),.atom (.int .i64 0)],.agg [.atom (.int .i64 0),.atom (.int .i64 0)],.agg [.atom (.int .i64 0),.atom (.int .i64 0)]]]),true⟩
theorem zgU:jC prog 259 zu2:=⟨⟨t259,by kernel_rfl,rfl,rfl,λz h=>by cases h;exact⟨_,rfl,rfl,λS h=>zL (zf (zg rfl) (zf (zL (zf (zL (zf (zg rfl) (zf (zg rfl) (zH)))) (zf (zL (zf (zg rfl) (zf (zg rfl) (zH)))) (zf (zL (zf (zg rfl) (zf (zg rfl) (zH)))) (zf (zL (zf (zg rfl) (zf (zg rfl) (zH)))) (zf (zL (zf (zg rfl) (zf (zg rfl) (zH)))) (zf (zL (zf (zg rfl) (zf (zg rfl) (zH)))) (zf (zL (zf (zg rfl) (zf (zg rfl) (zH)))) (zf (zL (zf (zg rfl) (zf (zg rfl) (zH)))) (zf (zL (zf (zg rfl) (zf (zg rfl) (zH)))) (zf (zL (zf (zg rfl) (zf (zg rfl) (zH)))) (zf (zL (zf (zg rfl) (zf (zg rfl) (zH)))) (zf (zL (zf (zg rfl) (zf (zg rfl) (zH)))) (zf (zL (zf (zg rfl) (zf (zg rfl) (zH)))) (zf (zL (zf (zg rfl) (zf (zg rfl) (zH)))) (zf (zL (zf (zg rfl) (zf (zg rfl) (zH)))) (zf (zL (zf (zg rfl) (zf (zg rfl) (zH)))) (zH)))))))))))))))))) (zH)))⟩⟩,⟨_,underlying259,by kernel_rfl,by
  intro f hf;simp only[pD,pX,or_false]at hf;rcases hf with rfl|rfl
  ·exact⟨Tryz.t3,by kernel_rfl⟩
  ·exact⟨t256,by kernel_rfl⟩⟩,λ_=>z2N (Go.Ex.zlo.eqn rfl) rfl rfl rfl rfl⟩
def tiL:List (Nat×TI):=[(1,ti1),(2,ti2),(3,ti3),(4,ti4),(5,ti5),(9,ti9),(20,zB3),(21,zB2),(22,zB1),(23,zB0),(25,zAZ),(27,zAY),(28,zAX),(30,zAW),(32,zAV),(33,zAU),(36,zAT),(41,zAS),(43,zAR),(51,zAQ),(77,zAP),(78,zAO),(79,zAN),(80,zAM),(83,zAL),(85,zAK),(86,zAJ),(89,zAI),(91,zAH),(96,zAG),(99,zAF),(101,zuR),(102,zuQ),(109,zuP),(110,zuO),(117,zuN),(119,zuM),(120,zuL),(124,zuK),(130,zuJ),(132,zuI),(133,zuH),(134,zuG),(141,zuF),(142,zuE),(144,zuD),(159,zuC),(160,zuB),(162,zuA),(167,zuz),(168,zuy),(174,zux),(175,zuw),(186,zuv),(187,zuu),(189,zut),(191,zus),(192,zur),(199,zuq),(202,zuo),(204,zun),(205,zum),(209,zul),(213,zuk),(214,zuj),(217,zui),(218,zuh),(221,zug),(222,zuf),(224,zue),(225,zud),(227,zuc),(229,zub),(243,zua),(244,zu9),(246,zu8),(247,zu7),(251,zu6),(253,zu5),(254,zu4),(256,zu3),(259,zu2)]
def yw:TT:=λt=>(tiL.find? λp=>p.1==t).map (·.2)
def zms (P:Program):List (Nat×TI)->Prop
 | []=>True
 | p::l=>jC P p.1 p.2/\zms P l
theorem zms.mem:∀{l:List (Nat×TI)},zms P l->∀p∈l,jC P p.1 p.2
 | p::_,h,q,hq=>by
  rcases pD.1 hq with rfl|hq
  ·exact h.1
  ·exact zms.mem h.2 q hq
 | [],_,_,hq=>by cases hq
theorem ztW:zms prog tiL:=⟨zup,zu1,zu0,ztZ,ztY,ztX,zrc,zrb,zra,zr9,zr8,zr7,zr6,zr5,zr4,zr3,zr2,zr1,zr0,zqZ,zqY,zqX,zqW,zqV,zqU,zqT,zqS,zqR,zqQ,zqP,zqO,zno,znn,znm,znl,znk,znj,zni,znh,zng,znf,zne,znd,znc,znb,zna,zn9,zn8,zn7,zn6,zn5,zn4,zn3,zn2,zn1,zn0,zmZ,zmY,zmX,zmW,zmV,zmU,zmT,zmS,zmR,zmQ,zmP,zmO,zmN,zmM,zmL,zmK,zmJ,zmI,zmH,zmG,zmF,zmE,zmD,zmC,zmB,zgU,trivial⟩
theorem zx:wy prog yw:=by intro t i h;unfold yw at h;rw[pZ]at h;obtain⟨p,h1,rfl⟩:=h;have h2:=List.find?_some h1;have h3:=ztW.mem p (List.mem_of_find?_eq_some h1);rw[beq_iff_eq.1 h2]at h3;exact h3
theorem zDl:yw 1=some ⟨.other,1,8,some (.atom .nilFunc),false⟩:=rfl
theorem zDk:yw 2=some ⟨.int .i64,1,8,some (.atom (.int .i64 0)),false⟩:=rfl
theorem zDj:yw 3=some ⟨.int .i64,1,8,some (.atom (.int .i64 0)),false⟩:=rfl
theorem zDi:yw 4=some ⟨.bool,1,1,some (.atom (.bool false)),false⟩:=rfl
theorem zDh:yw 5=some ⟨.int .u8,1,1,some (.atom (.int .u8 0)),false⟩:=rfl
theorem zDg:yw 9=some ⟨.str,1,16,some (.atom (.string ⟨#[]⟩)),false⟩:=rfl
theorem zAk:yw 20=some ⟨.other,1,16,some (.atom .nilIface),false⟩:=rfl
theorem zAj:yw 21=some ⟨.int .i32,1,4,some (.atom (.int .i32 0)),false⟩:=rfl
theorem zAi:yw 22=some ⟨.slice 5,1,24,some (.osl 1 true []),false⟩:=rfl
theorem zAh:yw 23=some ⟨.slice 43,1,24,some (.osl 1 true []),false⟩:=rfl
theorem zAg:yw 25=some ⟨.struct [(0,1),(1,1),(2,1),(3,1),(4,1)],5,56,some (.agg [.atom (.int .u8 0),.atom (.int .u8 0),.atom (.int .u8 0),.osl 1 true [],.osl 1 true []]),false⟩:=rfl
theorem zAf:yw 27=some ⟨.struct [(0,5)],5,56,some (.agg [.agg [.atom (.int .u8 0),.atom (.int .u8 0),.atom (.int .u8 0),.osl 1 true [],.osl 1 true []]]),false⟩:=rfl
theorem zAe:yw 28=some ⟨.slice 96,1,24,some (.osl 1 true []),false⟩:=rfl
theorem zAd:yw 30=some ⟨.struct [(0,1),(1,1),(2,1)],3,40,some (.agg [.atom (.int .i64 0),.atom (.int .i64 0),.osl 1 true []]),false⟩:=rfl
theorem zAc:yw 32=some ⟨.slice 51,1,24,some (.osl 1 true []),false⟩:=rfl
theorem zAb:yw 33=some ⟨.int .i64,1,8,some (.atom (.int .i64 0)),false⟩:=rfl
theorem zAa:yw 36=some ⟨.array 3 3,3,24,some (.agg [.atom (.int .i64 0),.atom (.int .i64 0),.atom (.int .i64 0)]),true⟩:=rfl
theorem zA9:yw 41=some ⟨.other,1,8,some (.atom .nilFunc),false⟩:=rfl
theorem zA8:yw 43=some ⟨.int .u16,1,2,some (.atom (.int .u16 0)),false⟩:=rfl
theorem zA7:yw 51=some ⟨.slice 3,1,24,some (.osl 1 true []),false⟩:=rfl
theorem zA6:yw 77=some ⟨.struct [],0,0,some (.agg []),false⟩:=rfl
theorem zA5:yw 78=some ⟨.struct [],0,0,some (.agg []),false⟩:=rfl
theorem zA4:yw 79=some ⟨.struct [],0,0,some (.agg []),false⟩:=rfl
theorem zA3:yw 80=some ⟨.ptr 119,1,8,some (.atom (.pointer none)),false⟩:=rfl
theorem zA2:yw 83=some ⟨.slice 85,1,24,some (.osl 1 true []),false⟩:=rfl
theorem zA1:yw 85=some ⟨.other,1,16,some (.atom .nilIface),false⟩:=rfl
theorem zA0:yw 86=some ⟨.ptr 91,1,8,some (.atom (.pointer none)),false⟩:=rfl
theorem zzZ:yw 89=some ⟨.slice 162,1,24,some (.osl 16 true []),false⟩:=rfl
theorem zzY:yw 91=some ⟨.struct [(0,1),(1,1),(2,1)],3,40,some (.agg [.osl 16 true [],.atom (.int .i64 0),.atom (.int .i64 0)]),false⟩:=rfl
theorem zzX:yw 96=some ⟨.slice 99,1,24,some (.osl 2 true []),false⟩:=rfl
theorem zzW:yw 99=some ⟨.struct [(0,1),(1,1)],2,16,some (.agg [.atom (.int .i64 0),.atom (.int .i64 0)]),true⟩:=rfl
theorem zx8:yw 101=some ⟨.slice 4,1,24,some (.osl 1 true []),false⟩:=rfl
theorem zx7:yw 102=some ⟨.slice 101,1,24,some (.osl 1 true []),false⟩:=rfl
theorem zx6:yw 109=some ⟨.other,1,8,some (.atom .nilFunc),false⟩:=rfl
theorem zx5:yw 110=some ⟨.other,1,8,some (.atom .nilFunc),false⟩:=rfl
theorem zx4:yw 117=some ⟨.slice 32,1,24,some (.osl 1 true []),false⟩:=rfl
theorem zx3:yw 119=some ⟨.struct [(0,3),(3,1),(4,1),(5,1),(6,1),(7,1),(8,1)],9,184,some (.agg [.agg [.atom (.int .i64 0),.atom (.int .i64 0),.osl 1 true []],.osl 1 true [],.osl 1 true [],.osl 1 true [],.osl 1 true [],.osl 1 true [],.osl 1 true []]),false⟩:=rfl
theorem zx2:yw 120=some ⟨.array 5 33,5,40,some (.agg [.atom (.int .i64 0),.atom (.int .i64 0),.atom (.int .i64 0),.atom (.int .i64 0),.atom (.int .i64 0)]),true⟩:=rfl
theorem zx1:yw 124=some ⟨.struct [],0,0,some (.agg []),false⟩:=rfl
theorem zx0:yw 130=some ⟨.other,1,8,some (.atom .nilFunc),false⟩:=rfl
theorem zwZ:yw 132=some ⟨.other,1,8,some (.atom .nilFunc),false⟩:=rfl
theorem zwY:yw 133=some ⟨.other,1,8,some (.atom .nilFunc),false⟩:=rfl
theorem zwX:yw 134=some ⟨.other,1,8,some (.atom .nilFunc),false⟩:=rfl
theorem zwW:yw 141=some ⟨.struct [(0,1),(1,1)],2,16,some (.agg [.atom (.int .i64 0),.atom .nilFunc]),false⟩:=rfl
theorem zwV:yw 142=some ⟨.array 3 141,6,48,some (.agg [.agg [.atom (.int .i64 0),.atom .nilFunc],.agg [.atom (.int .i64 0),.atom .nilFunc],.agg [.atom (.int .i64 0),.atom .nilFunc]]),false⟩:=rfl
theorem zwU:yw 144=some ⟨.other,1,8,some (.atom .nilFunc),false⟩:=rfl
theorem zwT:yw 159=some ⟨.struct [(0,1),(1,1)],2,32,some (.agg [.atom (.int .i32 0),.osl 1 true []]),false⟩:=rfl
theorem zwS:yw 160=some ⟨.slice 159,1,24,some (.osl 2 true []),false⟩:=rfl
theorem zwR:yw 162=some ⟨.array 16 21,16,64,some (.agg [.atom (.int .i32 0),.atom (.int .i32 0),.atom (.int .i32 0),.atom (.int .i32 0),.atom (.int .i32 0),.atom (.int .i32 0),.atom (.int .i32 0),.atom (.int .i32 0),.atom (.int .i32 0),.atom (.int .i32 0),.atom (.int .i32 0),.atom (.int .i32 0),.atom (.int .i32 0),.atom (.int .i32 0),.atom (.int .i32 0),.atom (.int .i32 0)]),true⟩:=rfl
theorem zwQ:yw 167=some ⟨.other,1,8,some (.atom .nilFunc),false⟩:=rfl
theorem zwP:yw 168=some ⟨.other,1,8,some (.atom .nilFunc),false⟩:=rfl
theorem zwO:yw 174=some ⟨.other,1,8,some (.atom .nilFunc),false⟩:=rfl
theorem zwN:yw 175=some ⟨.other,1,8,some (.atom .nilFunc),false⟩:=rfl
theorem zwM:yw 186=some ⟨.struct [(0,1),(1,1)],2,32,some (.agg [.osl 1 true [],.atom (.bool false)]),false⟩:=rfl
theorem zwL:yw 187=some ⟨.struct [(0,1),(1,1)],2,32,some (.agg [.osl 1 true [],.atom (.bool false)]),false⟩:=rfl
theorem zwK:yw 189=some ⟨.other,1,8,some (.atom .nilFunc),false⟩:=rfl
theorem zwJ:yw 191=some ⟨.other,1,8,some (.atom .nilFunc),false⟩:=rfl
theorem zwI:yw 192=some ⟨.other,1,8,some (.atom .nilFunc),false⟩:=rfl
theorem zwH:yw 199=some ⟨.other,1,8,some (.atom .nilFunc),false⟩:=rfl
theorem zwG:yw 202=some ⟨.slice 227,1,24,some (.osl 2 true []),false⟩:=rfl
theorem zwF:yw 204=some ⟨.other,1,8,some (.atom .nilFunc),false⟩:=rfl
theorem zwE:yw 205=some ⟨.other,1,8,some (.atom .nilFunc),false⟩:=rfl
theorem zwD:yw 209=some ⟨.int .u64,1,8,some (.atom (.int .u64 0)),false⟩:=rfl
theorem zwC:yw 213=some ⟨.other,1,8,some (.atom .nilFunc),false⟩:=rfl
theorem zwB:yw 214=some ⟨.other,1,8,some (.atom .nilFunc),false⟩:=rfl
theorem zwA:yw 217=some ⟨.struct [(0,1),(1,1),(2,1)],3,24,some (.agg [.atom (.int .i64 0),.atom (.int .i64 0),.atom (.int .i64 0)]),true⟩:=rfl
theorem zwz:yw 218=some ⟨.other,1,8,some (.atom (.map none)),false⟩:=rfl
theorem zwy:yw 221=some ⟨.array 64 51,64,1536,some (.agg (List.replicate 64 (.dop (nlQ 1 [])))),false⟩:=rfl
theorem zwx:yw 222=some ⟨.ptr 246,1,8,some (.atom (.pointer none)),false⟩:=rfl
theorem zww:yw 224=some ⟨.other,1,8,some (.atom .nilFunc),false⟩:=rfl
theorem zwv:yw 225=some ⟨.other,1,8,some (.atom .nilFunc),false⟩:=rfl
theorem zwu:yw 227=some ⟨.array 2 3,2,16,some (.agg [.atom (.int .i64 0),.atom (.int .i64 0)]),true⟩:=rfl
theorem zwt:yw 229=some ⟨.other,1,8,some (.atom .nilFunc),false⟩:=rfl
theorem zws:yw 243=some ⟨.other,1,8,some (.atom .nilFunc),false⟩:=rfl
theorem zwr:yw 244=some ⟨.slice 217,1,24,some (.osl 3 true []),false⟩:=rfl
theorem zwq:yw 246=some ⟨.array 64 221,4096,98304,some (.agg (List.replicate 64 (.agg (List.replicate 64 (.dop (nlQ 1 [])))))),false⟩:=rfl
theorem zwp:yw 247=some ⟨.slice 251,1,24,some (.osl 4 true []),false⟩:=rfl
theorem zwo:yw 251=some ⟨.struct [(0,1),(1,1),(2,1),(3,1)],4,48,some (.agg [.atom (.int .i64 0),.atom (.int .i64 0),.osl 1 true [],.atom (.bool false)]),false⟩:=rfl
theorem zwn:yw 253=some ⟨.other,1,8,some (.atom .nilFunc),false⟩:=rfl
theorem zwm:yw 254=some ⟨.other,1,8,some (.atom (.map none)),false⟩:=rfl
theorem zwl:yw 256=some ⟨.array 16 227,32,256,some (.agg [.agg [.atom (.int .i64 0),.atom (.int .i64 0)],.agg [.atom (.int .i64 0),.atom (.int .i64 0)],.agg [.atom (.int .i64 0),.atom (.int .i64 0)],.agg [.atom (.int .i64 0),.atom (.int .i64 0)],.agg [.atom (.int .i64 0),.atom (.int .i64 0)],.agg [.atom (.int .i64 0),.atom (.int .i64 0)],.agg [.atom (.int .i64 0),.atom (.int .i64 0)],.agg [.atom (.int .i64 0),.atom (.int .i64 0)],.agg [.atom (.int .i64 0),.atom (.int .i64 0)],.agg [.atom (.int .i64 0),.atom (.int .i64 0)],.agg [.atom (.int .i64 0),.atom (.int .i64 0)],.agg [.atom (.int .i64 0),.atom (.int .i64 0)],.agg [.atom (.int .i64 0),.atom (.int .i64 0)],.agg [.atom (.int .i64 0),.atom (.int .i64 0)],.agg [.atom (.int .i64 0),.atom (.int .i64 0)],.agg [.atom (.int .i64 0),.atom (.int .i64 0)]]),true⟩:=rfl
theorem zwk:yw 259=some ⟨.struct [(0,1),(1,32)],33,264,some (.agg [.atom (.int .i64 0),.agg [.agg [.atom (.int .i64 0),.atom (.int .i64 0)],.agg [.atom (.int .i64 0),.atom (.int .i64 0)],.agg [.atom (.int .i64 0),.atom (.int .i64 0)],.agg [.atom (.int .i64 0),.atom (.int .i64 0)],.agg [.atom (.int .i64 0),.atom (.int .i64 0)],.agg [.atom (.int .i64 0),.atom (.int .i64 0)],.agg [.atom (.int .i64 0),.atom (.int .i64 0)],.agg [.atom (.int .i64 0),.atom (.int .i64 0)],.agg [.atom (.int .i64 0),.atom (.int .i64 0)],.agg [.atom (.int .i64 0),.atom (.int .i64 0)],.agg [.atom (.int .i64 0),.atom (.int .i64 0)],.agg [.atom (.int .i64 0),.atom (.int .i64 0)],.agg [.atom (.int .i64 0),.atom (.int .i64 0)],.agg [.atom (.int .i64 0),.atom (.int .i64 0)],.agg [.atom (.int .i64 0),.atom (.int .i64 0)],.agg [.atom (.int .i64 0),.atom (.int .i64 0)]]]),true⟩:=rfl
attribute [go_sem] zDl zDk zDj zDi zDh zDg zAk zAj zAi zAh zAg zAf zAe zAd zAc zAb zAa zA9 zA8 zA7 zA6 zA5 zA4 zA3 zA2 zA1 zA0 zzZ zzY zzX zzW zx8 zx7 zx6 zx5 zx4 zx3 zx2 zx1 zx0 zwZ zwY zwX zwW zwV zwU zwT zwS zwR zwQ zwP zwO zwN zwM zwL zwK zwJ zwI zwH zwG zwF zwE zwD zwC zwB zwA zwz zwy zwx zww zwv zwu zwt zws zwr zwq zwp zwo zwn zwm zwl zwk
end Go.Own

namespace Go.Proofs
open Go.Proofs.Tryz
open Go.RowKit Go.Lib
theorem Tryz.groI:(prog.info? 3).map (λi=>(i.size,i.bytes,i.zero))=some (1,8,some (.int .i64 0)):=by kernel_rfl
set_option maxHeartbeats 4000000 in
set_option maxRecDepth 100000 in
theorem Tryz.gro_run (p:Option Addr)(n:Nat)(w:World)(h0:0<n)(h1:n<=1000000) :
  Calls prog 202 #[.slice p 0 0,.int .i64 n] w λe w'=>
   e=.returned (.slice (some ⟨w.heap.size,0,none⟩) 0 (grownCap w n 0 3)) /\
   w'=w.drew.alloc (.cells (#[]++Builtin.zeroCells (Value.int .i64 0).cells n++Builtin.zeroCells (Value.int .i64 0).cells (grownCap w n 0 3 - n)) 3):=by
 obtain⟨i0,hi0,hi⟩:=pZ.1 Tryz.groI;obtain⟨hs0,hi⟩:=Prod.mk.inj hi;obtain⟨hb0,hz0⟩:=Prod.mk.inj hi;have mixed:prog.follows .mixedOrders=true:=by kernel_rfl
 have h1':¬((n:Int)<0):=by omega
 have h3:wrap64 ((n:Int))=(n:Int):=by unfold wrap64;omega
 have h4:(n:Int) > 0:=by omega
 have hold:(Builtin.firstCells i0.size 0 (.slice p 0 0)).run prog w.drew=.ok ([]:List Value).toArray w.drew:=by
  cases p with
  | none=>exact run_firstCells_none w.drew i0.size 0 0 0
  | some a=>exact run_firstCells_some w.drew i0.size 0 a 0 0 [] (by simp) (λj v hj=>by simp at hj)
 have hrz:∀ty,(Builtin.append_ #[51,3] ty #[.slice p 0 0,.int .i64 (n:Int)]).run prog w =
   .ok (.slice (some ⟨w.heap.size,0,none⟩) n (grownCap w n 0 3)) (w.drew.alloc (.cells (#[]++Builtin.zeroCells (Value.int .i64 0).cells n++Builtin.zeroCells (Value.int .i64 0).cells (grownCap w n 0 3 - n)) 3)):=λty=>by
  have h:=Lib.run_append_grow_zeros w 51 3 ty 3 i0 (.int .i64 0) .i64 .i64 underlying51 underlying3 hi0 hz0 p 0 0 [] hold n h0 (by omega) (by omega) (by omega)
   (by rw[hb0];omega)
   (by rw[gN];exact growslice_fits h0 (by rw[hb0];omega))
  rw[gN]at h;exact h
 have hGn:n<=grownCap w n 0 3:=grownCap_ge w _ _ _;obtain⟨G,hG⟩:∃G,G=grownCap w n 0 3:=⟨_,rfl⟩;rw[<-hG]at hrz hGn ⊢;have hG63:G<=9223372036854775807:=by have:=grownCap_le_maxLen w n 0 3 (by unfold maxLen;omega);rw[<-hG]at this;unfold maxLen at this;omega
 clear hold hG
 go_enter func202,ntmps202
 cases p with
 | none=>
  go_wp2_with (at_builtin;refine Lib.wpList_append_run _ rfl _ _ _ _ rfl _ _ rfl rfl _ _ (hrz _) ?_)
  all_goals (go_ret;exact⟨rfl,rfl⟩)
 | some a=>
  obtain⟨ab,ao,asp⟩:=a
  go_wp2_with (at_builtin;refine Lib.wpList_append_run _ rfl _ _ _ _ rfl _ _ rfl rfl _ _ (hrz _) ?_)
  all_goals (go_ret;exact⟨rfl,rfl⟩)
end Go.Proofs
namespace Go.Own
open Go.Proofs
theorem zlr (n:Int)(h0:0<n)(h1:n<=1000000):V5 Tryz.prog 202 [.sl 1 true [],eI .i64 n] (.osl 1 false []):=by
 refine⟨⟨_,Tryz.func202,by kernel_rfl,by kernel_rfl⟩,?_⟩;intro S w vs F hS hq hF;obtain⟨m,rfl⟩:∃m:Nat,n=(m:Int):=⟨n.toNat,by omega⟩;match vs,hq with
 | [u,v],q=>
  obtain⟨F1,F2,rfl,q1,F3,F4,rfl,q2,q3⟩:=q;have e3:F4=[]:=q3;subst e3;have d:∀{x:A} {u:Value} {F:List Nat},x.isD=true->Has S w.heap x u F->qa S x u/\F=[]:=by
   intro x u F hx q;rcases q with⟨q,rfl⟩|⟨cs,q1,q2,q3⟩
   ·exact⟨q.rep1 hx,rfl⟩
   ·obtain⟨r,rfl⟩:=q1.isD hx;exact⟨⟨cs,r,q3⟩,rfl⟩
  obtain⟨⟨cs,r1,e1⟩,rfl⟩:=d rfl q1;obtain⟨⟨ds,r2,e2⟩,rfl⟩:=d rfl q2;simp only[Rep]at r1;obtain⟨p,c,rfl,hc,_⟩:=r1;obtain rfl:c=0:=by simpa using hc
  have hv:v=.int .i64 (m:Int):=by
   rw[e2];obtain⟨rfl,_⟩:ds=[.int .i64 (m:Int)]/\_:=by simpa only[eI,Rep] using r2
   rfl
  have hu:u=.slice p 0 0:=by rw[e1];rfl
  subst hv hu;refine(Tryz.gro_run p m w (by omega) (by omega)).mono ?_;rintro e' w' ⟨rfl,rfl⟩;have hsz:∀k,(Builtin.zeroCells (Value.int .i64 0).cells k).size=k:=λk=>by simp[Builtin.zeroCells,Value.cells]
  have hGn:m<=grownCap w m 0 3:=grownCap_ge w _ _ _;have hGm:=grownCap_le_maxLen w m 0 3 (by unfold maxLen;omega);have hfr:∀o,S w.heap.size o=none:=λo=>by
   cases hh:S w.heap.size o with
   | none=>rfl
   | some x=>have:=hS _ _ _ hh;simp[yj]at this
  generalize grownCap w m 0 3=G at hGn hGm ⊢;refine⟨_,S,[w.heap.size],rfl,((UQ.refl _ _).drew).alloc (.inl (pC _)) _,λ_ _ _ h=>h,λ_ _ _ _=>rfl,⟨λb o v h=>?_,hS.gok,hS.blk.of (λ_ _ _ q=>q) λg x e=>?_⟩,.inr ⟨[.slice (some ⟨w.heap.size,0,none⟩) 0 G],?_,by simp,rfl⟩,by simp,by simp⟩
  ·have h':=hS _ _ _ h;have hne:b≠w.heap.size:=by rintro rfl;rw[hfr]at h;cases h
   show yj (w.heap.push _) b o=some v;unfold yj at h' ⊢;rw[mA,if_neg hne];exact h'
  ·have hlt:=hS.blk.lt e;show(w.heap.push _)[g]?=_;rw[mA,if_neg (by omega)]
  ·simp only[zU];refine⟨_,G,rfl,by simp,by simp,hGm,by simp,.inr ⟨w.heap.size,_,3,[],[],rfl,by show(w.heap.push _)[w.heap.size]?=_;rw[mA,if_pos rfl],?_,by simp,⟨rfl,rfl⟩,rfl,hfr⟩⟩;simp only[Array.size_append,hsz,Array.size_empty];omega
end Go.Own

namespace Go.Proofs
open Go.Proofs.Tryz
open Go.RowKit Go.Lib
theorem Tryz.meth77 (w:World):(method 392 77 (.agg #[]) "gauntlet/suites.fill").run prog w=.ok (218,.agg #[]) w:=by kernel_rfl
theorem Tryz.meth78 (w:World):(method 392 78 (.agg #[]) "gauntlet/suites.fill").run prog w=.ok (220,.agg #[]) w:=by kernel_rfl
theorem Tryz.meth79 (w:World):(method 392 79 (.agg #[]) "gauntlet/suites.fill").run prog w=.ok (229,.agg #[]) w:=by kernel_rfl
theorem Tryz.tas (w:World):(Instr.typeAssert (.iface 124 (.agg #[])) 20 124 true).run prog w=.ok (.tuple #[.agg #[],.bool true]) w:=by kernel_rfl
theorem Tryz.mk1 (w:World):(Instr.makeSlice 89 (.int .i64 1) (.int .i64 1)).run prog w=.ok (.slice (some ⟨w.heap.size,0,none⟩) 1 1) (w.alloc (.cells (Array.replicate 16 (.int .i32 0)) 162)):=by
 have h:(prog.info? 162).map (λi=>(i.size,i.bytes,i.zero))=some (16,64,some (.agg (Array.replicate 16 (.int .i32 0)))):=by kernel_rfl
 obtain⟨i0,hi0,hi⟩:=pZ.1 h;obtain⟨hs0,hi⟩:=Prod.mk.inj hi;obtain⟨hb0,hz0⟩:=Prod.mk.inj hi;have q:=run_makeSlice (P:=prog) (w:=w) 89 162 i0 _ underlying89 hi0 hz0 .i64 .i64 1 1 (by omega) (by omega) (by rw[hs0];decide) (by rw[hb0];omega) (by omega);rw[hs0,show madeCells (Value.agg (Array.replicate 16 (Value.int .i32 0))).cells (Int.toNat 1*16)=Array.replicate 16 (.int .i32 0) from by kernel_rfl]at q;exact q
def Tryz.gw4 (w:World)(most:Int):World :=
 (((w.alloc (.cells #[.pointer (some ⟨w.heap.size+1+1+1,0,none⟩)] 86)).alloc (.cells #[.bool false] 4)).alloc (.cells (Array.replicate 16 (.int .i32 0)) 162)).alloc (.cells #[.slice (some ⟨w.heap.size+1+1,0,none⟩) 1 1,.int .i64 0,.int .i64 most] 91)
theorem Tryz.catch_idle (p q:Addr)(w:World) :
  CallsD prog 77 #[.pointer (some p),.pointer (some q)] .returning w λe u' w'=>e=.returned (.tuple #[])/\u'=.returning/\w'=w:=by
 refine callsD_of_wpS func77 rfl λc₀ cs hu=>?_;apply wpS_seq;apply wpS_region;simp[wpOpsS,go_sem,recoverD,hu,ntmps77,Exit.thenS];apply wpS_seq;apply wpS_region;simp[wpOpsS,go_sem,recoverD,hu,ntmps77,Exit.thenS];refine wpS_cond (t:=false) (by simp[Act.eval,Array.replicate]) ?_;simp only[gG,if_false];refine wpS_of_wp (wp_skip ?_);cases c₀
 simp_all [bodyPostS,results,results77]
theorem Tryz.catch_panicking (n:Nat)(older:List PanicEntry)(w:World)(x:Value)(y:Value)(h1:w.heap[n]?=some (.cells #[x] 86))(h2:w.heap[n+1]?=some (.cells #[y] 4)) :
  CallsD prog 77 #[.pointer (some ⟨n,0,none⟩),.pointer (some ⟨n+1,0,none⟩)] (.panicking ({ v:=.iface 124 (.agg #[]),recovered:=false }::older)) w λe u' w'=>e=.returned (.tuple #[])/\u'=.panicking ({ v:=.iface 124 (.agg #[]),recovered:=true }::older)/\w'=((w.alloc (.cells #[] 124)).setCell ⟨n,0,none⟩ (.pointer none)).setCell ⟨n+1,0,none⟩ (.bool false):=by
 have ht:=Tryz.tas;refine callsD_of_wpS func77 rfl λc₀ cs hu=>?_;apply wpS_seq;apply wpS_region;simp[wpOpsS,go_sem,recoverD,hu,ntmps77,Exit.thenS];apply wpS_seq;apply wpS_region;simp[wpOpsS,go_sem,recoverD,hu,ntmps77,Exit.thenS];refine wpS_cond (t:=true) (by simp[Act.eval,Array.replicate]) ?_;simp only[if_true];apply wpS_seq;apply wpS_seq;apply wpS_region;simp[wpOpsS,go_sem,recoverD,hu,ntmps77,Exit.thenS,ht];apply wpS_seq;apply wpS_region;simp[wpOpsS,go_sem,recoverD,hu,ntmps77,Exit.thenS,ht];refine wpS_cond (t:=false) (by simp[Act.eval,Array.replicate]) ?_;simp only[gG,if_false];refine wpS_of_wp (wp_skip ?_);simp only[Exit.thenS];apply wpS_region;have l1:=(pK.1 h1).1;have l2:=(pK.1 h2).1;have g1:(w.alloc (.cells #[] 124)).heap[n]?=some (.cells #[x] 86):=by simp only[World.alloc];rw[mA,if_neg (by omega),h1]
 have g2:(w.alloc (.cells #[] 124)).heap[n+1]?=some (.cells #[y] 4):=by simp only[World.alloc];rw[mA,if_neg (by omega),h2]
 have hp1:(w.alloc (.cells #[] 124)).cell? ⟨n,0,none⟩=some x:=by simp[World.cell?,g1]
 have hz1:(w.alloc (.cells #[] 124)).frozen? ⟨n,0,none⟩=false:=by simp[World.frozen?,g1]
 have g3:((w.alloc (.cells #[] 124)).setCell ⟨n,0,none⟩ (.pointer none)).heap[n+1]?=some (.cells #[y] 4):=by simp only[World.setCell,nB];rw[if_neg (by omega),g2]
 have hp2:((w.alloc (.cells #[] 124)).setCell ⟨n,0,none⟩ (.pointer none)).cell? ⟨n+1,0,none⟩=some y:=by simp only[World.cell?,g3];rfl
 have hz2:((w.alloc (.cells #[] 124)).setCell ⟨n,0,none⟩ (.pointer none)).frozen? ⟨n+1,0,none⟩=false:=by simp only[World.frozen?,g3];rfl
 simp[wpOpsS,go_sem,recoverD,hu,ntmps77,Exit.thenS,ht,hp1,hz1,hp2,hz2];cases c₀
 simp_all [bodyPostS,results,results77]
set_option maxHeartbeats 4000000 in
set_option maxRecDepth 100000 in
theorem Tryz.gat_run (T kf:Nat)(hmeth:∀w,(method 392 T (.agg #[]) "gauntlet/suites.fill").run prog w=.ok (kf,.agg #[]) w)(hcf:∀args w,(callFunc kf args).run prog w=.ok (.enter kf args) w)(xv:Value)(most:Int)(w:World)(K:World->Prop)
  (hcall:Calls prog kf #[.agg #[],xv,.pointer (some ⟨w.heap.size+1+1+1,0,none⟩)] (Tryz.gw4 w most) λe w5=>e=.returned (.tuple #[])/\w5.heap[w.heap.size]?=some (.cells #[.pointer (some ⟨w.heap.size+1+1+1,0,none⟩)] 86)/\w5.heap[w.heap.size+1]?=some (.cells #[.bool false] 4)/\K w5) :
  Calls prog 37 #[xv,.iface T (.agg #[]),.int .i64 most] w λe w'=>e=.returned (.tuple #[.pointer (some ⟨w.heap.size+1+1+1,0,none⟩),.bool true])/\∃w5,K w5/\w'=(w5.setCell ⟨w.heap.size,0,none⟩ (.pointer (some ⟨w.heap.size+1+1+1,0,none⟩))).setCell ⟨w.heap.size+1,0,none⟩ (.bool true):=by
 have hmf:∀(fn:Fn) (first cap:Array Value) (w:World),(Instr.makeFunc fn first cap).run prog w=.ok (.func fn first cap) w:=λ_ _ _ _=>rfl;have hmk:=Tryz.mk1
 go_enter_defers func37,ntmps37
 go_wp2
 refine Calls.mono hcall ?_;rintro e w5 ⟨rfl,h1,h2,h3⟩;have hc1:w5.cell? ⟨w.heap.size,0,none⟩=some (.pointer (some ⟨w.heap.size+1+1+1,0,none⟩)):=by simp[World.cell?,h1]
 have hc2:w5.cell? ⟨w.heap.size+1,0,none⟩=some (.bool false):=by simp[World.cell?,h2]
 have hz1:w5.frozen? ⟨w.heap.size,0,none⟩=false:=by simp[World.frozen?,h1]
 have hz2:w5.frozen? ⟨w.heap.size+1,0,none⟩=false:=by simp[World.frozen?,h2]
 dsimp only
 go_wp2
 refine leaves_cons (f:=77) (args:=#[.pointer (some ⟨w.heap.size,0,none⟩),.pointer (some ⟨w.heap.size+1,0,none⟩)]) (by simp) (by simp[go_sem]) ?_;refine(Tryz.catch_idle _ _ _).mono ?_;rintro e u' w'' ⟨rfl,rfl,rfl⟩;have hcA:(w5.setCell ⟨w.heap.size,0,none⟩ (.pointer (some ⟨w.heap.size+1+1+1,0,none⟩))).cell? ⟨w.heap.size,0,none⟩=some (.pointer (some ⟨w.heap.size+1+1+1,0,none⟩)):=by simp[World.cell?,World.setCell,nB,h1]
 have hcB:((w5.setCell ⟨w.heap.size,0,none⟩ (.pointer (some ⟨w.heap.size+1+1+1,0,none⟩))).setCell ⟨w.heap.size+1,0,none⟩ (.bool true)).cell? ⟨w.heap.size+1,0,none⟩=some (.bool true):=by simp[World.cell?,World.setCell,nB,h2]
 simp[Leaves,settle,results,results37,go_sem,hcA,hcB];exact⟨w5,h3,rfl⟩
set_option maxHeartbeats 4000000 in
set_option maxRecDepth 100000 in
theorem Tryz.gat_die (T kf:Nat)(hmeth:∀w,(method 392 T (.agg #[]) "gauntlet/suites.fill").run prog w=.ok (kf,.agg #[]) w)(hcf:∀args w,(callFunc kf args).run prog w=.ok (.enter kf args) w)(xv:Value)(most:Int)(w:World)(K:World->Prop)
  (hcall:Calls prog kf #[.agg #[],xv,.pointer (some ⟨w.heap.size+1+1+1,0,none⟩)] (Tryz.gw4 w most) λe w5=>e=.panicked (Own.XG (.iface 124 (.agg #[])))/\w5.heap[w.heap.size]?=some (.cells #[.pointer (some ⟨w.heap.size+1+1+1,0,none⟩)] 86)/\w5.heap[w.heap.size+1]?=some (.cells #[.bool false] 4)/\K w5) :
  Calls prog 37 #[xv,.iface T (.agg #[]),.int .i64 most] w λe w'=>e=.returned (.tuple #[.pointer none,.bool false])/\∃w5,K w5/\w'=((w5.alloc (.cells #[] 124)).setCell ⟨w.heap.size,0,none⟩ (.pointer none)).setCell ⟨w.heap.size+1,0,none⟩ (.bool false):=by
 have hmf:∀(fn:Fn) (first cap:Array Value) (w:World),(Instr.makeFunc fn first cap).run prog w=.ok (.func fn first cap) w:=λ_ _ _ _=>rfl;have hmk:=Tryz.mk1
 go_enter_defers func37,ntmps37
 go_wp2
 refine Calls.mono hcall ?_;rintro e w5 ⟨rfl,h1,h2,h3⟩;have l1:=(pK.1 h1).1;have l2:=(pK.1 h2).1;have g1:(w5.alloc (.cells #[] 124)).heap[w.heap.size]?=some (.cells #[.pointer (some ⟨w.heap.size+1+1+1,0,none⟩)] 86):=by simp only[World.alloc];rw[mA,if_neg (by omega),h1]
 have g2:(w5.alloc (.cells #[] 124)).heap[w.heap.size+1]?=some (.cells #[.bool false] 4):=by simp only[World.alloc];rw[mA,if_neg (by omega),h2]
 dsimp only[Own.XG];refine leaves_cons (f:=77) (args:=#[.pointer (some ⟨w.heap.size,0,none⟩),.pointer (some ⟨w.heap.size+1,0,none⟩)]) (by simp) (by simp[go_sem]) ?_;refine(Tryz.catch_panicking w.heap.size [] w5 _ _ h1 h2).mono ?_;rintro e u' w'' ⟨rfl,rfl,rfl⟩;have hcA:((w5.alloc (.cells #[] 124)).setCell ⟨w.heap.size,0,none⟩ (.pointer none)).cell? ⟨w.heap.size,0,none⟩=some (.pointer none):=by simp[World.cell?,World.setCell,nB,g1]
 have hcB:(((w5.alloc (.cells #[] 124)).setCell ⟨w.heap.size,0,none⟩ (.pointer none)).setCell ⟨w.heap.size+1,0,none⟩ (.bool false)).cell? ⟨w.heap.size+1,0,none⟩=some (.bool false):=by simp[World.cell?,World.setCell,nB,g2]
 simp[Leaves,settle,results,results37,go_sem,hcA,hcB];exact⟨w5,h3,rfl⟩
end Go.Proofs
namespace Go.Own
open Go.Proofs
theorem zgw {T kf:Nat}(hmeth:∀w,(method 392 T (.agg #[]) "gauntlet/suites.fill").run Tryz.prog w=.ok (kf,.agg #[]) w)(hcf:∀args w,(callFunc kf args).run Tryz.prog w=.ok (.enter kf args) w){xs y z:A}{most:Int}{died:Bool}(hxs:xs.isD=true)(hl:y.live=true)(hz:y.shut=z)
  (hfill:∀bv,zgO Tryz.prog kf [.agg [],xs,.atom bv] [(bv,.box (.agg [.osl 16 false [.agg (List.replicate 16 (.atom (.int .i32 0)))],.atom (.int .i64 0),.atom (.int .i64 most)]))] died (.iface 124 (.agg #[])) (.tup []) [.box y]) :
  V5 Tryz.prog 37 [xs,.atom (.iface T (.agg #[])),.atom (.int .i64 most)] (.tup [bif died then .atom (.pointer none) else .sptr z,.atom (.bool (!died))]):=by
 refine⟨⟨_,Tryz.func37,by kernel_rfl,by kernel_rfl⟩,?_⟩;intro S w vs F hS hq hF;match vs,hq with
 | [u,v,x],q=>
  obtain⟨F1,F2,rfl,q1,F3,F4,rfl,q2,F5,F6,rfl,q3,q4⟩:=q;have e4:F6=[]:=q4;subst e4;have d:∀{x:A} {u:Value} {F:List Nat},x.isD=true->Has S w.heap x u F->qa S x u/\F=[]:=by
   intro x u F hx q;rcases q with⟨q,rfl⟩|⟨cs,q1,q2,q3⟩
   ·exact⟨q.rep1 hx,rfl⟩
   ·obtain⟨r,rfl⟩:=q1.isD hx;exact⟨⟨cs,r,q3⟩,rfl⟩
  obtain⟨r1,rfl⟩:=d hxs q1;obtain⟨r2,rfl⟩:=d rfl q2;obtain⟨r3,rfl⟩:=d rfl q3;obtain rfl:v=.iface T (.agg #[]):=(xY.1 r2).1;obtain rfl:x=.int .i64 most:=(xY.1 r3).1;have hnew:∀b o,w.heap.size<=b->S b o=none:=λb o hb=>by
   cases hh:S b o with
   | none=>rfl
   | some x=>have:=hS _ _ _ hh;simp[yj,r9 hb]at this
  have hsz:(Tryz.gw4 w most).heap.size=w.heap.size+4:=by simp only[Tryz.gw4,World.alloc,Array.size_push]
  have hold:∀b,b<w.heap.size->(Tryz.gw4 w most).heap[b]?=w.heap[b]?:=λb hb=>by simp only[Tryz.gw4,World.alloc];simp only[mA,Array.size_push];rw[if_neg (by omega),if_neg (by omega),if_neg (by omega),if_neg (by omega)]
  have c0:(Tryz.gw4 w most).heap[w.heap.size]?=some (.cells #[.pointer (some ⟨w.heap.size+1+1+1,0,none⟩)] 86):=by simp only[Tryz.gw4,World.alloc];simp only[mA,Array.size_push];rw[if_neg (by omega),if_neg (by omega),if_neg (by omega),if_pos trivial]
  have c1:(Tryz.gw4 w most).heap[w.heap.size+1]?=some (.cells #[.bool false] 4):=by simp only[Tryz.gw4,World.alloc];simp only[mA,Array.size_push];rw[if_neg (by omega),if_neg (by omega),if_pos trivial]
  have c2:(Tryz.gw4 w most).heap[w.heap.size+1+1]?=some (.cells (Array.replicate 16 (.int .i32 0)) 162):=by simp only[Tryz.gw4,World.alloc];simp only[mA,Array.size_push];rw[if_neg (by omega),if_pos trivial]
  have c3:(Tryz.gw4 w most).heap[w.heap.size+1+1+1]?=some (.cells #[.slice (some ⟨w.heap.size+1+1,0,none⟩) 1 1,.int .i64 0,.int .i64 most] 91):=by simp only[Tryz.gw4,World.alloc];simp only[mA,Array.size_push];rw[if_pos trivial]
  have hK4:UQ (λk=>w.heap.size<=k\/k∈([]:List Nat)) w (Tryz.gw4 w most):=by
   unfold Tryz.gw4;refine((((UQ.refl _ _).alloc (.inl (pC _)) _).alloc (.inl ?_) _).alloc (.inl ?_) _).alloc (.inl ?_) _
   all_goals simp only[World.alloc,Array.size_push];omega
  have hS4:xu S (Tryz.gw4 w most):=by
   refine⟨λb o u h=>?_,hS.gok,hS.blk.of (λ_ _ _ q=>q) λg x e=>hold g (hS.blk.lt e)⟩;have h':=hS _ _ _ h;have hb:b<w.heap.size:=by
    rcases pH b w.heap.size with h1|h1
    ·exact h1
    ·rw[hnew b o h1]at h;cases h
   unfold yj at h' ⊢;rw[hold b hb];exact h'
  have hbag:QI S (Tryz.gw4 w most).heap [.box (.agg [.osl 16 false [.agg (List.replicate 16 (.atom (.int .i32 0)))],.atom (.int .i64 0),.atom (.int .i64 most)])] [.pointer (some ⟨w.heap.size+1+1+1,0,none⟩)] [w.heap.size+1+1+1,w.heap.size+1+1]:=by
   have hcc:∀l:List Value,(∀v∈l,v.oneCell'=true)->zZ S (Tryz.gw4 w most).heap (l.map .atom) l []:=by
    intro l;induction l with
    | nil=>intro _;simp[zZ]
    | cons a l ih=>intro h;simp only[gM,zZ];exact⟨[a],l,[],[],rfl,rfl,by simp only[zU,Rep];simp[h a (by simp)],ih λv hv=>h v (by simp[hv])⟩
   have ho:zU S (Tryz.gw4 w most).heap (.osl 16 false [.agg (List.replicate 16 (.atom (.int .i32 0)))]) [.slice (some ⟨w.heap.size+1+1,0,none⟩) 1 1] [w.heap.size+1+1]:=by
    simp only[zU];refine⟨some ⟨w.heap.size+1+1,0,none⟩,1,by simp,by simp,by simp,by unfold maxLen;omega,?_,.inr ⟨w.heap.size+1+1,_,162,List.replicate 16 (.int .i32 0),[],rfl,c2,by simp,by simp,?_,by simp,λo=>hnew _ o (by omega)⟩⟩
    ·intro x hx;simp only[pD,pX,or_false]at hx;subst hx;rfl
    ·simp only[zZ];exact⟨List.replicate 16 (.int .i32 0),[],[],[],by simp,rfl,by simp only[zU];exact hcc (List.replicate 16 (.int .i32 0)) (by intro v hv;rw[mR hv];rfl),rfl,rfl⟩
   refine⟨[w.heap.size+1+1+1,w.heap.size+1+1],[],by simp,.inr ⟨[.pointer (some ⟨w.heap.size+1+1+1,0,none⟩)],?_,by simp,rfl⟩,rfl⟩;simp only[zU];refine⟨w.heap.size+1+1+1,91,[.slice (some ⟨w.heap.size+1+1,0,none⟩) 1 1,.int .i64 0,.int .i64 most],[w.heap.size+1+1],rfl,c3,?_,rfl,λo=>hnew _ o (by omega)⟩;simp only[zZ];exact⟨_,_,[w.heap.size+1+1],[],rfl,rfl,ho,[.int .i64 0],_,[],[],rfl,rfl,⟨by simp[Rep,Value.oneCell'],rfl⟩,[.int .i64 most],[],[],[],rfl,rfl,⟨by simp[Rep,Value.oneCell'],rfl⟩,rfl,rfl⟩
  have hfree:∀k∈[w.heap.size+1+1+1,w.heap.size+1+1],k=w.heap.size+1+1+1\/k=w.heap.size+1+1:=λk hk=>by simpa using hk
  have hargs:UR (qa S) [.agg [],xs,.atom (.pointer (some ⟨w.heap.size+1+1+1,0,none⟩))] [.agg #[],u,.pointer (some ⟨w.heap.size+1+1+1,0,none⟩)] :=
   ⟨⟨[],by simp[Rep,yK],rfl⟩,r1,xY.2 ⟨rfl,rfl⟩,trivial⟩
  have hfv:qa S (.fn kf []) (.func (.func kf) #[] #[]):=⟨[.func (.func kf) #[] #[]],by simp[Rep,yK],rfl⟩;obtain⟨hok,hdie⟩:=hfill (.pointer (some ⟨w.heap.size+1+1+1,0,none⟩));have hkept:∀{w5:World},UQ (λk=>(Tryz.gw4 w most).heap.size<=k\/k∈[w.heap.size+1+1+1,w.heap.size+1+1]) (Tryz.gw4 w most) w5->w5.heap[w.heap.size]?=some (.cells #[.pointer (some ⟨w.heap.size+1+1+1,0,none⟩)] 86)/\w5.heap[w.heap.size+1]?=some (.cells #[.bool false] 4):=λh=>
   have hm:∀k,k<w.heap.size+2->¬((Tryz.gw4 w most).heap.size<=k\/k∈[w.heap.size+1+1+1,w.heap.size+1+1]):=λk hk q=>by
    rcases q with q|q
    ·rw[hsz]at q;omega
    ·have:=hfree _ q;omega
   ⟨(h.block _ (hm _ (by omega))).trans c0,(h.block _ (hm _ (by omega))).trans c1⟩
  have hset:∀(w5:World) (a b:Value),UQ (λk=>w.heap.size<=k\/k∈([]:List Nat)) w5 ((w5.setCell ⟨w.heap.size,0,none⟩ a).setCell ⟨w.heap.size+1,0,none⟩ b):=λw5 a b=>
   ⟨rfl,rfl,rfl,pC _,by simp[World.setCell],λk hk=>by simp only[World.setCell,nB];rw[if_neg (by rintro rfl;exact hk (.inl (by omega))),if_neg (by rintro rfl;exact hk (.inl (by omega)))]⟩
  have hset2:∀(w5:World) (a b:Value) (k:Nat),k≠w.heap.size->k≠w.heap.size+1->((w5.setCell ⟨w.heap.size,0,none⟩ a).setCell ⟨w.heap.size+1,0,none⟩ b).heap[k]?=w5.heap[k]?:=λw5 a b k h1 h2=>by simp only[World.setCell,nB];rw[if_neg (nX h2),if_neg (nX h1)]
  have hstay:∀{w5 w6:World} {S5:zo},xu S5 w5->(∀o,S5 w.heap.size o=none)->(∀o,S5 (w.heap.size+1) o=none)->(∀k,k<w5.heap.size->k≠w.heap.size->k≠w.heap.size+1->w6.heap[k]?=w5.heap[k]?)->xu S5 w6:=by
   intro w5 w6 S5 h k1 k2 hb;have hne:∀b o u,S5 b o=some u->b≠w.heap.size/\b≠w.heap.size+1:=λb o u q=>⟨(by rintro rfl;rw[k1]at q;cases q),(by rintro rfl;rw[k2]at q;cases q)⟩;refine⟨λb o u q=>?_,h.gok,h.blk.of (λ_ _ _ q=>q) λg x e=>?_⟩
   ·have h':=h _ _ _ q;have hlt:b<w5.heap.size:=by
     unfold yj at h';cases hh:w5.heap[b]? with
     | none=>rw[hh]at h';cases h'
     | some y=>exact(pK.1 hh).1
    unfold yj at h' ⊢;rw[hb b hlt (hne b o u q).1 (hne b o u q).2];exact h'
   ·obtain⟨_,v,hv⟩:=h.blk g x e;exact hb g (h.blk.lt e) (hne g 0 v hv).1 (hne g 0 v hv).2
  cases died with
  | false=>
   have ha:=hok rfl S (Tryz.gw4 w most) _ _ _ hS4 hfv hargs hbag (by simp);rcases ha with⟨k,caps,fn,e1,_,_,_,h5⟩|⟨L,q,e1,_⟩
   ·cases e1;refine Calls.mono (Tryz.gat_run T kf hmeth hcf u most w (λw5=>∃(S':zo) (G:List Nat),UQ (λk=>(Tryz.gw4 w most).heap.size<=k\/k∈[w.heap.size+1+1+1,w.heap.size+1+1]) (Tryz.gw4 w most) w5/\(∀b o u,S b o=some u->S' b o=some u)/\(∀b o,b<(Tryz.gw4 w most).heap.size->b∉[w.heap.size+1+1+1,w.heap.size+1+1]->S' b o=S b o)/\xu S' w5 /\
     Has S' w5.heap (.box y) (.pointer (some ⟨w.heap.size+1+1+1,0,none⟩)) G/\G.Nodup/\∀k∈G,(Tryz.gw4 w most).heap.size<=k\/k∈[w.heap.size+1+1+1,w.heap.size+1+1]) (Calls.mono h5 ?_)) ?_
    ·rintro e w5 ⟨v,rfl,S',F',G,b1,b2,b3,b4,b5,b6,b7,b8⟩;have hv:v=.tuple #[]:=by
      rcases b5 with⟨q,_⟩|⟨cs,q,_⟩
      ·simp only[wh]at q;obtain⟨us,rfl,q⟩:=q;cases us with
       | nil=>rfl
       | cons a l=>exact q.elim
      ·simp only[zU]at q
     subst hv;obtain⟨H1,H2,rfl,g1,g2⟩:=b6;have eH:H2=[]:=g2;subst eH;simp only[p9]at b7 b8;exact⟨rfl,(hkept b1).1,(hkept b1).2,S',H1,b1,b2,b3,b4,g1,(pM.1 b7).1,λk hk=>b8 k (by simp[hk])⟩
    ·rintro e w' ⟨rfl,w5,⟨S',G,b1,b2,b3,b4,b5,b6,b7⟩,rfl⟩;have hG:∀k∈G,w.heap.size+2<=k:=λk hk=>by
      rcases b7 k hk with q|q
      ·rw[hsz]at q;omega
      ·have:=hfree k q;omega
     have n1:∀o,S' w.heap.size o=none:=λo=>by rw[b3 _ _ (by rw[hsz];omega) (λq=>by have:=hfree _ q;omega)];exact hnew _ _ (pC _)
     have n2:∀o,S' (w.heap.size+1) o=none:=λo=>by rw[b3 _ _ (by rw[hsz];omega) (λq=>by have:=hfree _ q;omega)];exact hnew _ _ (by omega)
     have hown:=b5.own;have hmono:=KT (S:=S') (h:=w5.heap) (F:=G) (λk hk=>(hown k hk).2);have hm5:xu (yf S' w5.heap G) w5:=⟨λb o u q=>by
      unfold yf at q;split at q
      ·exact q
      ·exact b4 b o u q,Gok.mono hmono b4.gok,b4.blk.of hmono λ_ _ _=>rfl⟩
     have hng:∀k,k<w.heap.size+2->k∉G:=λk hk q=>by have:=hG k q;omega
     refine⟨_,yf S' w5.heap G,[],rfl,(hK4.trans (b1.mono (λk hk=>.inl (by
       rcases hk with q|q
       ·rw[hsz]at q;omega
       ·have:=hfree k q;omega)))).trans (hset _ _ _),λb o u q=>hmono b o u (b2 b o u q),λb o hb hbF=>?_,hstay hm5 (λo=>?_) (λo=>?_) (λk _ h1 h2=>hset2 _ _ _ k h1 h2),.inl ⟨?_,rfl⟩,by simp,by simp⟩
     ·unfold yf;rw[if_neg (hng b (by omega))];exact b3 b o (by rw[hsz];omega) (λq=>by have:=hfree _ q;omega)
     ·unfold yf;rw[if_neg (hng _ (by omega))];exact n1 o
     ·unfold yf;rw[if_neg (hng _ (by omega))];exact n2 o
     ·simp only[wh];refine⟨[_,_],rfl,?_,xY.2 ⟨rfl,rfl⟩,trivial⟩;rcases b5 with⟨q,_⟩|⟨cs,q1,q2,q3⟩
      ·simp only[wh,qa,Rep,false_and,exists_false]at q
      ·refine⟨cs,?_,q3⟩;have:=q1.shut hmono (by simpa only[A.live] using hl) (λk hk o=>by unfold yf;rw[if_pos hk]);simp only[A.shut,hz]at this;exact this
   ·cases e1
  | true=>
   obtain⟨_,hcall⟩:=hdie rfl;refine Calls.mono (Tryz.gat_die T kf hmeth hcf u most w (λw5=>∃S':zo,UQ (λk=>(Tryz.gw4 w most).heap.size<=k\/k∈[w.heap.size+1+1+1,w.heap.size+1+1]) (Tryz.gw4 w most) w5/\(∀b o u,S b o=some u->S' b o=some u)/\(∀b o,b<(Tryz.gw4 w most).heap.size->b∉[w.heap.size+1+1+1,w.heap.size+1+1]->S' b o=S b o)/\xu S' w5) (Calls.mono (hcall S (Tryz.gw4 w most) _ _ hS4 hargs hbag (by simp)) ?_)) ?_
   ·rintro e w5 ⟨rfl,S',b1,b2,b3,b4⟩;exact⟨rfl,(hkept b1).1,(hkept b1).2,S',b1,b2,b3,b4⟩
   ·rintro e w' ⟨rfl,w5,⟨S',b1,b2,b3,b4⟩,rfl⟩;have n1:∀o,S' w.heap.size o=none:=λo=>by rw[b3 _ _ (by rw[hsz];omega) (λq=>by have:=hfree _ q;omega)];exact hnew _ _ (pC _)
    have n2:∀o,S' (w.heap.size+1) o=none:=λo=>by rw[b3 _ _ (by rw[hsz];omega) (λq=>by have:=hfree _ q;omega)];exact hnew _ _ (by omega)
    have hs5:w.heap.size<=w5.heap.size:=by have:=b1.size;rw[hsz]at this;omega
    refine⟨_,S',[],rfl,(hK4.trans (b1.mono (λk hk=>.inl (by
      rcases hk with q|q
      ·rw[hsz]at q;omega
      ·have:=hfree k q;omega)))).trans (((UQ.refl _ _).alloc (.inl hs5) _).trans (hset _ _ _)),b2,λb o hb hbF=>b3 b o (by rw[hsz];omega) (λq=>by have:=hfree _ q;omega),hstay b4 n1 n2 (λk hk h1 h2=>?_),.inl ⟨?_,rfl⟩,by simp,by simp⟩
    ·rw[hset2 _ _ _ k h1 h2];show(w5.heap.push _)[k]?=_;rw[mA,if_neg (by omega)]
    ·simp only[wh];exact⟨[_,_],rfl,xY.2 ⟨rfl,rfl⟩,xY.2 ⟨rfl,rfl⟩,trivial⟩
structure vE (α:Type) where
 e0:α
 e1:α
 deriving DecidableEq
instance {α:Type}[BEq α]:BEq (vE α):=⟨λx y=>(x.e0==y.e0)&&(x.e1==y.e1)⟩
section
variable {α:Type}
def z5w (f:α->A)(x:vE α):A:=.agg [f x.e0,f x.e1]
instance (f:α->A)[h:z4U f]:z4U (z5w f):=⟨λx=>by simp[z5w,A.isD,A.areD,h.isD]⟩
instance (f g:α->A)[h:Kz f g]:Kz (z5w f) (z5w g):=⟨λx=>by simp[z5w,A.loose,A.looses,h.lo]⟩
instance (f g:α->A)[h:z7V f g]:z7V (z5w f) (z5w g):=⟨λx=>by simp[z5w,A.live,A.lives,h.live],λx=>by simp[z5w,A.shut,A.shuts,h.sh]⟩
instance (f:α->A)[h:kZ f]:kZ (z5w f):=⟨λx y q=>by simp only[z5w,A.agg.injEq,List.cons.injEq,and_true]at q;cases x;cases y;simp only[vE.mk.injEq];exact⟨h.inj _ _ q.1,h.inj _ _ q.2⟩⟩
end
structure Q9 (α:Type) where
 e0:α
 e1:α
 e2:α
 deriving DecidableEq
section
variable {α:Type}
def zsA (f:α->A)(x:Q9 α):A:=.agg [f x.e0,f x.e1,f x.e2]
end
section
variable {α:Type}
def Q9.toL (x:Q9 α):List α:=[x.e0,x.e1,x.e2]
def Q9.ofL:List α->Q9 α->Q9 α
 | [x0,x1,x2],_=>⟨x0,x1,x2⟩
 | _,d=>d
theorem Q9.toL_ofL (l:List α)(d:Q9 α)(h:l.length=3):(Q9.ofL l d).toL=l:=by
 match l,h with
 | [x0,x1,x2],_=>rfl
def Q9.setI (x:Q9 α)(i:Int)(v:α):Q9 α:=Q9.ofL (x.toL.set i.toNat v) x
theorem Q9.setL (f:α->A)(x:Q9 α)(i:Int)(v:α):(x.toL.map f).set i.toNat (f v)=((Q9.setI x i v).toL).map f:=by unfold Q9.setI;rw[Q9.toL_ofL _ _ (by simp[Q9.toL]),List.map_set]
end
structure zq (α:Type) where
 e0:α
 e1:α
 e2:α
 e3:α
 e4:α
 e5:α
 e6:α
 e7:α
 e8:α
 e9:α
 e10:α
 e11:α
 e12:α
 e13:α
 e14:α
 e15:α
 deriving DecidableEq
instance {α:Type}[BEq α]:BEq (zq α):=⟨λx y=>(x.e0==y.e0)&&(x.e1==y.e1)&&(x.e2==y.e2)&&(x.e3==y.e3)&&(x.e4==y.e4)&&(x.e5==y.e5)&&(x.e6==y.e6)&&(x.e7==y.e7)&&(x.e8==y.e8)&&(x.e9==y.e9)&&(x.e10==y.e10)&&(x.e11==y.e11)&&(x.e12==y.e12)&&(x.e13==y.e13)&&(x.e14==y.e14)&&(x.e15==y.e15)⟩
section
variable {α:Type}
def Jy (f:α->A)(x:zq α):A:=.agg [f x.e0,f x.e1,f x.e2,f x.e3,f x.e4,f x.e5,f x.e6,f x.e7,f x.e8,f x.e9,f x.e10,f x.e11,f x.e12,f x.e13,f x.e14,f x.e15]
instance (f:α->A)[h:z4U f]:z4U (Jy f):=⟨λx=>by simp[Jy,A.isD,A.areD,h.isD]⟩
instance (f g:α->A)[h:Kz f g]:Kz (Jy f) (Jy g):=⟨λx=>by simp[Jy,A.loose,A.looses,h.lo]⟩
instance (f g:α->A)[h:z7V f g]:z7V (Jy f) (Jy g):=⟨λx=>by simp[Jy,A.live,A.lives,h.live],λx=>by simp[Jy,A.shut,A.shuts,h.sh]⟩
instance (f:α->A)[h:kZ f]:kZ (Jy f):=⟨λx y q=>by simp only[Jy,A.agg.injEq,List.cons.injEq,and_true]at q;cases x;cases y;simp only[zq.mk.injEq];exact⟨h.inj _ _ q.1,h.inj _ _ q.2.1,h.inj _ _ q.2.2.1,h.inj _ _ q.2.2.2.1,h.inj _ _ q.2.2.2.2.1,h.inj _ _ q.2.2.2.2.2.1,h.inj _ _ q.2.2.2.2.2.2.1,h.inj _ _ q.2.2.2.2.2.2.2.1,h.inj _ _ q.2.2.2.2.2.2.2.2.1,h.inj _ _ q.2.2.2.2.2.2.2.2.2.1,h.inj _ _ q.2.2.2.2.2.2.2.2.2.2.1,h.inj _ _ q.2.2.2.2.2.2.2.2.2.2.2.1,h.inj _ _ q.2.2.2.2.2.2.2.2.2.2.2.2.1,h.inj _ _ q.2.2.2.2.2.2.2.2.2.2.2.2.2.1,h.inj _ _ q.2.2.2.2.2.2.2.2.2.2.2.2.2.2.1,h.inj _ _ q.2.2.2.2.2.2.2.2.2.2.2.2.2.2.2⟩⟩
end
section
variable {α:Type}
def zq.toL (x:zq α):List α:=[x.e0,x.e1,x.e2,x.e3,x.e4,x.e5,x.e6,x.e7,x.e8,x.e9,x.e10,x.e11,x.e12,x.e13,x.e14,x.e15]
def zq.ofL:List α->zq α->zq α
 | [x0,x1,x2,x3,x4,x5,x6,x7,x8,x9,eu,fx,x12,ff,mr,x15],_=>⟨x0,x1,x2,x3,x4,x5,x6,x7,x8,x9,eu,fx,x12,ff,mr,x15⟩
 | _,d=>d
theorem zq.toL_ofL (l:List α)(d:zq α)(h:l.length=16):(zq.ofL l d).toL=l:=by
 match l,h with
 | [x0,x1,x2,x3,x4,x5,x6,x7,x8,x9,eu,fx,x12,ff,mr,x15],_=>rfl
def zq.setI (x:zq α)(i:Int)(v:α):zq α:=zq.ofL (x.toL.set i.toNat v) x
theorem zq.setL (f:α->A)(x:zq α)(i:Int)(v:α):(x.toL.map f).set i.toNat (f v)=((zq.setI x i v).toL).map f:=by unfold zq.setI;rw[zq.toL_ofL _ _ (by simp[zq.toL]),List.map_set]
end
structure zT where
 States:Int
 Inputs:Int
 Outputs:Int
 Tree:List Int
 Edges:List Int
def Xi (f0:Int->A)(f1:Int->A)(f2:Int->A)(f3:List Int->A)(f4:List Int->A)(x:zT):A:=.agg [f0 x.States,f1 x.Inputs,f2 x.Outputs,f3 x.Tree,f4 x.Edges]
instance (f0:Int->A)(f1:Int->A)(f2:Int->A)(f3:List Int->A)(f4:List Int->A)(g0:Int->A)(g1:Int->A)(g2:Int->A)(g3:List Int->A)(g4:List Int->A)[h0:Kz f0 g0][h1:Kz f1 g1][h2:Kz f2 g2][h3:Kz f3 g3][h4:Kz f4 g4]:Kz (Xi f0 f1 f2 f3 f4) (Xi g0 g1 g2 g3 g4):=⟨λx=>by simp[Xi,A.loose,A.looses,h0.lo,h1.lo,h2.lo,h3.lo,h4.lo]⟩
instance (f0:Int->A)(f1:Int->A)(f2:Int->A)(f3:List Int->A)(f4:List Int->A)[h0:kZ f0][h1:kZ f1][h2:kZ f2][h3:kZ f3][h4:kZ f4]:kZ (Xi f0 f1 f2 f3 f4):=⟨λx y h=>by simp only[Xi,A.agg.injEq,List.cons.injEq,and_true]at h;cases x;cases y;simp only[zT.mk.injEq];exact⟨h0.inj _ _ h.1,h1.inj _ _ h.2.1,h2.inj _ _ h.2.2.1,h3.inj _ _ h.2.2.2.1,h4.inj _ _ h.2.2.2.2⟩⟩
structure qM where
 C:zT
def Xh (f0:zT->A)(x:qM):A:=.agg [f0 x.C]
instance (f0:zT->A)(g0:zT->A)[h0:Kz f0 g0]:Kz (Xh f0) (Xh g0):=⟨λx=>by simp[Xh,A.loose,A.looses,h0.lo]⟩
instance (f0:zT->A)[h0:kZ f0]:kZ (Xh f0):=⟨λx y h=>by simp only[Xh,A.agg.injEq,List.cons.injEq,and_true]at h;cases x;cases y;simp only[qM.mk.injEq];exact h0.inj _ _ h⟩
structure z8 where
 To:Int
 Out:Int
def qn (f0:Int->A)(f1:Int->A)(x:z8):A:=.agg [f0 x.To,f1 x.Out]
instance (f0:Int->A)(f1:Int->A)[h0:z4U f0][h1:z4U f1]:z4U (qn f0 f1):=⟨λx=>by simp[qn,A.isD,A.areD,h0.isD,h1.isD]⟩
instance (f0:Int->A)(f1:Int->A)(g0:Int->A)(g1:Int->A)[h0:Kz f0 g0][h1:Kz f1 g1]:Kz (qn f0 f1) (qn g0 g1):=⟨λx=>by simp[qn,A.loose,A.looses,h0.lo,h1.lo]⟩
instance (f0:Int->A)(f1:Int->A)(g0:Int->A)(g1:Int->A)[h0:z7V f0 g0][h1:z7V f1 g1]:z7V (qn f0 f1) (qn g0 g1):=⟨λx=>by simp[qn,A.live,A.lives,h0.live,h1.live],λx=>by simp[qn,A.shut,A.shuts,h0.sh,h1.sh]⟩
instance (f0:Int->A)(f1:Int->A)[h0:kZ f0][h1:kZ f1]:kZ (qn f0 f1):=⟨λx y h=>by simp only[qn,A.agg.injEq,List.cons.injEq,and_true]at h;cases x;cases y;simp only[z8.mk.injEq];exact⟨h0.inj _ _ h.1,h1.inj _ _ h.2⟩⟩
structure z6 where
 Inputs:Int
 Outputs:Int
 Rows:List (List z8)
def kV (f0:Int->A)(f1:Int->A)(f2:List (List z8)->A)(x:z6):A:=.agg [f0 x.Inputs,f1 x.Outputs,f2 x.Rows]
instance (f0:Int->A)(f1:Int->A)(f2:List (List z8)->A)(g0:Int->A)(g1:Int->A)(g2:List (List z8)->A)[h0:Kz f0 g0][h1:Kz f1 g1][h2:Kz f2 g2]:Kz (kV f0 f1 f2) (kV g0 g1 g2):=⟨λx=>by simp[kV,A.loose,A.looses,h0.lo,h1.lo,h2.lo]⟩
instance (f0:Int->A)(f1:Int->A)(f2:List (List z8)->A)[h0:kZ f0][h1:kZ f1][h2:kZ f2]:kZ (kV f0 f1 f2):=⟨λx y h=>by simp only[kV,A.agg.injEq,List.cons.injEq,and_true]at h;cases x;cases y;simp only[z6.mk.injEq];exact⟨h0.inj _ _ h.1,h1.inj _ _ h.2.1,h2.inj _ _ h.2.2⟩⟩
structure zM where
 block_:Int
 signature_:zq (vE Int)
instance:BEq zM:=⟨λx y=>(x.block_==y.block_)&&(x.signature_==y.signature_)⟩
def z1j (f0:Int->A)(f1:zq (vE Int)->A)(x:zM):A:=.agg [f0 x.block_,f1 x.signature_]
structure zm where
 state_:Int
 from_:Int
 input_:Int
def Jx (f0:Int->A)(f1:Int->A)(f2:Int->A)(x:zm):A:=.agg [f0 x.state_,f1 x.from_,f2 x.input_]
instance (f0:Int->A)(f1:Int->A)(f2:Int->A)[h0:z4U f0][h1:z4U f1][h2:z4U f2]:z4U (Jx f0 f1 f2):=⟨λx=>by simp[Jx,A.isD,A.areD,h0.isD,h1.isD,h2.isD]⟩
structure zW where
 S:Int
 T:Int
 Word:List Int
 Apart:Bool
def y9 (f0:Int->A)(f1:Int->A)(f2:List Int->A)(f3:Bool->A)(x:zW):A:=.agg [f0 x.S,f1 x.T,f2 x.Word,f3 x.Apart]
instance (f0:Int->A)(f1:Int->A)(f2:List Int->A)(f3:Bool->A)[h0:z4U f0][h1:z4U f1][h2:z4U f2][h3:z4U f3]:z4U (y9 f0 f1 f2 f3):=⟨λx=>by simp[y9,A.isD,A.areD,h0.isD,h1.isD,h2.isD,h3.isD]⟩
instance (f0:Int->A)(f1:Int->A)(f2:List Int->A)(f3:Bool->A)(g0:Int->A)(g1:Int->A)(g2:List Int->A)(g3:Bool->A)[h0:z7V f0 g0][h1:z7V f1 g1][h2:z7V f2 g2][h3:z7V f3 g3]:z7V (y9 f0 f1 f2 f3) (y9 g0 g1 g2 g3):=⟨λx=>by simp[y9,A.live,A.lives,h0.live,h1.live,h2.live,h3.live],λx=>by simp[y9,A.shut,A.shuts,h0.sh,h1.sh,h2.sh,h3.sh]⟩
structure zl where
 m_:z6
 q_:List (List Int)
 p_:List (List Int)
 all_:List (List Int)
 each_:List (List (List Int))
 short_:List (List Int)
 exact_:List (List Int)
def YV (f0:z6->A)(f1:List (List Int)->A)(f2:List (List Int)->A)(f3:List (List Int)->A)(f4:List (List (List Int))->A)(f5:List (List Int)->A)(f6:List (List Int)->A)(x:zl):A:=.agg [f0 x.m_,f1 x.q_,f2 x.p_,f3 x.all_,f4 x.each_,f5 x.short_,f6 x.exact_]
instance (f0:z6->A)(f1:List (List Int)->A)(f2:List (List Int)->A)(f3:List (List Int)->A)(f4:List (List (List Int))->A)(f5:List (List Int)->A)(f6:List (List Int)->A)(g0:z6->A)(g1:List (List Int)->A)(g2:List (List Int)->A)(g3:List (List Int)->A)(g4:List (List (List Int))->A)(g5:List (List Int)->A)(g6:List (List Int)->A)[h0:Kz f0 g0][h1:Kz f1 g1][h2:Kz f2 g2][h3:Kz f3 g3][h4:Kz f4 g4][h5:Kz f5 g5][h6:Kz f6 g6]:Kz (YV f0 f1 f2 f3 f4 f5 f6) (YV g0 g1 g2 g3 g4 g5 g6):=⟨λx=>by simp[YV,A.loose,A.looses,h0.lo,h1.lo,h2.lo,h3.lo,h4.lo,h5.lo,h6.lo]⟩
instance (f0:z6->A)(f1:List (List Int)->A)(f2:List (List Int)->A)(f3:List (List Int)->A)(f4:List (List (List Int))->A)(f5:List (List Int)->A)(f6:List (List Int)->A)[h0:kZ f0][h1:kZ f1][h2:kZ f2][h3:kZ f3][h4:kZ f4][h5:kZ f5][h6:kZ f6]:kZ (YV f0 f1 f2 f3 f4 f5 f6):=⟨λx y h=>by simp only[YV,A.agg.injEq,List.cons.injEq,and_true]at h;cases x;cases y;simp only[zl.mk.injEq];exact⟨h0.inj _ _ h.1,h1.inj _ _ h.2.1,h2.inj _ _ h.2.2.1,h3.inj _ _ h.2.2.2.1,h4.inj _ _ h.2.2.2.2.1,h5.inj _ _ h.2.2.2.2.2.1,h6.inj _ _ h.2.2.2.2.2.2⟩⟩
structure z2V where
structure zb where
 nodes_:List (zq Int)
 leaves_:Int
 most_:Int
def yX (f0:List (zq Int)->A)(f1:Int->A)(f2:Int->A)(x:zb):A:=.agg [f0 x.nodes_,f1 x.leaves_,f2 x.most_]
instance (f0:List (zq Int)->A)(f1:Int->A)(f2:Int->A)(g0:List (zq Int)->A)(g1:Int->A)(g2:Int->A)[h0:Kz f0 g0][h1:Kz f1 g1][h2:Kz f2 g2]:Kz (yX f0 f1 f2) (yX g0 g1 g2):=⟨λx=>by simp[yX,A.loose,A.looses,h0.lo,h1.lo,h2.lo]⟩
instance (f0:List (zq Int)->A)(f1:Int->A)(f2:Int->A)(g0:List (zq Int)->A)(g1:Int->A)(g2:Int->A)[h0:z7V f0 g0][h1:z7V f1 g1][h2:z7V f2 g2]:z7V (yX f0 f1 f2) (yX g0 g1 g2):=⟨λx=>by simp[yX,A.live,A.lives,h0.live,h1.live,h2.live],λx=>by simp[yX,A.shut,A.shuts,h0.sh,h1.sh,h2.sh]⟩
instance (f0:List (zq Int)->A)(f1:Int->A)(f2:Int->A)[h0:kZ f0][h1:kZ f1][h2:kZ f2]:kZ (yX f0 f1 f2):=⟨λx y h=>by simp only[yX,A.agg.injEq,List.cons.injEq,and_true]at h;cases x;cases y;simp only[zb.mk.injEq];exact⟨h0.inj _ _ h.1,h1.inj _ _ h.2.1,h2.inj _ _ h.2.2⟩⟩
structure z1J where
structure z0z where
structure zi where
 at_:Int
 w_:List Int
def w8 (f0:Int->A)(f1:List Int->A)(x:zi):A:=.agg [f0 x.at_,f1 x.w_]
instance (f0:Int->A)(f1:List Int->A)[h0:z4U f0][h1:z4U f1]:z4U (w8 f0 f1):=⟨λx=>by simp[w8,A.isD,A.areD,h0.isD,h1.isD]⟩
instance (f0:Int->A)(f1:List Int->A)(g0:Int->A)(g1:List Int->A)(x:zi)[∀y,LeA (f0 y) (g0 y)][∀y,LeA (f1 y) (g1 y)][∀y,SzA (f0 y) (g0 y)][∀y,SzA (f1 y) (g1 y)]:LeA (w8 f0 f1 x) (w8 g0 g1 x):=by unfold w8;infer_instance
instance (f0:Int->A)(f1:List Int->A)(g0:Int->A)(g1:List Int->A)(x y:zi)[∀y z,SzA (f0 y) (g0 z)][∀y z,SzA (f1 y) (g1 z)]:SzA (w8 f0 f1 x) (w8 g0 g1 y):=by unfold w8;infer_instance
instance:zAz (K:=zM) (z1j (eI .i64) (Jy (z5w (eI .i64)))):=⟨λx y=>by obtain⟨_,⟨⟨_,_⟩,⟨_,_⟩,⟨_,_⟩,⟨_,_⟩,⟨_,_⟩,⟨_,_⟩,⟨_,_⟩,⟨_,_⟩,⟨_,_⟩,⟨_,_⟩,⟨_,_⟩,⟨_,_⟩,⟨_,_⟩,⟨_,_⟩,⟨_,_⟩,⟨_,_⟩⟩⟩:=x;obtain⟨_,⟨⟨_,_⟩,⟨_,_⟩,⟨_,_⟩,⟨_,_⟩,⟨_,_⟩,⟨_,_⟩,⟨_,_⟩,⟨_,_⟩,⟨_,_⟩,⟨_,_⟩,⟨_,_⟩,⟨_,_⟩,⟨_,_⟩,⟨_,_⟩,⟨_,_⟩,⟨_,_⟩⟩⟩:=y;simp only[Jy,z5w,z1j,eI,z6o,zbv,zbv.keyLs,y8,BEq.beq,gH,Option.some.injEq,Value.agg.injEq,gQ,p9,hU,Array.mk.injEq,List.cons.injEq,Value.int.injEq,true_and,and_true,pJ,decide_eq_true_eq,and_assoc]⟩
def XY (l_:List Int)(k_:Int):Option Int :=
 bif decide (k_<((l_.length:Nat):Int)) then(
  (idx l_ k_).bind λcd=>
  some (w64 (cd)))
 else(
  some 0)
def Qq (x_:zT)(kq:List (List z8)):Option z6 :=
 some (z6.mk (w64 (1+(w64 (Int.tmod x_.Inputs 3)))) (w64 (1+(w64 (Int.tmod x_.Outputs 3)))) kq)
def Qp (s_:Int)(kr:List (List z8)):Option (LR (List (List z8)×Int) (List (List z8))) :=
 some (.next (kr,w64 (s_+1)))
def WO (i_:Int)(ku:List (List z8)):Option (LR (List (List z8)×Int) (List (List z8))) :=
 some (.next (ku,w64 (i_+1)))
def YR (x_:zT)(s_:Int)(fz:List (List z8))(i_:Int):Option (LR (List (List z8)×Int) (List (List z8))) :=
 bif decide (i_<(w64 (1+(w64 (Int.tmod x_.Inputs 3))))) then(
  (idx fz s_).bind λnw=>
  (idx nw i_).bind λmv=>
  bif decide (mv.To<0) then(
   (idx fz s_).bind λjp=>
   (XY x_.Edges (w64 ((w64 (s_*(w64 (1+(w64 (Int.tmod x_.Inputs 3))))))+i_))).bind λr_=>
   gd (((w64 (1+(w64 (Int.tmod x_.States 6)))):Int)≠0) <|
   (idx jp i_).bind λjg=>
   WO i_ (fz.set s_.toNat (jp.set i_.toNat (z8.mk (Int.tmod r_ (w64 (1+(w64 (Int.tmod x_.States 6))))) jg.Out))))
  else(
   WO i_ fz))
 else(
  some (.done fz))
def YS (x_:zT)(i6:List (List z8))(s_:Int):Option (LR (List (List z8)×Int) (List (List z8))) :=
 bif decide (s_<(w64 (1+(w64 (Int.tmod x_.States 6))))) then(
  (loop (λs=>YR x_ s_ s.1 s.2) (i6,0)).bind λt6=>
  Qp s_ t6)
 else(
  some (.done i6))
def Qr (x_:zT)(j6:List (List z8)):Option z6 :=
 (loop (λs=>YS x_ s.1 s.2) (j6,0)).bind λt4=>
 Qq x_ t4
def Qo (bg:Int)(kw:List (List z8)):Option (LR (List (List z8)×Int) (List (List z8))) :=
 some (.next (kw,w64 (bg+1)))
def qX (x_:zT)(bl:List (List z8))(bg:Int)(k_:Int):Option (LR (List (List z8)×Int) (List (List z8))) :=
 gd (((w64 (1+(w64 (Int.tmod x_.Inputs 3)))):Int)≠0) <|
 (idx bl (w64 (Int.tdiv k_ (w64 (1+(w64 (Int.tmod x_.Inputs 3))))))).bind λjq=>
 gd (((w64 (1+(w64 (Int.tmod x_.Inputs 3)))):Int)≠0) <|
 (idx jq (Int.tmod k_ (w64 (1+(w64 (Int.tmod x_.Inputs 3)))))).bind λjh=>
 Qo bg (bl.set (w64 (Int.tdiv k_ (w64 (1+(w64 (Int.tmod x_.Inputs 3)))))).toNat (jq.set (Int.tmod k_ (w64 (1+(w64 (Int.tmod x_.Inputs 3))))).toNat (z8.mk bg jh.Out)))
def Uo (x_:zT)(bl:List (List z8))(bg:Int)(free:List Int):Option (LR (List (List z8)×Int) (List (List z8))) :=
 (idx free 0).bind λmb=>
 bif decide ((w64 (bg - 1))<((x_.Tree.length:Nat):Int)) then(
  (idx x_.Tree (w64 (bg - 1))).bind λod=>
  gd ((((free.length:Nat):Int):Int)≠0) <|
  (idx free (Int.tmod (w64 (od)) ((free.length:Nat):Int))).bind λmq=>
  qX x_ bl bg mq)
 else(
  qX x_ bl bg mb)
def Xg (cb:Int)(mc:List Int):Option (LR (List Int×Int) (List Int)) :=
 some (.next (mc,w64 (cb+1)))
def Zz (x_:zT)(bl:List (List z8))(bg:Int)(iu:List Int)(cb:Int):Option (LR (List Int×Int) (List Int)) :=
 bif decide (cb<(w64 (bg*(w64 (1+(w64 (Int.tmod x_.Inputs 3))))))) then(
  gd (((w64 (1+(w64 (Int.tmod x_.Inputs 3)))):Int)≠0) <|
  (idx bl (w64 (Int.tdiv cb (w64 (1+(w64 (Int.tmod x_.Inputs 3))))))).bind λnh=>
  gd (((w64 (1+(w64 (Int.tmod x_.Inputs 3)))):Int)≠0) <|
  (idx nh (Int.tmod cb (w64 (1+(w64 (Int.tmod x_.Inputs 3)))))).bind λmd=>
  bif decide (md.To<0) then(
   gd (iu.length+([cb]:List Int).length<=4294967296) <|
   Xg cb (iu++([cb]:List Int)))
  else(
   Xg cb iu))
 else(
  some (.done iu))
def YQ (x_:zT)(bl:List (List z8))(bg:Int):Option (LR (List (List z8)×Int) (List (List z8))) :=
 bif decide (bg<(w64 (1+(w64 (Int.tmod x_.States 6))))) then(
  (loop (λs=>Zz x_ bl bg s.1 s.2) (([]:List Int),0)).bind λt12=>
  Uo x_ bl bg t12)
 else(
  some (.done bl))
def Qt (x_:zT)(kx:List (List z8)):Option z6 :=
 (loop (λs=>YQ x_ s.1 s.2) (kx,1)).bind λt8=>
 Qr x_ t8
def Un (bw:Int)(j9:List (List z8)):Option (LR (List (List z8)×Int) (List (List z8))) :=
 some (.next (j9,w64 (bw+1)))
def Um (dm:List (List z8))(bw:Int)(row:List z8):Option (LR (List (List z8)×Int) (List (List z8))) :=
 gd (dm.length+([row]:List (List z8)).length<=4294967296) <|
 Un bw (dm++([row]:List (List z8)))
def Zx (x_:zT)(bw:Int)(fh:List z8)(fc:Int):Option (LR (List z8×Int) (List z8)) :=
 bif decide (fc<(w64 (1+(w64 (Int.tmod x_.Inputs 3))))) then(
  (XY x_.Edges (w64 ((w64 (bw*(w64 (1+(w64 (Int.tmod x_.Inputs 3))))))+fc))).bind λaj=>
  gd (((w64 (1+(w64 (Int.tmod x_.States 6)))):Int)≠0) <|
  gd (((w64 (1+(w64 (Int.tmod x_.Outputs 3)))):Int)≠0) <|
  gd (fh.length+([(z8.mk (-1) (Int.tmod (w64 (Int.tdiv aj (w64 (1+(w64 (Int.tmod x_.States 6)))))) (w64 (1+(w64 (Int.tmod x_.Outputs 3))))))]:List z8).length<=4294967296) <|
  some (.next ((fh++([(z8.mk (-1) (Int.tmod (w64 (Int.tdiv aj (w64 (1+(w64 (Int.tmod x_.States 6)))))) (w64 (1+(w64 (Int.tmod x_.Outputs 3))))))]:List z8)),w64 (fc+1))))
 else(
  some (.done fh))
def Zy (x_:zT)(dm:List (List z8))(bw:Int):Option (LR (List (List z8)×Int) (List (List z8))) :=
 bif decide (bw<(w64 (1+(w64 (Int.tmod x_.States 6))))) then(
  (loop (λs=>Zx x_ bw s.1 s.2) (([]:List z8),0)).bind λt17=>
  Um dm bw t17)
 else(
  some (.done dm))
def z0q (x_:zT):Option z6 :=
 gd ((6:Int)≠0) <|
 gd ((3:Int)≠0) <|
 gd ((3:Int)≠0) <|
 (loop (λs=>Zy x_ s.1 s.2) (([]:List (List z8)),0)).bind λpj=>
 Qt x_ pj
def KR:Option Int :=
 some 0
def Zt (i_:Int)(o8:Int)(o9:Bool)(lh:Bool)(pa:Bool)(pb:Bool)(ni:Bool):Option (LR Int (Unit⊕Int)) :=
 some (.next (w64 (i_+1)))
def Zs (m_:z6)(bc:List (List Bool))(s_:Int)(t_:Int)(i_:Int):Option (LR Int (Unit⊕Int)) :=
 bif decide (i_<m_.Inputs) then(
  (idx m_.Rows s_).bind λaq=>
  (idx aq i_).bind λal=>
  (idx m_.Rows t_).bind λll=>
  (idx ll i_).bind λcr=>
  bif al.Out != cr.Out then(
   some (.done (.inr 1)))
  else(
   bif decide (al.To>=0) then(
    bif decide (cr.To>=0) then(
     (idx bc al.To).bind λia=>
     (idx ia cr.To).bind λfj=>
     bif fj then(
      some (.done (.inr 1)))
     else(
      Zt i_ al.To (decide (al.To>=0)) (decide (al.To>=0)) (decide (cr.To>=0)) (decide (cr.To>=0)) fj))
    else(
     Zt i_ al.To (decide (al.To>=0)) (decide (al.To>=0)) (decide (cr.To>=0)) (decide (cr.To>=0)) false))
   else(
    Zt i_ al.To (decide (al.To>=0)) (decide (al.To>=0)) false false false)))
 else(
  some (.done (.inl ())))
def Ji (m_:z6)(bc:List (List Bool))(s_:Int)(t_:Int):Option Int :=
 (loop (λs=>Zs m_ bc s_ t_ s) 0).bind λt2=>
 match t2 with
 | .inl p=>KR
 | .inr p=>some p
def WB (ly:List (List Bool)):Option (List (List Bool)) :=
 some ly
def Wz (round:Int)(ky:List (List Bool)):Option (LR (List (List Bool)×Int) (List (List Bool))) :=
 some (.next (ky,w64 (round+1)))
def Wy (round:Int)(next:List (List Bool)):Option (LR (List (List Bool)×Int) (List (List Bool))) :=
 Wz round next
def Ww (s_:Int)(ew:List (List Bool)):Option (LR (List (List Bool)×Int) (List (List Bool))) :=
 some (.next (ew,w64 (s_+1)))
def uK (m_:z6)(cg:List (List Bool))(s_:Int)(ck:List (List Bool))(t_:Int):Option (LR (List (List Bool)×Int) (List (List Bool))) :=
 bif decide (t_<((m_.Rows.length:Nat):Int)) then(
  (idx ck s_).bind λib=>
  (idx cg s_).bind λia=>
  (idx ia t_).bind λfj=>
  bif fj then(
   (idx ib t_).bind λov=>
   some (.next ((ck.set s_.toNat (ib.set t_.toNat true)),w64 (t_+1))))
  else(
   (Ji m_ cg s_ t_).bind λr_=>
   (idx ib t_).bind λoe=>
   some (.next ((ck.set s_.toNat (ib.set t_.toNat (r_==1))),w64 (t_+1)))))
 else(
  some (.done ck))
def uL (m_:z6)(cg:List (List Bool))(cn:List (List Bool))(s_:Int):Option (LR (List (List Bool)×Int) (List (List Bool))) :=
 bif decide (s_<((m_.Rows.length:Nat):Int)) then(
  gd ((0:Int)<=((m_.Rows.length:Nat):Int)/\(((m_.Rows.length:Nat):Int):Int)<=4294967296) <|
  gd (cn.length+([(List.replicate ((m_.Rows.length:Nat):Int).toNat false)]:List (List Bool)).length<=4294967296) <|
  (loop (λs=>uK m_ cg s_ s.1 s.2) ((cn++([(List.replicate ((m_.Rows.length:Nat):Int).toNat false)]:List (List Bool))),0)).bind λt8=>
  Ww s_ t8)
 else(
  some (.done cn))
def uM (m_:z6)(k_:Int)(cg:List (List Bool))(round:Int):Option (LR (List (List Bool)×Int) (List (List Bool))) :=
 bif decide (round<k_) then(
  (loop (λs=>uL m_ cg s.1 s.2) (([]:List (List Bool)),0)).bind λt6=>
  Wy round t6)
 else(
  some (.done cg))
def WC (m_:z6)(k_:Int)(bc:List (List Bool)):Option (List (List Bool)) :=
 (loop (λs=>uM m_ k_ s.1 s.2) (bc,0)).bind λt3=>
 WB t3
def uJ (m_:z6)(il:List (List Bool))(bg:Int):Option (LR (List (List Bool)×Int) (List (List Bool))) :=
 bif decide (bg<((m_.Rows.length:Nat):Int)) then(
  gd ((0:Int)<=((m_.Rows.length:Nat):Int)/\(((m_.Rows.length:Nat):Int):Int)<=4294967296) <|
  gd (il.length+([(List.replicate ((m_.Rows.length:Nat):Int).toNat false)]:List (List Bool)).length<=4294967296) <|
  some (.next ((il++([(List.replicate ((m_.Rows.length:Nat):Int).toNat false)]:List (List Bool))),w64 (bg+1))))
 else(
  some (.done il))
def UD (m_:z6)(k_:Int):Option (List (List Bool)) :=
 (loop (λs=>uJ m_ s.1 s.2) (([]:List (List Bool)),0)).bind λt9=>
 WC m_ k_ t9
def Wv (out:List Int):Option (List Int) :=
 some out
def ZP (s_:Int)(ap:List Int)(dp:Int):Option (LR (List Int×Int×Int) (List Int)) :=
 some (.next (ap,dp,w64 (s_+1)))
def vO (ai:List Int)(s_:Int)(cj:Int)(ji:Int):Option (LR (List Int×Int×Int) (List Int)) :=
 gd (ai.length+([ji]:List Int).length<=4294967296) <|
 ZP s_ (ai++([ji]:List Int)) cj
def ZO (ai:List Int)(n_:Int)(s_:Int)(b_:Int):Option (LR (List Int×Int×Int) (List Int)) :=
 bif decide (b_<0) then(
  vO ai s_ (w64 (n_+1)) n_)
 else(
  vO ai s_ n_ b_)
def qI (t_:Int)(og:Int):Option (LR (Int×Int) Int) :=
 some (.next (og,w64 (t_+1)))
def qH (bc:List (List Bool))(ai:List Int)(s_:Int)(mw:Int)(t_:Int):Option (LR (Int×Int) Int) :=
 bif decide (t_<s_) then(
  (idx bc s_).bind λia=>
  (idx ia t_).bind λfj=>
  bif !fj then(
   (idx ai t_).bind λco=>
   qI t_ co)
  else(
   qI t_ mw))
 else(
  some (.done mw))
def ZN (bc:List (List Bool))(ai:List Int)(n_:Int)(s_:Int):Option (LR (List Int×Int×Int) (List Int)) :=
 bif decide (s_<((bc.length:Nat):Int)) then(
  (loop (λs=>qH bc ai s_ s.1 s.2) ((-1),0)).bind λt6=>
  ZO ai n_ s_ t6)
 else(
  some (.done ai))
def Yl (bc:List (List Bool)):Option (List Int) :=
 (loop (λs=>ZN bc s.1 s.2.1 s.2.2) (([]:List Int),0,0)).bind λt2=>
 Wv t2
def Ks (m_:z6)(k_:Int):Option (List Int) :=
 (UD m_ k_).bind λr_=>
 (Yl r_).bind λaj=>
 some aj
def YJ (m_:z6):Option (List Int) :=
 (Ks m_ ((m_.Rows.length:Nat):Int)).bind λr_=>
 some r_
def QF (m_:z6)(s_:Int)(i_:Int):Option z8 :=
 bif decide (s_<0) then(
  some (z8.mk (-1) (-1)))
 else(
  (idx m_.Rows s_).bind λaq=>
  (idx aq i_).bind λal=>
  some al)
def YK (lk:z6->Int->(List Int)->Option Int)(m_:z6)(s_:Int)(w_:List Int):Option Int :=
 bif ((w_.length:Nat):Int)==0 then(
  some s_)
 else(
  (idx w_ 0).bind λgu=>
  (QF m_ s_ gu).bind λr_=>
  gd ((0:Int)<=1/\(1:Int)<=((w_.length:Nat):Int)/\(((w_.length:Nat):Int):Int)<=((w_.length:Nat):Int)) <|
  (lk m_ r_.To (w_.drop (1:Int).toNat)).bind λaj=>
  some aj)
def WH (fu:Nat):z6->Int->(List Int)->Option Int:=Nat.rec (motive:=λ_=>z6->Int->(List Int)->Option Int) (λ_ _ _=>none) (λ_ ih=>YK ih) fu
def Jl (m_:z6)(s_:Int)(w_:List Int):Option Int:=WH (w_.length+1) m_ s_ w_
def WE (out:List Int):Option (List Int) :=
 gd (out.length+([0]:List Int).length<=4294967296) <|
 some (out++([0]:List Int))
def WD (inputs:Int)(ai:List Int)(k_:Int):Option (LR (List Int×Int) (List Int⊕List Int)) :=
 bif decide (k_>=0) then(
  (idx ai k_).bind λco=>
  bif decide ((w64 (co+1))<inputs) then(
   (idx ai k_).bind λic=>
   (idx ai k_).bind λnj=>
   some (.done (.inr (ai.set k_.toNat (w64 (ic+1))))))
  else(
   (idx ai k_).bind λnk=>
   some (.next ((ai.set k_.toNat 0),w64 (k_ - 1)))))
 else(
  some (.done (.inl ai)))
def Vz (w_:List Int)(inputs:Int):Option (List Int) :=
 gd (([]:List Int).length+w_.length<=4294967296) <|
 (loop (λs=>WD inputs s.1 s.2) (w_,w64 (((w_.length:Nat):Int) - 1))).bind λt2=>
 match t2 with
 | .inl p=>WE p
 | .inr p=>some p
def Uj (l_:List (List Int))(is:List Bool):Option (List (List Int)×List Bool) :=
 some (l_,is)
def qW (m_:z6)(w_:List Int)(j4:List (List Int))(oh:List Bool):Option (LR (List (List Int)×List Bool×List Int) ((List (List Int)×List Bool))) :=
 (Vz w_ m_.Inputs).bind λr_=>
 some (.next (j4,oh,r_))
def Ui (m_:z6)(from_:Int)(ez:List (List Int))(fy:List Bool)(w_:List Int):Option (LR (List (List Int)×List Bool×List Int) ((List (List Int)×List Bool))) :=
 bif decide (((w_.length:Nat):Int)<((m_.Rows.length:Nat):Int)) then(
  (Jl m_ from_ w_).bind λaj=>
  bif decide (aj>=0) then(
   (idx fy aj).bind λn7=>
   bif !n7 then(
    (idx fy aj).bind λph=>
    (idx ez aj).bind λcd=>
    qW m_ w_ (ez.set aj.toNat w_) (fy.set aj.toNat true))
   else(
    qW m_ w_ ez fy))
  else(
   qW m_ w_ ez fy))
 else(
  some (.done (ez,fy)))
def Jj (m_:z6)(from_:Int):Option (List (List Int)×List Bool) :=
 gd ((0:Int)<=((m_.Rows.length:Nat):Int)/\(((m_.Rows.length:Nat):Int):Int)<=4294967296) <|
 gd ((0:Int)<=((m_.Rows.length:Nat):Int)/\(((m_.Rows.length:Nat):Int):Int)<=4294967296) <|
 (loop (λs=>Ui m_ from_ s.1 s.2.1 s.2.2) ((List.replicate ((m_.Rows.length:Nat):Int).toNat ([]:List Int)),(List.replicate ((m_.Rows.length:Nat):Int).toNat false),([]:List Int))).bind λt2=>
 Uj t2.1 t2.2
def XV (m_:z6):Option (List (List Int)×List Bool) :=
 (Jj m_ 0).bind λr_=>
 some (r_.1,r_.2)
def z18:Option Int :=
 some 0
def WF (a_:List Int)(b_:List Int)(i_:Int):Option (LR Int (Unit⊕Int)) :=
 bif decide (i_<((a_.length:Nat):Int)) then(
  (idx a_ i_).bind λcq=>
  (idx b_ i_).bind λct=>
  bif cq != ct then(
   (idx a_ i_).bind λgh=>
   (idx b_ i_).bind λkh=>
   bif decide (gh<kh) then(
    some (.done (.inr 1)))
   else(
    some (.done (.inr 0))))
  else(
   some (.next (w64 (i_+1)))))
 else(
  some (.done (.inl ())))
def z0i (a_:List Int)(b_:List Int):Option Int :=
 bif ((a_.length:Nat):Int) !=((b_.length:Nat):Int) then(
  bif decide (((a_.length:Nat):Int)<((b_.length:Nat):Int)) then(
   some 1)
  else(
   some 0))
 else(
  (loop (λs=>WF a_ b_ s) 0).bind λt2=>
  match t2 with
  | .inl p=>z18
  | .inr p=>some p)
def KS (out:List Int):Option (List Int) :=
 some out
def Zu (s_:Int)(ap:List Int):Option (LR (List Int×Int) (List Int)) :=
 some (.next (ap,w64 (s_+1)))
def Uk (ai:List Int)(s_:Int)(k_:Int):Option (LR (List Int×Int) (List Int)) :=
 gd ((0:Int)<=0/\(0:Int)<=k_/\(k_:Int)<=((ai.length:Nat):Int)) <|
 gd (([]:List Int).length+((ai.drop 0).take (k_.toNat - 0)).length<=4294967296) <|
 gd (((ai.drop 0).take (k_.toNat - 0)).length+([s_]:List Int).length<=4294967296) <|
 gd ((0:Int)<=k_/\(k_:Int)<=((ai.length:Nat):Int)/\(((ai.length:Nat):Int):Int)<=((ai.length:Nat):Int)) <|
 gd ((((ai.drop 0).take (k_.toNat - 0))++([s_]:List Int)).length+(ai.drop k_.toNat).length<=4294967296) <|
 Zu s_ ((((ai.drop 0).take (k_.toNat - 0))++([s_]:List Int))++(ai.drop k_.toNat))
def Xc (r_:List (List Int)×List Bool)(ai:List Int)(s_:Int)(cb:Int):Option (LR Int Int) :=
 bif decide (cb<((ai.length:Nat):Int)) then(
  (idx ai cb).bind λco=>
  (idx r_.1 co).bind λow=>
  (idx r_.1 s_).bind λox=>
  (z0i ow ox).bind λaj=>
  bif aj==1 then(
   some (.next (w64 (cb+1))))
  else(
   some (.done cb)))
 else(
  some (.done cb))
def Xd (r_:List (List Int)×List Bool)(ai:List Int)(s_:Int):Option (LR (List Int×Int) (List Int)) :=
 bif decide (s_<((r_.1.length:Nat):Int)) then(
  (idx r_.2 s_).bind λu_=>
  bif !u_ then(
   Zu s_ ai)
  else(
   (loop (λs=>Xc r_ ai s_ s) 0).bind λt5=>
   Uk ai s_ t5))
 else(
  some (.done ai))
def Jk (m_:z6):Option (List Int) :=
 (XV m_).bind λr_=>
 (loop (λs=>Xd r_ s.1 s.2) (([]:List Int),0)).bind λt2=>
 KS t2
def Wu (out:List Int):Option (List Int) :=
 some out
def jQ (k_:Int)(ap:List Int):Option (LR (List Int×Int) (List Int)) :=
 some (.next (ap,w64 (k_+1)))
def Wt (aj:List Int)(ai:List Int)(k_:Int)(there:Int):Option (LR (List Int×Int) (List Int)) :=
 bif there==0 then(
  (idx aj k_).bind λdw=>
  gd (ai.length+([dw]:List Int).length<=4294967296) <|
  jQ k_ (ai++([dw]:List Int)))
 else(
  jQ k_ ai)
def Yj (n_:Int)(lm:Int):Option (LR (Int×Int) Int) :=
 some (.next (lm,w64 (n_+1)))
def Yi (r_:List Int)(aj:List Int)(k_:Int)(da:Int)(n_:Int):Option (LR (Int×Int) Int) :=
 bif decide (n_<k_) then(
  (idx aj n_).bind λj5=>
  (idx r_ j5).bind λme=>
  (idx aj k_).bind λmf=>
  (idx r_ mf).bind λoy=>
  bif me==oy then(
   Yj n_ 1)
  else(
   Yj n_ da))
 else(
  some (.done da))
def Ws (r_:List Int)(aj:List Int)(ai:List Int)(k_:Int):Option (LR (List Int×Int) (List Int)) :=
 bif decide (k_<((aj.length:Nat):Int)) then(
  (loop (λs=>Yi r_ aj k_ s.1 s.2) (0,0)).bind λt5=>
  Wt aj ai k_ t5)
 else(
  some (.done ai))
def Yk (m_:z6):Option (List Int) :=
 (YJ m_).bind λr_=>
 (Jk m_).bind λaj=>
 (loop (λs=>Ws r_ aj s.1 s.2) (([]:List Int),0)).bind λt2=>
 Wu t2
def Xu (out:List Bool):Option (List Bool) :=
 some out
def Xt (round:Int)(ap:List Bool):Option (LR (List Bool×Int) (List Bool)) :=
 some (.next (ap,w64 (round+1)))
def Xs (s_:Int)(fq:List Bool):Option (LR (List Bool×Int) (List Bool)) :=
 some (.next (fq,w64 (s_+1)))
def qj (i_:Int)(nl:List Bool):Option (LR (List Bool×Int) (List Bool)) :=
 some (.next (nl,w64 (i_+1)))
def Zg (m_:z6)(s_:Int)(ix:List Bool)(i_:Int):Option (LR (List Bool×Int) (List Bool)) :=
 bif decide (i_<m_.Inputs) then(
  (idx m_.Rows s_).bind λaq=>
  (idx aq i_).bind λal=>
  (idx ix s_).bind λco=>
  bif co then(
   bif decide (al.To>=0) then(
    (idx ix al.To).bind λic=>
    qj i_ (ix.set al.To.toNat true))
   else(
    qj i_ ix))
  else(
   qj i_ ix))
 else(
  some (.done ix))
def Zh (m_:z6)(bf:List Bool)(s_:Int):Option (LR (List Bool×Int) (List Bool)) :=
 bif decide (s_<((m_.Rows.length:Nat):Int)) then(
  (loop (λs=>Zg m_ s_ s.1 s.2) (bf,0)).bind λt6=>
  Xs s_ t6)
 else(
  some (.done bf))
def Xr (m_:z6)(ai:List Bool)(round:Int):Option (LR (List Bool×Int) (List Bool)) :=
 bif decide (round<((m_.Rows.length:Nat):Int)) then(
  (loop (λs=>Zh m_ s.1 s.2) (ai,0)).bind λt4=>
  Xt round t4)
 else(
  some (.done ai))
def WG (m_:z6)(from_:Int):Option (List Bool) :=
 gd ((0:Int)<=((m_.Rows.length:Nat):Int)/\(((m_.Rows.length:Nat):Int):Int)<=4294967296) <|
 (idx (List.replicate ((m_.Rows.length:Nat):Int).toNat false) from_).bind λmy=>
 (loop (λs=>Xr m_ s.1 s.2) (((List.replicate ((m_.Rows.length:Nat):Int).toNat false).set from_.toNat true),0)).bind λt2=>
 Xu t2
def Kr (out:List Int):Option (List Int) :=
 some out
def Kq (s_:Int)(ap:List Int):Option (LR (List Int×Int) (List Int)) :=
 some (.next (ap,w64 (s_+1)))
def Kp (ai:List Int)(s_:Int)(k_:Int):Option (LR (List Int×Int) (List Int)) :=
 gd (ai.length+([k_]:List Int).length<=4294967296) <|
 Kq s_ (ai++([k_]:List Int))
def XU (n_:Int)(i7:Int):Option (LR (Int×Int) Int) :=
 some (.next (i7,w64 (n_+1)))
def UB (r_:List Int)(aj:List Int)(ak:List Bool)(s_:Int)(cb:Int)(n_:Int):Option (LR (Int×Int) Int) :=
 bif decide (n_<((aj.length:Nat):Int)) then(
  (idx ak s_).bind λdw=>
  bif dw then(
   (idx aj n_).bind λj5=>
   (idx r_ j5).bind λme=>
   (idx r_ s_).bind λmf=>
   bif me==mf then(
    XU n_ n_)
   else(
    XU n_ cb))
  else(
   XU n_ cb))
 else(
  some (.done cb))
def Ko (r_:List Int)(aj:List Int)(ak:List Bool)(ai:List Int)(s_:Int):Option (LR (List Int×Int) (List Int)) :=
 bif decide (s_<((r_.length:Nat):Int)) then(
  (loop (λs=>UB r_ aj ak s_ s.1 s.2) ((-1),0)).bind λt5=>
  Kp ai s_ t5)
 else(
  some (.done ai))
def z2A (m_:z6):Option (List Int) :=
 (YJ m_).bind λr_=>
 (Yk m_).bind λaj=>
 (WG m_ 0).bind λak=>
 (loop (λs=>Ko r_ aj ak s.1 s.2) (([]:List Int),0)).bind λt2=>
 Kr t2
def Xq (m_:z6)(ka:List (List z8)):Option z6 :=
 some (z6.mk m_.Inputs m_.Outputs ka)
def Xp (k_:Int)(jt:List (List z8)):Option (LR (List (List z8)×Int) (List (List z8))) :=
 some (.next (jt,w64 (k_+1)))
def Xo (bz:List (List z8))(k_:Int)(row:List z8):Option (LR (List (List z8)×Int) (List (List z8))) :=
 gd (bz.length+([row]:List (List z8)).length<=4294967296) <|
 Xp k_ (bz++([row]:List (List z8)))
def qh (fh:List z8)(i_:Int)(al:z8)(iy:Int):Option (LR (List z8×Int) (List z8)) :=
 gd (fh.length+([(z8.mk iy al.Out)]:List z8).length<=4294967296) <|
 some (.next ((fh++([(z8.mk iy al.Out)]:List z8)),w64 (i_+1)))
def Ze (m_:z6)(r_:List Int)(aj:List Int)(k_:Int)(fh:List z8)(i_:Int):Option (LR (List z8×Int) (List z8)) :=
 bif decide (i_<m_.Inputs) then(
  (idx r_ k_).bind λdw=>
  (idx m_.Rows dw).bind λaq=>
  (idx aq i_).bind λal=>
  bif decide (al.To>=0) then(
   (idx aj al.To).bind λj5=>
   qh fh i_ al j5)
  else(
   qh fh i_ al al.To))
 else(
  some (.done fh))
def Zf (m_:z6)(r_:List Int)(aj:List Int)(bz:List (List z8))(k_:Int):Option (LR (List (List z8)×Int) (List (List z8))) :=
 bif decide (k_<((r_.length:Nat):Int)) then(
  (loop (λs=>Ze m_ r_ aj k_ s.1 s.2) (([]:List z8),0)).bind λt5=>
  Xo bz k_ t5)
 else(
  some (.done bz))
def Wr (m_:z6):Option z6 :=
 (Yk m_).bind λr_=>
 (z2A m_).bind λaj=>
 (loop (λs=>Zf m_ r_ aj s.1 s.2) (([]:List (List z8)),0)).bind λt2=>
 Xq m_ t2
def z0p (x_:qM):Option z6 :=
 gd ((5:Int)≠0) <|
 (z0q (zT.mk (Int.tmod x_.C.States 5) x_.C.Inputs x_.C.Outputs x_.C.Tree x_.C.Edges)).bind λr_=>
 (Wr r_).bind λaj=>
 some aj
def qK:Option z8 :=
 some (z8.mk (-1) (-1))
def WN (m_:z6)(x_:z8):Option Bool :=
 (qK).bind λr_=>
 bif (x_.To==r_.To)&&((x_.Out==r_.Out)&&true) then(
  some true)
 else(
  bif decide (x_.To>=0) then(
   bif decide (x_.To<((m_.Rows.length:Nat):Int)) then(
    bif decide (x_.Out>=0) then(
     some (decide (x_.Out<m_.Outputs)))
    else(
     some false))
   else(
    some false))
  else(
   some false))
def Xx (x_:z8)(x1:z6):Option Bool :=
 (WN x1 x_).bind λr_=>
 some (!r_)
def xS:Option Int :=
 some (-1)
def y7 (s_:List z8)(f_:z6)(x8:Int):Option (LR Int (Unit⊕Int)) :=
 bif decide (x8<((s_.length:Nat):Int)) then(
  (idx s_ x8).bind λdx=>
  (Xx dx f_).bind λr_=>
  bif r_ then(
   some (.done (.inr x8)))
  else(
   some (.next (w64 (x8+1)))))
 else(
  some (.done (.inl ())))
def xj (s_:List z8)(f_:z6):Option Int :=
 (loop (λs=>y7 s_ f_ s) 0).bind λt2=>
 match t2 with
 | .inl p=>xS
 | .inr p=>some p
def yi (s_:List z8)(f_:z6):Option Bool :=
 (xj s_ f_).bind λr_=>
 some (decide (r_>=0))
def VA:Option Int :=
 some 0
def uw (m_:z6)(i8:Int):Option (LR Int (Unit⊕Int)) :=
 bif decide (i8<((m_.Rows.length:Nat):Int)) then(
  (idx m_.Rows i8).bind λaq=>
  bif ((aq.length:Nat):Int) != m_.Inputs then(
   some (.done (.inr 1)))
  else(
   (yi aq m_).bind λr_=>
   bif r_ then(
    some (.done (.inr 1)))
   else(
    some (.next (w64 (i8+1))))))
 else(
  some (.done (.inl ())))
def xZ (m_:z6):Option Int :=
 bif decide (m_.Inputs > 16) then(
  some 3)
 else(
  bif decide (m_.Outputs > 16) then(
   some 3)
  else(
   bif decide (((m_.Rows.length:Nat):Int) > 64) then(
    some 3)
   else(
    bif decide (m_.Inputs<1) then(
     some 1)
    else(
     bif decide (m_.Outputs<1) then(
      some 1)
     else(
      bif decide (((m_.Rows.length:Nat):Int)<1) then(
       some 1)
      else(
       (loop (λs=>uw m_ s) 0).bind λt2=>
       match t2 with
       | .inl p=>VA
       | .inr p=>some p))))))
def WI (m_:z6):Option ((Int×z6)×(Int×z6)×(Int×z6)) :=
 some ((9,m_),(11,m_),(12,m_))
def Ul (m_:z6):Option z6 :=
 some m_
variable {σ:Type}
def kR (eu:Int)(ju:σ):Option (LR (σ×Int) σ) :=
 some (.next (ju,w64 (eu+1)))
def wZ (yy:σ->(vE Int×z8)->Option (σ×Bool))(eu:Int)(aq:List z8)(gc:σ)(ay:Int):Option (LR (σ×Int) (σ⊕σ)) :=
 bif decide (ay<((aq.length:Nat):Int)) then(
  (idx aq ay).bind λal=>
  (yy gc ((vE.mk eu ay),al)).bind λyr=>
  bif !yr.2 then(
   some (.done (.inr yr.1)))
  else(
   some (.next (yr.1,w64 (ay+1)))))
 else(
  some (.done (.inl gc)))
def uO (x0:z6)(yy:σ->(vE Int×z8)->Option (σ×Bool))(dr:σ)(eu:Int):Option (LR (σ×Int) σ) :=
 bif decide (eu<((x0.Rows.length:Nat):Int)) then(
  (idx x0.Rows eu).bind λaq=>
  (loop (λs=>wZ yy eu aq s.1 s.2) (dr,0)).bind λt3=>
  match t3 with
  | .inl p=>kR eu p
  | .inr p=>some (.done p))
 else(
  some (.done dr))
def Zi (x0:z6){σ:Type}(yy:σ->(vE Int×z8)->Option (σ×Bool))(sg:σ):Option σ :=
 (loop (λs=>uO x0 yy s.1 s.2) (sg,0)).bind λt1=>
 some t1
def uh (s_:List (vE Int)):Option (List (vE Int)) :=
 gd ((0:Int)<=0/\(0:Int)<=((s_.length:Nat):Int)/\(((s_.length:Nat):Int):Int)<=((s_.length:Nat):Int)/\(((s_.length:Nat):Int):Int)<=((s_.length:Nat):Int)) <|
 some ((s_.drop 0).take (((s_.length:Nat):Int).toNat - 0))
def qJ (out:List (vE Int)):Option (List (vE Int)) :=
 (uh out).bind λr_=>
 some r_
def yW (ai:List (vE Int))(x8:vE Int)(x9:z8):Option (LR (List (vE Int)) Empty) :=
 (qK).bind λak=>
 bif (x9.To==ak.To)&&((x9.Out==ak.Out)&&true) then(
  gd (ai.length+([x8]:List (vE Int)).length<=4294967296) <|
  some (.next (ai++([x8]:List (vE Int)))))
 else(
  some (.next ai))
def ZR (m_:z6):Option (List (vE Int)) :=
 (Ul m_).bind λaj=>
 (Zi aj (yOf (λs x=>yW s x.1 x.2)) (.next ([]:List (vE Int)))).bind λt2=>
 match t2 with
 | .next ai=>(
  qJ ai)
 | .done z=>nomatch z
def jR (m_:z6):Option (Bool×Int) :=
 (xZ m_).bind λr_=>
 bif r_ != 0 then(
  some (false,r_))
 else(
  (ZR m_).bind λaj=>
  some (((aj.length:Nat):Int)==0,0))
def YN (x0:z6):Option Bool :=
 (jR x0).bind λr_=>
 some r_.1
def xL (lk:Int->(List Bool)->z6->Option (List Bool×z6))(aq:List z8)(x1:List Bool)(ie:Int)(gn:Int)(jr:List (List z8))(eg:Int):Option (LR (List Bool×Int×Int×List (List z8)×Int) ((List Bool×z6))) :=
 bif decide (eg<((aq.length:Nat):Int)) then(
  (idx aq eg).bind λal=>
  (lk al.To x1 (z6.mk ie gn jr)).bind λr_=>
  some (.next (r_.1,r_.2.Inputs,r_.2.Outputs,r_.2.Rows,w64 (eg+1))))
 else(
  some (.done (x1,(z6.mk ie gn jr))))
def wT (lk:Int->(List Bool)->z6->Option (List Bool×z6))(s_:Int)(y0:List Bool)(y1:z6):Option (List Bool×z6) :=
 bif s_==(-1) then(
  some (y0,y1))
 else(
  (idx y0 s_).bind λpk=>
  bif pk then(
   some (y0,y1))
  else(
   (idx y0 s_).bind λpn=>
   (idx y1.Rows s_).bind λaq=>
   (loop (λs=>xL lk aq s.1 s.2.1 s.2.2.1 s.2.2.2.1 s.2.2.2.2) ((y0.set s_.toNat true),y1.Inputs,y1.Outputs,y1.Rows,0)).bind λt1=>
   some t1))
def yM (fu:Nat):Int->(List Bool)->z6->Option (List Bool×z6):=Nat.rec (motive:=λ_=>Int->(List Bool)->z6->Option (List Bool×z6)) (λ_ _ _=>none) (λ_ ih=>wT ih) fu
def qU:Option Int :=
 some (-1)
def xk (s_:List Bool)(v_:Bool)(x8:Int):Option (LR Int (Unit⊕Int)) :=
 bif decide (x8<((s_.length:Nat):Int)) then(
  (idx s_ x8).bind λdx=>
  bif v_==dx then(
   some (.done (.inr x8)))
  else(
   some (.next (w64 (x8+1)))))
 else(
  some (.done (.inl ())))
def uZ (s_:List Bool)(v_:Bool):Option Int :=
 (loop (λs=>xk s_ v_ s) 0).bind λt2=>
 match t2 with
 | .inl p=>qU
 | .inr p=>some p
def xX (s_:List Bool)(v_:Bool):Option Bool :=
 (uZ s_ v_).bind λr_=>
 some (decide (r_>=0))
def vP (m_:z6):Option (Bool×Int) :=
 (xZ m_).bind λr_=>
 bif r_ != 0 then(
  some (false,r_))
 else(
  gd ((0:Int)<=((m_.Rows.length:Nat):Int)/\(((m_.Rows.length:Nat):Int):Int)<=4294967296) <|
  (yM z1O 0 (List.replicate ((m_.Rows.length:Nat):Int).toNat false) m_).bind λaj=>
  (xX aj.1 false).bind λak=>
  some (!ak,0))
def YM (x0:z6):Option Bool :=
 (vP x0).bind λr_=>
 some r_.1
def U0 (m_:z6):Option z6 :=
 some m_
def Wn (out:zq (vE Int)):Option (zq (vE Int)) :=
 some out
def Yc (d8:Int)(ap:zq (vE Int)):Option (LR (zq (vE Int)×Int) (zq (vE Int))) :=
 some (.next (ap,w64 (d8+1)))
def Yb (p_:List Int)(aq:List z8)(ai:zq (vE Int))(d8:Int):Option (LR (zq (vE Int)×Int) (zq (vE Int))) :=
 bif decide (d8<((aq.length:Nat):Int)) then(
  (idx aq d8).bind λal=>
  (idx (zq.toL ai) d8).bind λcell=>
  (some (zq.setI ai d8 (vE.mk al.Out (-1)))).bind λarr=>
  bif al.To !=(-1) then(
   (idx p_ al.To).bind λa8=>
   (idx (zq.toL arr) d8).bind λbo=>
   (some (zq.setI arr d8 (vE.mk bo.e0 a8))).bind λarr1=>
   Yc d8 arr1)
  else(
   Yc d8 arr))
 else(
  some (.done ai))
def Yd (m_:z6)(p_:List Int)(s_:Int):Option (zq (vE Int)) :=
 (idx m_.Rows s_).bind λaq=>
 (loop (λs=>Yb p_ aq s.1 s.2) ((zq.mk (vE.mk 0 0) (vE.mk 0 0) (vE.mk 0 0) (vE.mk 0 0) (vE.mk 0 0) (vE.mk 0 0) (vE.mk 0 0) (vE.mk 0 0) (vE.mk 0 0) (vE.mk 0 0) (vE.mk 0 0) (vE.mk 0 0) (vE.mk 0 0) (vE.mk 0 0) (vE.mk 0 0) (vE.mk 0 0)),0)).bind λt2=>
 Wn t2
def ZL (out:List Int):Option (List Int) :=
 some out
def vM (ai:List Int)(gw:Int)(a8:Int)(r_:zq (vE Int))(gp:List (zM×Int)):Option (LR ((List (zM×Int))×List Int×Int) (List Int)) :=
 (some ((z0J gp (zM.mk a8 r_)).getD 0)).bind λval=>
 (idx ai gw).bind λco=>
 some (.next (gp,(ai.set gw.toNat val),w64 (gw+1)))
def qD (m_:z6)(p_:List Int)(names:List (zM×Int))(ai:List Int)(gw:Int):Option (LR ((List (zM×Int))×List Int×Int) (List Int)) :=
 bif decide (gw<((p_.length:Nat):Int)) then(
  (idx p_ gw).bind λa8=>
  (Yd m_ p_ gw).bind λr_=>
  (some ((z0J names (zM.mk a8 r_)).getD 0)).bind λpc=>
  bif !((z0J names (zM.mk a8 r_)).isSome) then(
   vM ai gw a8 r_ (z9S names (zM.mk a8 r_) ((names.length:Nat):Int)))
  else(
   vM ai gw a8 r_ names))
 else(
  some (.done ai))
def Ye (m_:z6)(p_:List Int):Option (List Int) :=
 gd ((0:Int)<=((p_.length:Nat):Int)/\(((p_.length:Nat):Int):Int)<=4294967296) <|
 (loop (λs=>qD m_ p_ s.1 s.2.1 s.2.2) (([]:List (zM×Int)),(List.replicate ((p_.length:Nat):Int).toNat (0:Int)),0)).bind λt2=>
 ZL t2
def ug:Option Bool :=
 some true
def xI (s1:List Int)(s2:List Int)(ff:Int):Option (LR Int (Unit⊕Bool)) :=
 bif decide (ff<((s1.length:Nat):Int)) then(
  (idx s1 ff).bind λnn=>
  (idx s2 ff).bind λma=>
  bif nn != ma then(
   some (.done (.inr false)))
  else(
   some (.next (w64 (ff+1)))))
 else(
  some (.done (.inl ())))
def u6 (s1:List Int)(s2:List Int):Option Bool :=
 bif ((s1.length:Nat):Int) !=((s2.length:Nat):Int) then(
  some false)
 else(
  (loop (λs=>xI s1 s2 s) 0).bind λt2=>
  match t2 with
  | .inl p=>ug
  | .inr p=>some p)
def uI (x0:z6)(yy:σ->(List Int)->Option (σ×Bool))(dr:σ)(p_:List Int):Option (LR (σ×List Int) σ) :=
 (yy dr p_).bind λyr=>
 bif yr.2 then(
  (Ye x0 p_).bind λr_=>
  (u6 p_ r_).bind λaj=>
  bif aj then(
   some (.done yr.1))
  else(
   some (.next (yr.1,r_))))
 else(
  some (.done yr.1))
def Zc (x0:z6){σ:Type}(yy:σ->(List Int)->Option (σ×Bool))(sg:σ):Option σ :=
 gd ((0:Int)<=((x0.Rows.length:Nat):Int)/\(((x0.Rows.length:Nat):Int):Int)<=4294967296) <|
 (loop (λs=>uI x0 yy s.1 s.2) (sg,(List.replicate ((x0.Rows.length:Nat):Int).toNat (0:Int)))).bind λt1=>
 some t1
def ZM (p_:List Int)(n_:Int):Option (List Int×Int×Int) :=
 some (p_,n_,0)
def vN (l7:List Int)(dp:Int)(mr:List Int):Option (LR (List Int×Int) Empty) :=
 some (.next (mr,w64 (dp+1)))
def Yf (m_:z6):Option (List Int×Int×Int) :=
 (xZ m_).bind λr_=>
 bif r_ != 0 then(
  some (([]:List Int),0,r_))
 else(
  (U0 m_).bind λaj=>
  (Zc aj (yOf (λs x=>vN s.1 s.2 x)) (.next (([]:List Int),(-1)))).bind λt2=>
  match t2 with
  | .next (l7,dp)=>(
   ZM l7 dp)
  | .done z=>nomatch z)
def qB (m_:Int):Option Int :=
 some m_
def vq (x_:List Int)(nq:Int)(i_:Int):Option (LR (Int×Int) Int) :=
 bif decide (i_<((x_.length:Nat):Int)) then(
  (idx x_ i_).bind λki=>
  some (.next ((mx nq ki),w64 (i_+1))))
 else(
  some (.done nq))
def qC (x_:List Int):Option Int :=
 bif decide (((x_.length:Nat):Int)<1) then(
  none)
 else(
  (idx x_ 0).bind λlb=>
  (loop (λs=>vq x_ s.1 s.2) (lb,1)).bind λt2=>
  qB t2)
def YL (x0:z6):Option Bool :=
 (Yf x0).bind λr_=>
 (qC r_.1).bind λaj=>
 some (aj==(w64 (((r_.1.length:Nat):Int) - 1)))
def kP:Option Int :=
 some 0
def wM (m_:z6):Option Int :=
 (xZ m_).bind λr_=>
 bif r_ != 0 then(
  some r_)
 else(
  (WI m_).bind λaj=>
  (YN aj.1.2).bind λak=>
  bif !ak then(
   some aj.1.1)
  else(
   (YM aj.2.1.2).bind λau=>
   bif !au then(
    some aj.2.1.1)
   else(
    (YL aj.2.2.2).bind λca=>
    bif !ca then(
     some aj.2.2.1)
    else(
     kP))))
def XQ (m_:z6)(bound:Int):Option Int :=
 (wM m_).bind λr_=>
 bif r_ != 0 then(
  some r_)
 else(
  bif decide (bound<((m_.Rows.length:Nat):Int)) then(
   some 1)
  else(
   bif decide (bound > (w64 (((m_.Rows.length:Nat):Int)+4))) then(
    some 1)
   else(
    some 0)))
def VO (m_:z6)(from_:Int):Option (z6×Int) :=
 some (m_,from_)
def xx (gx:Int)(dg:List Bool)(ln:List zm):Option (LR (List Bool×List zm×Int) ((σ×List Bool×List zm))) :=
 some (.next (dg,ln,w64 (gx+1)))
def wV (bu:zm)(yr:σ×Bool)(aq:List z8)(fk:List Bool)(d9:List zm)(gx:Int):Option (LR (List Bool×List zm×Int) ((σ×List Bool×List zm))) :=
 bif decide (gx<((aq.length:Nat):Int)) then(
  (idx aq gx).bind λal=>
  bif al.To !=(-1) then(
   (idx fk al.To).bind λoi=>
   bif !oi then(
    (idx fk al.To).bind λo7=>
    gd (d9.length+([(zm.mk al.To bu.state_ gx)]:List zm).length<=4294967296) <|
    xx gx (fk.set al.To.toNat true) (d9++([(zm.mk al.To bu.state_ gx)]:List zm)))
   else(
    xx gx fk d9))
  else(
   xx gx fk d9))
 else(
  some (.done (yr.1,fk,d9)))
def uA (x0:z6)(yy:σ->zm->Option (σ×Bool))(dr:σ)(iz:List Bool)(cx:List zm):Option (LR (σ×List Bool×List zm) σ) :=
 bif decide (((cx.length:Nat):Int) > 0) then(
  (idx cx 0).bind λbu=>
  gd ((0:Int)<=1/\(1:Int)<=((cx.length:Nat):Int)) <|
  (yy dr bu).bind λyr=>
  bif !yr.2 then(
   some (.done yr.1))
  else(
   (idx x0.Rows bu.state_).bind λaq=>
   (loop (λs=>wV bu yr aq s.1 s.2.1 s.2.2) (iz,(cx.drop (1:Int).toNat),0)).bind λt2=>
   some (.next t2)))
 else(
  some (.done dr))
def Z7 (x0:z6)(x1:Int){σ:Type}(yy:σ->zm->Option (σ×Bool))(sg:σ):Option σ :=
 gd ((0:Int)<=((x0.Rows.length:Nat):Int)/\(((x0.Rows.length:Nat):Int):Int)<=4294967296) <|
 (idx (List.replicate ((x0.Rows.length:Nat):Int).toNat false) x1).bind λmy=>
 (loop (λs=>uA x0 yy s.1 s.2.1 s.2.2) (sg,((List.replicate ((x0.Rows.length:Nat):Int).toNat false).set x1.toNat true),([(zm.mk x1 (-1) (-1))]:List zm))).bind λt1=>
 some t1
def yu (s_:List Int):Option (List Int) :=
 gd (([]:List Int).length+s_.length<=4294967296) <|
 some s_
def y5 (s_:List Int):Option (List Int) :=
 gd ((0:Int)<=0/\(0:Int)<=((s_.length:Nat):Int)/\(((s_.length:Nat):Int):Int)<=((s_.length:Nat):Int)/\(((s_.length:Nat):Int):Int)<=((s_.length:Nat):Int)) <|
 some ((s_.drop 0).take (((s_.length:Nat):Int).toNat - 0))
def VN (l_:List (List Int))(is:List Bool):Option (List (List Int)×List Bool) :=
 some (l_,is)
def v8 (ez:List (List Int))(fy:List Bool)(gy:zm):Option (LR (List (List Int)×List Bool) Empty) :=
 (idx fy gy.state_).bind λn7=>
 bif gy.from_ !=(-1) then(
  (idx ez gy.from_).bind λcd=>
  (yu cd).bind λaj=>
  gd (aj.length+([gy.input_]:List Int).length<=4294967296) <|
  (y5 (aj++([gy.input_]:List Int))).bind λak=>
  (idx ez gy.state_).bind λgi=>
  some (.next ((ez.set gy.state_.toNat ak),(fy.set gy.state_.toNat true))))
 else(
  some (.next (ez,(fy.set gy.state_.toNat true))))
def QK (m_:z6)(from_:Int):Option (List (List Int)×List Bool) :=
 gd ((0:Int)<=((m_.Rows.length:Nat):Int)/\(((m_.Rows.length:Nat):Int):Int)<=4294967296) <|
 gd ((0:Int)<=((m_.Rows.length:Nat):Int)/\(((m_.Rows.length:Nat):Int):Int)<=4294967296) <|
 (VO m_ from_).bind λr_=>
 (Z7 r_.1 r_.2 (yOf (λs x=>v8 s.1 s.2 x)) (.next ((List.replicate ((m_.Rows.length:Nat):Int).toNat ([]:List Int)),(List.replicate ((m_.Rows.length:Nat):Int).toNat false)))).bind λt2=>
 match t2 with
 | .next (ez,fy)=>(
  VN ez fy)
 | .done z=>nomatch z
def Ut (m_:z6):Option (List (List Int)×List Bool×Int) :=
 (xZ m_).bind λr_=>
 bif r_ != 0 then(
  some (([]:List (List Int)),([]:List Bool),r_))
 else(
  (QK m_ 0).bind λaj=>
  some (aj.1,aj.2,0))
def Qa (c_:Int)(x1:Int):Option Bool :=
 bif decide (c_<0) then(
  some true)
 else(
  some (decide (c_>=x1)))
def uH:Option Int :=
 some (-1)
def yR (s_:List Int)(f_:Int)(x8:Int):Option (LR Int (Unit⊕Int)) :=
 bif decide (x8<((s_.length:Nat):Int)) then(
  (idx s_ x8).bind λdx=>
  (Qa dx f_).bind λr_=>
  bif r_ then(
   some (.done (.inr x8)))
  else(
   some (.next (w64 (x8+1)))))
 else(
  some (.done (.inl ())))
def vI (s_:List Int)(f_:Int):Option Int :=
 (loop (λs=>yR s_ f_ s) 0).bind λt2=>
 match t2 with
 | .inl p=>uH
 | .inr p=>some p
def wF (s_:List Int)(f_:Int):Option Bool :=
 (vI s_ f_).bind λr_=>
 some (decide (r_>=0))
def ZX (w_:List Int)(inputs:Int):Option Int :=
 bif decide (inputs > 16) then(
  some 3)
 else(
  bif decide (((w_.length:Nat):Int) > 256) then(
   some 3)
  else(
   bif decide (inputs<1) then(
    some 1)
   else(
    (wF w_ inputs).bind λr_=>
    bif r_ then(
     some 1)
    else(
     some 0))))
def KD:Option Int :=
 some 0
def Zo (l_:List (List Int))(inputs:Int)(fl:Int):Option (LR Int (Unit⊕Int)) :=
 bif decide (fl<((l_.length:Nat):Int)) then(
  (idx l_ fl).bind λcd=>
  (ZX cd inputs).bind λr_=>
  bif r_ != 0 then(
   some (.done (.inr r_)))
  else(
   some (.next (w64 (fl+1)))))
 else(
  some (.done (.inl ())))
def Vc (l_:List (List Int))(inputs:Int):Option Int :=
 bif decide (inputs > 16) then(
  some 3)
 else(
  bif decide (((l_.length:Nat):Int) > 4096) then(
   some 3)
  else(
   bif decide (inputs<1) then(
    some 1)
   else(
    (loop (λs=>Zo l_ inputs s) 0).bind λt2=>
    match t2 with
    | .inl p=>KD
    | .inr p=>some p)))
def wk (s_:List (List Int)):Option (List (List Int)) :=
 gd (([]:List (List Int)).length+s_.length<=4294967296) <|
 some s_
def WU (x_:Int):Option Bool :=
 some (x_ != x_)
def jU (x_:Int)(y_:Int):Option Int :=
 (WU x_).bind λr_=>
 (WU y_).bind λaj=>
 bif r_ then(
  bif aj then(
   some 0)
  else(
   some (-1)))
 else(
  bif aj then(
   some 1)
  else(
   bif decide (x_<y_) then(
    some (-1))
   else(
    bif decide (x_ > y_) then(
     some 1)
    else(
     some 0))))
def vb (s1:List Int)(s2:List Int):Option Int :=
 bif decide (((s1.length:Nat):Int)<((s2.length:Nat):Int)) then(
  some (-1))
 else(
  some 0)
def xm (s1:List Int)(s2:List Int)(fx:Int):Option (LR Int (Unit⊕Int)) :=
 bif decide (fx<((s1.length:Nat):Int)) then(
  (idx s1 fx).bind λnn=>
  bif decide (fx>=((s2.length:Nat):Int)) then(
   some (.done (.inr 1)))
  else(
   (idx s2 fx).bind λma=>
   (jU nn ma).bind λr_=>
   bif r_ != 0 then(
    some (.done (.inr r_)))
   else(
    some (.next (w64 (fx+1))))))
 else(
  some (.done (.inl ())))
def wR (s1:List Int)(s2:List Int):Option Int :=
 (loop (λs=>xm s1 s2 s) 0).bind λt2=>
 match t2 with
 | .inl p=>vb s1 s2
 | .inr p=>some p
def Qu:Option Int :=
 some 0
def YW (vals:List Int)(x8:Int):Option (LR Int (Unit⊕Int)) :=
 bif decide (x8<((vals.length:Nat):Int)) then(
  (idx vals x8).bind λn8=>
  bif n8 != 0 then(
   some (.done (.inr n8)))
  else(
   some (.next (w64 (x8+1)))))
 else(
  some (.done (.inl ())))
def z0w (vals:List Int):Option Int :=
 (loop (λs=>YW vals s) 0).bind λt2=>
 match t2 with
 | .inl p=>Qu
 | .inr p=>some p
def xo (a_:List Int)(b_:List Int):Option Int :=
 (jU ((a_.length:Nat):Int) ((b_.length:Nat):Int)).bind λr_=>
 (wR a_ b_).bind λaj=>
 (z0w ([r_,aj])).bind λak=>
 some ak
def Zn (a_:List Int)(b_:List Int):Option Bool :=
 (xo a_ b_).bind λr_=>
 some (r_==0)
def vu (s_:List (List Int)):Option (List (List Int)) :=
 some s_
def xU (k_:Int):Option (LR Int (Unit⊕List (List Int))) :=
 some (.next (w64 (k_+1)))
def yq (bg:List (List Int))(cb:Int):Option (LR Int (Unit⊕List (List Int))) :=
 gd ((0:Int)<=cb/\(cb:Int)<=((bg.length:Nat):Int)) <|
 gd ((0:Int)<=cb/\(cb:Int)<=((bg.length:Nat):Int)) <|
 gd ((0:Int)<=cb/\(cb:Int)<=(((bg.take cb.toNat++List.replicate (bg.length - cb.toNat) []).length:Nat):Int)) <|
 some (.done (.inr ((bg.take cb.toNat++List.replicate (bg.length - cb.toNat) []).take cb.toNat)))
def yp (k2:Int)(lp:List (List Int))(oj:Int):Option (LR (List (List Int)×Int×Int) ((List (List Int)×Int))) :=
 some (.next (lp,oj,w64 (k2+1)))
def yn (k_:Int)(bw:List (List Int))(i7:Int)(k2:Int):Option (LR (List (List Int)×Int×Int) ((List (List Int)×Int))) :=
 bif decide (k2<((bw.length - k_.toNat:Nat):Int)) then(
  gd ((0:Int)<=k_/\(0:Int)<=k2) <|
  (idx bw (k_+k2)).bind λm0=>
  gd ((0:Int)<=k_/\(0:Int)<=w64 (k2 - 1)) <|
  (idx bw (k_+(w64 (k2 - 1)))).bind λnb=>
  (Zn m0 nb).bind λaj=>
  bif !aj then(
   gd ((0:Int)<=k_/\(0:Int)<=k2) <|
   (idx bw (k_+k2)).bind λnc=>
   (idx bw i7).bind λpi=>
   yp k2 (bw.set i7.toNat nc) (w64 (i7+1)))
  else(
   yp k2 bw i7))
 else(
  some (.done (bw,i7)))
def yU (s_:List (List Int))(k_:Int):Option (LR Int (Unit⊕List (List Int))) :=
 bif decide (k_<((s_.length:Nat):Int)) then(
  (idx s_ k_).bind λdx=>
  (idx s_ (w64 (k_ - 1))).bind λlz=>
  (Zn dx lz).bind λr_=>
  bif r_ then(
   gd ((0:Int)<=k_/\(k_:Int)<=((s_.length:Nat):Int)) <|
   (loop (λs=>yn k_ s.1 s.2.1 s.2.2) (s_,k_,1)).bind λt5=>
   yq t5.1 t5.2)
  else(
   xU k_))
 else(
  some (.done (.inl ())))
def xA (s_:List (List Int))(eq:Unit):Option (List (List Int)) :=
 bif decide (((s_.length:Nat):Int)<2) then(
  some s_)
 else(
  (loop (λs=>yU s_ s) 1).bind λt2=>
  match t2 with
  | .inl p=>vu s_
  | .inr p=>some p)
def wG (s_:List (List Int)):Option (List (List Int)) :=
 some s_
def KC (n_:Int):Option Int :=
 some n_
def Zm (l_:List (List Int))(dp:Int)(x7:Int):Option (LR (Int×Int) Int) :=
 bif decide (x7<((l_.length:Nat):Int)) then(
  (idx l_ x7).bind λcd=>
  some (.next (w64 (dp+((cd.length:Nat):Int)),w64 (x7+1))))
 else(
  some (.done dp))
def Vb (l_:List (List Int)):Option Int :=
 (loop (λs=>Zm l_ s.1 s.2) (0,0)).bind λt2=>
 KC t2
def W7 (out:List (List Int×Bool)):Option (List (List Int)×Int) :=
 gd (∀q∈out,q.2=true) <|
 some ((out.map (·.1)),0)
def vj (ak:List (List Int))(ap:List (List Int×Bool))(eg:Int):Option (LR ((List (List Int×Bool))×Int) ((List (List Int×Bool)))) :=
 bif decide (eg<((ak.length - (0:Int).toNat:Nat):Int)) then(
  gd ((0:Int)<=0/\(0:Int)<=eg) <|
  (idx ap (0+eg)).bind λco=>
  (yu co.1).bind λca=>
  (y5 ca).bind λdj=>
  (idx ap eg).bind λic=>
  some (.next ((ap.set eg.toNat (dj,true)),w64 (eg+1))))
 else(
  some (.done ap))
def wj (l_:List (List Int)):Option (List (List Int)×Int) :=
 (wk l_).bind λr_=>
 (zjF (λx y=>xo x y) r_).bind λsorted=>
 (xA sorted ()).bind λaj=>
 (wG aj).bind λak=>
 bif decide (((ak.length:Nat):Int) > 4096) then(
  some (([]:List (List Int)),3))
 else(
  (Vb ak).bind λau=>
  bif decide (au > 65536) then(
   some (([]:List (List Int)),3))
  else(
   (loop (λs=>vj ak s.1 s.2) ((ak.map λq=>(q,false)),0)).bind λt2=>
   W7 t2))
def XM (l_:List (List Int))(inputs:Int):Option (List (List Int)×Int) :=
 (Vc l_ inputs).bind λr_=>
 bif r_ != 0 then(
  some (([]:List (List Int)),r_))
 else(
  (wj l_).bind λaj=>
  some (aj.1,aj.2))
def kW (m_:z6):Option (List (List Int)×Int) :=
 (vP m_).bind λr_=>
 bif r_.2 != 0 then(
  some (([]:List (List Int)),r_.2))
 else(
  bif !r_.1 then(
   some (([]:List (List Int)),11))
  else(
   (Ut m_).bind λaj=>
   bif aj.2.2 != 0 then(
    some (([]:List (List Int)),aj.2.2))
   else(
    (XM aj.1 m_.Inputs).bind λak=>
    some (ak.1,ak.2))))
def Kf (k_:Int)(ai:List (List Int))(lq:List (List Int))(dp:Int)(pd:Int)(pe:Bool)(ni:Bool):Option (LR (List (List Int)×List (List Int)×Int×Int) ((List (List Int)×Int))) :=
 some (.next (ai,lq,dp,w64 (k_+1)))
def Ke (k_:Int)(ap:List (List Int))(cj:Int)(ga:Bool)(next:List (List Int)):Option (LR (List (List Int)×List (List Int)×Int×Int) ((List (List Int)×Int))) :=
 Kf k_ ap next cj cj (decide (cj > 65536)) ga
def Kd (jv:Int)(ew:List (List Int)):Option (LR (List (List Int)×Int) (List (List Int))) :=
 some (.next (ew,w64 (jv+1)))
def qp (inputs:Int)(bm:List Int)(ck:List (List Int))(jw:Int):Option (LR (List (List Int)×Int) (List (List Int))) :=
 bif decide (jw<inputs) then(
  (y5 bm).bind λaj=>
  gd (aj.length+([jw]:List Int).length<=4294967296) <|
  gd (ck.length+([(aj++([jw]:List Int))]:List (List Int)).length<=4294967296) <|
  some (.next ((ck++([(aj++([jw]:List Int))]:List (List Int))),w64 (jw+1))))
 else(
  some (.done ck))
def qq (inputs:Int)(ar:List (List Int))(cn:List (List Int))(jv:Int):Option (LR (List (List Int)×Int) (List (List Int))) :=
 bif decide (jv<((ar.length:Nat):Int)) then(
  (idx ar jv).bind λbm=>
  (loop (λs=>qp inputs bm s.1 s.2) (cn,0)).bind λt8=>
  Kd jv t8)
 else(
  some (.done cn))
def XK (inputs:Int)(to:Int)(ar:List (List Int))(k_:Int)(ap:List (List Int))(cj:Int)(ga:Bool):Option (LR (List (List Int)×List (List Int)×Int×Int) ((List (List Int)×Int))) :=
 bif k_==to then(
  (wj ap).bind λr_=>
  some (.done (r_.1,r_.2)))
 else(
  (loop (λs=>qq inputs ar s.1 s.2) (([]:List (List Int)),0)).bind λt6=>
  Ke k_ ap cj ga t6)
def XL (inputs:Int)(to:Int)(ar:List (List Int))(k_:Int)(ap:List (List Int))(cj:Int):Option (LR (List (List Int)×List (List Int)×Int×Int) ((List (List Int)×Int))) :=
 bif decide (((ap.length:Nat):Int) > 4096) then(
  some (.done (([]:List (List Int)),3)))
 else(
  bif decide (cj > 65536) then(
   some (.done (([]:List (List Int)),3)))
  else(
   bif decide (k_<to) then(
    bif decide ((w64 (((ar.length:Nat):Int)*inputs)) > 4096) then(
     some (.done (([]:List (List Int)),3)))
    else(
     XK inputs to ar k_ ap cj (decide ((w64 (((ar.length:Nat):Int)*inputs)) > 4096))))
   else(
    XK inputs to ar k_ ap cj false)))
def kB (inputs:Int)(from_:Int)(to:Int)(out:List (List Int))(ar:List (List Int))(n_:Int)(k_:Int):Option (LR (List (List Int)×List (List Int)×Int×Int) ((List (List Int)×Int))) :=
 bif decide (k_>=from_) then(
  gd (out.length+ar.length<=4294967296) <|
  XL inputs to ar k_ (out++ar) (w64 (n_+(w64 (k_*((ar.length:Nat):Int))))))
 else(
  XL inputs to ar k_ out n_)
def QO (inputs:Int)(from_:Int)(to:Int):Option (List (List Int)×Int) :=
 bif decide (inputs > 16) then(
  some (([]:List (List Int)),3))
 else(
  bif decide (inputs<1) then(
   some (([]:List (List Int)),1))
  else(
   bif decide (to<0) then(
    some (([]:List (List Int)),1))
   else(
    bif decide (to > 256) then(
     some (([]:List (List Int)),3))
    else(
     (loop (λs=>kB inputs from_ to s.1 s.2.1 s.2.2.1 s.2.2.2) (([]:List (List Int)),([[]]:List (List Int)),0,0)).bind λt1=>
     some t1))))
def QD (inputs:Int)(k_:Int):Option (List (List Int)×Int) :=
 (QO inputs 0 k_).bind λr_=>
 some (r_.1,r_.2)
def VP:Option Bool :=
 some true
def Zp (l_:List (List Int))(i_:Int):Option (LR Int (Unit⊕Bool)) :=
 bif decide (i_<((l_.length:Nat):Int)) then(
  (idx l_ (w64 (i_ - 1))).bind λcd=>
  (idx l_ i_).bind λgi=>
  (xo cd gi).bind λr_=>
  bif decide (r_>=0) then(
   some (.done (.inr false)))
  else(
   some (.next (w64 (i_+1)))))
 else(
  some (.done (.inl ())))
def QP (l_:List (List Int)):Option Bool :=
 (loop (λs=>Zp l_ s) 1).bind λt2=>
 match t2 with
 | .inl p=>VP
 | .inr p=>some p
def Vd (l_:List (List Int))(inputs:Int):Option Int :=
 (Vc l_ inputs).bind λr_=>
 bif r_ != 0 then(
  some r_)
 else(
  (QP l_).bind λaj=>
  bif !aj then(
   some 1)
  else(
   (Vb l_).bind λak=>
   bif decide (ak > 65536) then(
    some 3)
   else(
    some 0)))
def Qc:Option Int :=
 some 0
def Yt (inputs:Int)(l_:List (List (List Int)))(eu:Int):Option (LR Int (Unit⊕Int)) :=
 bif decide (eu<((l_.length:Nat):Int)) then(
  (idx l_ eu).bind λcd=>
  (Vd cd inputs).bind λr_=>
  bif r_ != 0 then(
   some (.done (.inr r_)))
  else(
   some (.next (w64 (eu+1)))))
 else(
  some (.done (.inl ())))
def QC (inputs:Int)(l_:List (List (List Int))):Option Int :=
 (loop (λs=>Yt inputs l_ s) 0).bind λt2=>
 match t2 with
 | .inl p=>Qc
 | .inr p=>some p
def z2k (b_:List Int):Option (List UInt8) :=
 some (u8s b_)
def kA (w_:List Int)(ji:List Int)(fx:Int):Option (LR (List Int×Int) (List Int)) :=
 bif decide (fx<((w_.length:Nat):Int)) then(
  (idx w_ fx).bind λgu=>
  (idx ji fx).bind λct=>
  some (.next ((ji.set fx.toNat (IntKind.u8.wrap (gu))),w64 (fx+1))))
 else(
  some (.done ji))
def z2l (w_:List Int):Option (List UInt8) :=
 gd ((0:Int)<=((w_.length:Nat):Int)/\(((w_.length:Nat):Int):Int)<=4294967296) <|
 (loop (λs=>kA w_ s.1 s.2) ((List.replicate ((w_.length:Nat):Int).toNat (0:Int)),0)).bind λt2=>
 z2k t2
def Y1 (out:List (List Int)):Option (List (List Int)×Int) :=
 (wj out).bind λaj=>
 some (aj.1,aj.2)
def Y0 (dt:Int)(fk:List ((List UInt8)×Bool))(dp:Int)(ap:List (List Int)):Option (LR ((List ((List UInt8)×Bool))×Int×List (List Int)×Int) (List (List Int)⊕(List (List Int)×Int))) :=
 some (.next (fk,dp,ap,w64 (dt+1)))
def jH (ft:Int)(mg:List ((List UInt8)×Bool))(ny:Int)(fq:List (List Int)):Option (LR ((List ((List UInt8)×Bool))×Int×List (List Int)×Int) (((List ((List UInt8)×Bool))×Int×List (List Int))⊕(List (List Int)×Int))) :=
 bif decide (((fq.length:Nat):Int) > 4096) then(
  some (.done (.inr (([]:List (List Int)),3))))
 else(
  bif decide (ny > 65536) then(
   some (.done (.inr (([]:List (List Int)),3))))
  else(
   some (.next (mg,ny,fq,w64 (ft+1)))))
def jG (b_:List (List Int))(cq:List Int)(dg:List ((List UInt8)×Bool))(cj:Int)(bf:List (List Int))(ft:Int):Option (LR ((List ((List UInt8)×Bool))×Int×List (List Int)×Int) (((List ((List UInt8)×Bool))×Int×List (List Int))⊕(List (List Int)×Int))) :=
 bif decide (ft<((b_.length:Nat):Int)) then(
  (idx b_ ft).bind λct=>
  (y5 cq).bind λak=>
  gd (ak.length+ct.length<=4294967296) <|
  bif decide ((((ak++ct).length:Nat):Int) > 256) then(
   some (.done (.inr (([]:List (List Int)),3))))
  else(
   (z2l (ak++ct)).bind λau=>
   (some ((z0J dg au).getD false)).bind λval=>
   bif !val then(
    gd (bf.length+([(ak++ct)]:List (List Int)).length<=4294967296) <|
    jH ft (z9S dg au true) (w64 (cj+(((ak++ct).length:Nat):Int))) (bf++([(ak++ct)]:List (List Int))))
   else(
    jH ft dg cj bf)))
 else(
  some (.done (.inl (dg,cj,bf))))
def ZZ (a_:List (List Int))(b_:List (List Int))(iz:List ((List UInt8)×Bool))(n_:Int)(ai:List (List Int))(dt:Int):Option (LR ((List ((List UInt8)×Bool))×Int×List (List Int)×Int) (List (List Int)⊕(List (List Int)×Int))) :=
 bif decide (dt<((a_.length:Nat):Int)) then(
  (idx a_ dt).bind λcq=>
  (loop (λs=>jG b_ cq s.1 s.2.1 s.2.2.1 s.2.2.2) (iz,n_,ai,0)).bind λt4=>
  match t4 with
  | .inl p=>Y0 dt p.1 p.2.1 p.2.2
  | .inr p=>some (.done (.inr p)))
 else(
  some (.done (.inl ai)))
def XN (a_:List (List Int))(b_:List (List Int))(inputs:Int):Option (List (List Int)×Int) :=
 (QC inputs ([a_,b_])).bind λr_=>
 bif r_ != 0 then(
  some (([]:List (List Int)),r_))
 else(
  (loop (λs=>ZZ a_ b_ s.1 s.2.1 s.2.2.1 s.2.2.2) (([]:List ((List UInt8)×Bool)),0,([]:List (List Int)),0)).bind λt2=>
  match t2 with
  | .inl p=>Y1 p
  | .inr p=>some p)
def Yn (m_:z6)(k_:Int):Option (List (List Int)×Int) :=
 (kW m_).bind λr_=>
 bif r_.2 != 0 then(
  some (([]:List (List Int)),r_.2))
 else(
  bif decide (k_<0) then(
   some (([]:List (List Int)),1))
  else(
   (QD m_.Inputs k_).bind λaj=>
   bif aj.2 != 0 then(
    some (([]:List (List Int)),aj.2))
   else(
    (XN r_.1 aj.1 m_.Inputs).bind λak=>
    some (ak.1,ak.2))))
def vR (m_:z6):Option (List (List Int)×Int) :=
 (Yn m_ 1).bind λr_=>
 some (r_.1,r_.2)
def XZ (n_:Int):Option Int :=
 some n_
def YU (x6:Int)(ju:σ):Option (LR (σ×Int) σ) :=
 some (.next (ju,w64 (x6+1)))
def jT (x0:Int)(yy:σ->(Int×Int)->Option (σ×Bool))(x6:Int)(gc:σ)(b_:Int):Option (LR (σ×Int) (σ⊕σ)) :=
 bif decide (b_<x0) then(
  (yy gc (x6,b_)).bind λyr=>
  bif !yr.2 then(
   some (.done (.inr yr.1)))
  else(
   some (.next (yr.1,w64 (b_+1)))))
 else(
  some (.done (.inl gc)))
def YT (x0:Int)(yy:σ->(Int×Int)->Option (σ×Bool))(dr:σ)(x6:Int):Option (LR (σ×Int) σ) :=
 bif decide (x6<x0) then(
  (loop (λs=>jT x0 yy x6 s.1 s.2) (dr,w64 (x6+1))).bind λt3=>
  match t3 with
  | .inl p=>YU x6 p
  | .inr p=>some (.done p))
 else(
  some (.done dr))
def ut (x0:Int){σ:Type}(yy:σ->(Int×Int)->Option (σ×Bool))(sg:σ):Option σ :=
 (loop (λs=>YT x0 yy s.1 s.2) (sg,0)).bind λt1=>
 some t1
def Kv (a_:Int)(b_:Int):Option Bool :=
 some true
def X9 (s_:Int)(x1:z6):Option Bool :=
 bif decide (s_<0) then(
  some true)
 else(
  some (decide (s_>=((x1.Rows.length:Nat):Int))))
def wY:Option Int :=
 some (-1)
def yk (s_:List Int)(f_:z6)(x8:Int):Option (LR Int (Unit⊕Int)) :=
 bif decide (x8<((s_.length:Nat):Int)) then(
  (idx s_ x8).bind λdx=>
  (X9 dx f_).bind λr_=>
  bif r_ then(
   some (.done (.inr x8)))
  else(
   some (.next (w64 (x8+1)))))
 else(
  some (.done (.inl ())))
def xp (s_:List Int)(f_:z6):Option Int :=
 (loop (λs=>yk s_ f_ s) 0).bind λt2=>
 match t2 with
 | .inl p=>wY
 | .inr p=>some p
def xJ (s_:List Int)(f_:z6):Option Bool :=
 (xp s_ f_).bind λr_=>
 some (decide (r_>=0))
def Uv (m_:z6)(l_:List Int):Option Int :=
 (xZ m_).bind λr_=>
 bif r_ != 0 then(
  some r_)
 else(
  (xJ l_ m_).bind λaj=>
  bif aj then(
   some 1)
  else(
   some 0))
def Kg (m_:z6):Option z6 :=
 some m_
def YA (x8:Int)(ju:σ):Option (LR (σ×Int) σ) :=
 some (.next (ju,w64 (x8+1)))
def jJ (x0:z6)(yy:σ->(Int×Int)->Option (σ×Bool))(x8:Int)(gc:σ)(t_:Int):Option (LR (σ×Int) (σ⊕σ)) :=
 bif decide (t_<((x0.Rows.length:Nat):Int)) then(
  (yy gc (x8,t_)).bind λyr=>
  bif !yr.2 then(
   some (.done (.inr yr.1)))
  else(
   some (.next (yr.1,w64 (t_+1)))))
 else(
  some (.done (.inl gc)))
def Yz (x0:z6)(yy:σ->(Int×Int)->Option (σ×Bool))(dr:σ)(x8:Int):Option (LR (σ×Int) σ) :=
 bif decide (x8<((x0.Rows.length:Nat):Int)) then(
  (loop (λs=>jJ x0 yy x8 s.1 s.2) (dr,w64 (x8+1))).bind λt3=>
  match t3 with
  | .inl p=>YA x8 p
  | .inr p=>some (.done p))
 else(
  some (.done dr))
def qQ (x0:z6){σ:Type}(yy:σ->(Int×Int)->Option (σ×Bool))(sg:σ):Option σ :=
 (loop (λs=>Yz x0 yy s.1 s.2) (sg,0)).bind λt1=>
 some t1
def wD (l:List Int)(n:Int):Option (List Int):=bif l.isEmpty&&(decide (0<n)&&decide (n<=1000000)) then some [] else none
def vJ (lc:List Int):Option (List Int) :=
 some lc
def zY (slices:List (List Int))(ge:List Int)(nr:Int):Option (LR (List Int×Int) (List Int)) :=
 bif decide (nr<((slices.length:Nat):Int)) then(
  (idx slices nr).bind λj7=>
  gd (ge.length+j7.length<=4294967296) <|
  some (.next ((ge++j7),w64 (nr+1))))
 else(
  some (.done ge))
def vK (slices:List (List Int))(size:Int):Option (List Int) :=
 (wD [] size).bind λr_=>
 (loop (λs=>zY slices s.1 s.2) (r_,0)).bind λt3=>
 vJ t3
def zX (slices:List (List Int))(kj:Int)(fx:Int):Option (LR (Int×Int) Int) :=
 bif decide (fx<((slices.length:Nat):Int)) then(
  (idx slices fx).bind λkb=>
  bif decide ((w64 (kj+((kb.length:Nat):Int)))<0) then(
   none)
  else(
   some (.next (w64 (kj+((kb.length:Nat):Int)),w64 (fx+1)))))
 else(
  some (.done kj))
def vt (slices:List (List Int)):Option (List Int) :=
 (loop (λs=>zX slices s.1 s.2) (0,0)).bind λt4=>
 vK slices t4
def jE (n_:Int)(f_:ArN 64 (ArN 64 (List Int)))(out:List Int):Option (List Int×ArN 64 (ArN 64 (List Int))) :=
 bif ((out.length:Nat):Int) != n_ then(
  some ([],f_))
 else(
  (y5 out).bind λr_=>
  gd (r_≠[]) <|
  some (r_,f_))
def wJ (gj:Int):Option (LR Int (List Int)) :=
 some (.next (w64 (gj+1)))
def vX (m_:z6)(t_:Int)(n_:Int)(f_:ArN 64 (ArN 64 (List Int)))(aq:List z8)(gj:Int):Option (LR Int (List Int)) :=
 bif decide (gj<((aq.length:Nat):Int)) then(
  (idx aq gj).bind λal=>
  (idx m_.Rows t_).bind λll=>
  (idx ll gj).bind λcr=>
  bif al.Out != cr.Out then(
   some (.done ([gj]:List Int)))
  else(
   bif decide (n_ > 1) then(
    bif al.To !=(-1) then(
     (idx (f_.l) al.To).bind λcell=>
     (idx (cell.l) cr.To).bind λbo=>
     bif ((bo.length:Nat):Int)==(w64 (n_ - 1)) then(
      (idx (f_.l) al.To).bind λim=>
      (idx (im.l) cr.To).bind λiv=>
      (vt ([[gj],iv])).bind λaj=>
      some (.done aj))
     else(
      wJ gj))
    else(
     wJ gj))
   else(
    wJ gj)))
 else(
  some (.done ([]:List Int)))
def jK (m_:z6)(s_:Int)(t_:Int)(n_:Int)(f_:ArN 64 (ArN 64 (List Int))):Option (List Int×ArN 64 (ArN 64 (List Int))) :=
 (idx m_.Rows s_).bind λaq=>
 (loop (λs=>vX m_ t_ n_ f_ aq s) 0).bind λt2=>
 jE n_ f_ t2
def Z9 (s_:Int)(t_:Int)(w_:List Int)(f_:ArN 64 (ArN 64 (List Int))):Option (ArN 64 (ArN 64 (List Int))) :=
 (idx (f_.l) s_).bind λcell=>
 (idx (cell.l) t_).bind λbo=>
 (some (ArN.setI cell t_ w_)).bind λarr=>
 (some (ArN.setI f_ s_ arr)).bind λarr1=>
 (idx (arr1.l) t_).bind λim=>
 (idx (im.l) s_).bind λiv=>
 (some (ArN.setI im s_ w_)).bind λarr2=>
 (some (ArN.setI arr1 t_ arr2)).bind λn9=>
 some n9
def kO (f_:ArN 64 (ArN 64 (List Int))):Option (ArN 64 (ArN 64 (List Int))) :=
 some f_
def kN (n_:Int)(ol:ArN 64 (ArN 64 (List Int))):Option (LR (ArN 64 (ArN 64 (List Int))×Int) (ArN 64 (ArN 64 (List Int)))) :=
 some (.next (ol,w64 (n_+1)))
def uD (now:List zW)(mh:ArN 64 (ArN 64 (List Int)))(nu:Int):Option (LR (ArN 64 (ArN 64 (List Int))×Int) (ArN 64 (ArN 64 (List Int)))) :=
 bif decide (nu<((now.length:Nat):Int)) then(
  (idx now nu).bind λfw=>
  (Z9 fw.S fw.T fw.Word mh).bind λr_=>
  some (.next (r_,w64 (nu+1))))
 else(
  some (.done mh))
def kM (n_:Int)(om:ArN 64 (ArN 64 (List Int)))(now:List zW):Option (LR (ArN 64 (ArN 64 (List Int))×Int) (ArN 64 (ArN 64 (List Int)))) :=
 (loop (λs=>uD now s.1 s.2) (om,0)).bind λt5=>
 kN n_ t5
def we (m_:z6)(n_:Int)(iq:ArN 64 (ArN 64 (List Int)))(gv:List zW)(jj:Int)(eg:Int):Option (LR (ArN 64 (ArN 64 (List Int))×List zW) Empty) :=
 (idx (iq.l) jj).bind λcell=>
 (idx (cell.l) eg).bind λbo=>
 bif !bo.isEmpty then(
  some (.next (iq,gv)))
 else(
  (jK m_ jj eg n_ iq).bind λak=>
  bif !ak.1.isEmpty then(
   gd (gv.length+([(zW.mk jj eg ak.1 false)]:List zW).length<=4294967296) <|
   some (.next (ak.2,(gv++([(zW.mk jj eg ak.1 false)]:List zW)))))
  else(
   some (.next (ak.2,gv))))
def kL (m_:z6)(l8:ArN 64 (ArN 64 (List Int)))(n_:Int):Option (LR (ArN 64 (ArN 64 (List Int))×Int) (ArN 64 (ArN 64 (List Int)))) :=
 bif decide (n_<(mx ((m_.Rows.length:Nat):Int) 2)) then(
  (Kg m_).bind λaj=>
  (qQ aj (yOf (λs x=>we m_ n_ s.1 s.2 x.1 x.2)) (.next (l8,([]:List zW)))).bind λt6=>
  match t6 with
  | .next (iq,gv)=>(
   kM n_ iq gv)
  | .done z=>nomatch z)
 else(
  some (.done l8))
def Z8 (m_:z6):Option (ArN 64 (ArN 64 (List Int))) :=
 (loop (λs=>kL m_ s.1 s.2) ((ArN.rep 64 (ArN.rep 64 ([]:List Int))),1)).bind λt2=>
 kO t2
def jL (m_:z6)(s_:Int)(t_:Int):Option (List Int×Bool×Int) :=
 (Uv m_ ([s_,t_])).bind λr_=>
 bif r_ != 0 then(
  some (([]:List Int),false,r_))
 else(
  (Z8 m_).bind λaj=>
  (idx (aj.l) s_).bind λcell=>
  (idx (cell.l) t_).bind λbo=>
  (yu bo).bind λak=>
  (y5 ak).bind λau=>
  some (au,decide (((au.length:Nat):Int) > 0),0))
def WP (m_:z6)(x5:Int)(out:List (List Int)):Option (List (List Int)×Int) :=
 (XM out m_.Inputs).bind λr_=>
 some (r_.1,r_.2)
def jS (m_:z6)(ep:Int)(ai:List (List Int))(d8:Int)(ay:Int):Option (LR (Int×List (List Int)) ((Int×List (List Int)))) :=
 (Kv d8 ay).bind λak=>
 bif !ak then(
  some (.next (ep,ai)))
 else(
  (jL m_ d8 ay).bind λau=>
  bif au.2.2 != 0 then(
   some (.done (au.2.2,ai)))
  else(
   gd (ai.length+([au.1]:List (List Int)).length<=4294967296) <|
   some (.next (ep,(ai++([au.1]:List (List Int)))))))
def UH (m_:z6)(is:Unit):Option (List (List Int)×Int) :=
 (XZ ((m_.Rows.length:Nat):Int)).bind λaj=>
 (ut aj (yOf (λs x=>jS m_ s.1 s.2 x.1 x.2)) (.next (0,([]:List (List Int))))).bind λt2=>
 match t2 with
 | .next (ep,ai)=>(
  WP m_ ep ai)
 | .done (ep,ai)=>(
  some (([]:List (List Int)),ep))
def z0t (m_:z6):Option (List (List Int)×Int) :=
 (wM m_).bind λr_=>
 bif r_ != 0 then(
  some (([]:List (List Int)),r_))
 else(
  (UH m_ ()).bind λaj=>
  some (aj.1,aj.2))
def QQ (inputs:Int)(k_:Int):Option (List (List Int)×Int) :=
 (QO inputs k_ k_).bind λr_=>
 some (r_.1,r_.2)
def Vf (l_:List (List Int)):Option (List (List Int)) :=
 bif ((l_.length:Nat):Int)==0 then(
  some ([[]]:List (List Int)))
 else(
  some l_)
def Jt (a_:Int)(b_:Int)(x2:Int):Option Bool :=
 bif a_==x2 then(
  some true)
 else(
  some (b_==x2))
def kS (m_:z6)(x5:Int)(out:List (List Int)):Option (List (List Int)×Int) :=
 (XM out m_.Inputs).bind λr_=>
 some (r_.1,r_.2)
def xC (m_:z6)(is:Int)(ep:Int)(ai:List (List Int))(d8:Int)(ay:Int):Option (LR (Int×List (List Int)) ((Int×List (List Int)))) :=
 (Jt d8 ay is).bind λak=>
 bif !ak then(
  some (.next (ep,ai)))
 else(
  (jL m_ d8 ay).bind λau=>
  bif au.2.2 != 0 then(
   some (.done (au.2.2,ai)))
  else(
   gd (ai.length+([au.1]:List (List Int)).length<=4294967296) <|
   some (.next (ep,(ai++([au.1]:List (List Int)))))))
def Zj (m_:z6)(is:Int):Option (List (List Int)×Int) :=
 (XZ ((m_.Rows.length:Nat):Int)).bind λaj=>
 (ut aj (yOf (λs x=>xC m_ is s.1 s.2 x.1 x.2)) (.next (0,([]:List (List Int))))).bind λt2=>
 match t2 with
 | .next (ep,ai)=>(
  kS m_ ep ai)
 | .done (ep,ai)=>(
  some (([]:List (List Int)),ep))
def z2J (m_:z6)(s_:Int):Option (List (List Int)×Int) :=
 (wM m_).bind λr_=>
 bif r_ != 0 then(
  some (([]:List (List Int)),r_))
 else(
  bif decide (s_<0) then(
   some (([]:List (List Int)),1))
  else(
   bif decide (s_>=((m_.Rows.length:Nat):Int)) then(
    some (([]:List (List Int)),1))
   else(
    (Zj m_ s_).bind λaj=>
    some (aj.1,aj.2))))
def Vg (m_:z6)(r_:List (List Int)×Int)(aj:List (List Int)×Int)(au:List (List Int)×Int)(ca:List (List Int)×Int)(dj:List (List Int))(jx:List (List (List Int))):Option (Option zl×Int) :=
 some ((some (zl.mk m_ r_.1 aj.1 dj jx au.1 ca.1)),0)
def xF (m_:z6)(io:List (List (List Int)))(mi:Int):Option (LR (List (List (List Int))×Int) (List (List (List Int))⊕(Option zl×Int))) :=
 bif decide (mi<((m_.Rows.length:Nat):Int)) then(
  (z2J m_ mi).bind λgq=>
  bif gq.2 != 0 then(
   some (.done (.inr ((none:Option zl),gq.2))))
  else(
   (Vf gq.1).bind λgf=>
   gd (io.length+([gf]:List (List (List Int))).length<=4294967296) <|
   some (.next ((io++([gf]:List (List (List Int)))),w64 (mi+1)))))
 else(
  some (.done (.inl io)))
def Yv (m_:z6)(r_:List (List Int)×Int)(aj:List (List Int)×Int)(ak:List (List Int)×Int)(au:List (List Int)×Int)(ca:List (List Int)×Int):Option (Option zl×Int) :=
 (Vf ak.1).bind λdj=>
 (loop (λs=>xF m_ s.1 s.2) (([]:List (List (List Int))),0)).bind λt3=>
 match t3 with
 | .inl p=>Vg m_ r_ aj au ca dj p
 | .inr p=>some p
def Zq (m_:z6)(bound:Int):Option (Option zl×Int) :=
 (kW m_).bind λr_=>
 (vR m_).bind λaj=>
 (z0t m_).bind λak=>
 (QD m_.Inputs (w64 (bound - ((m_.Rows.length:Nat):Int)))).bind λau=>
 (QQ m_.Inputs (w64 (bound - ((m_.Rows.length:Nat):Int)))).bind λca=>
 bif r_.2 != 0 then(
  some ((none:Option zl),r_.2))
 else(
  bif aj.2 != 0 then(
   some ((none:Option zl),aj.2))
  else(
   bif ak.2 != 0 then(
    some ((none:Option zl),ak.2))
   else(
    bif au.2 != 0 then(
     some ((none:Option zl),au.2))
    else(
     bif ca.2 != 0 then(
      some ((none:Option zl),ca.2))
     else(
      Yv m_ r_ aj ak au ca)))))
def Yy (b_:zb)(ce:List (zq Int))(bn:Int):Option (zb×Bool) :=
 bif decide (bn > b_.most_) then(
  some (b_,true))
 else(
  some ((zb.mk ce bn b_.most_),false))
def Yx (ff:Int)(bp:List (zq Int))(bh:Int)(nv:Int)(lu:Bool):Option (LR (List (zq Int)×Int×Int×Bool×Int) ((List (zq Int)×Int))) :=
 some (.next (bp,bh,nv,lu,w64 (ff+1)))
def uv (fl:Int)(bq:List (zq Int))(bi:Int)(lv:Bool)(next:Int):Option (LR (List (zq Int)×Int×Int×Bool×Int) ((List (zq Int)×Int×Int×Bool))) :=
 some (.next (bq,bi,next,lv,w64 (fl+1)))
def yQ (am:List (zq Int))(em:Int)(fl:Int)(cp:Int)(db:Int):Option (LR (List (zq Int)×Int×Int×Bool×Int) ((List (zq Int)×Int×Int×Bool))) :=
 (idx am em).bind λja=>
 (idx (zq.toL ja) cp).bind λbo=>
 (some (zq.setI ja cp (IntKind.i32.wrap (((am.length:Nat):Int))))).bind λarr=>
 gd ((am.set em.toNat arr).length+([(zq.mk 0 0 0 0 0 0 0 0 0 0 0 0 0 0 0 0)]:List (zq Int)).length<=4294967296) <|
 uv fl ((am.set em.toNat arr)++([(zq.mk 0 0 0 0 0 0 0 0 0 0 0 0 0 0 0 0)]:List (zq Int))) db true (IntKind.i32.wrap (((am.length:Nat):Int)))
def wX (dy:List Int)(am:List (zq Int))(a7:Int)(em:Int)(ir:Bool)(fl:Int):Option (LR (List (zq Int)×Int×Int×Bool×Int) ((List (zq Int)×Int×Int×Bool))) :=
 bif decide (fl<((dy.length:Nat):Int)) then(
  (idx dy fl).bind λcp=>
  (idx am em).bind λld=>
  (idx (zq.toL ld) cp).bind λcell=>
  bif cell==0 then(
   bif !ir then(
    bif em==0 then(
     bif ((am.length:Nat):Int)==1 then(
      yQ am em fl cp (w64 (a7+1)))
     else(
      (idx am em).bind λdc=>
      bif !((dc.e0==0)&&((dc.e1==0)&&((dc.e2==0)&&((dc.e3==0)&&((dc.e4==0)&&((dc.e5==0)&&((dc.e6==0)&&((dc.e7==0)&&((dc.e8==0)&&((dc.e9==0)&&((dc.e10==0)&&((dc.e11==0)&&((dc.e12==0)&&((dc.e13==0)&&((dc.e14==0)&&((dc.e15==0)&&true)))))))))))))))) then(
       yQ am em fl cp (w64 (a7+1)))
      else(
       yQ am em fl cp a7)))
    else(
     (idx am em).bind λde=>
     bif !((de.e0==0)&&((de.e1==0)&&((de.e2==0)&&((de.e3==0)&&((de.e4==0)&&((de.e5==0)&&((de.e6==0)&&((de.e7==0)&&((de.e8==0)&&((de.e9==0)&&((de.e10==0)&&((de.e11==0)&&((de.e12==0)&&((de.e13==0)&&((de.e14==0)&&((de.e15==0)&&true)))))))))))))))) then(
      yQ am em fl cp (w64 (a7+1)))
     else(
      yQ am em fl cp a7)))
   else(
    yQ am em fl cp a7))
  else(
   uv fl am a7 ir cell))
 else(
  some (.done (am,a7,em,ir)))
def Yw (parts:List (List Int))(br:List (zq Int))(bj:Int)(at_:Int)(l4:Bool)(ff:Int):Option (LR (List (zq Int)×Int×Int×Bool×Int) ((List (zq Int)×Int))) :=
 bif decide (ff<((parts.length:Nat):Int)) then(
  (idx parts ff).bind λdy=>
  (loop (λs=>wX dy s.1 s.2.1 s.2.2.1 s.2.2.2.1 s.2.2.2.2) (br,bj,at_,l4,0)).bind λt4=>
  Yx ff t4.1 t4.2.1 t4.2.2.1 t4.2.2.2)
 else(
  some (.done (br,bj)))
def xW (parts:List (List Int))(b_:zb):Option (zb×Bool) :=
 (loop (λs=>Yw parts s.1 s.2.1 s.2.2.1 s.2.2.2.1 s.2.2.2.2) (b_.nodes_,b_.leaves_,0,false,0)).bind λt2=>
 Yy b_ t2.1 t2.2
def Y3 (ay:Int)(br:List (zq Int))(bj:Int)(du:Int):Option (LR (List (zq Int)×Int×Int×Int) ((zb×Bool))) :=
 some (.next (br,bj,du,w64 (ay+1)))
def Y2 (fg:Int)(am:List (zq Int))(a7:Int)(dv:Int):Option (LR (List (zq Int)×Int×Int×Int) ((List (zq Int)×Int×Int)⊕(zb×Bool))) :=
 some (.next (am,a7,dv,w64 (fg+1)))
def qr (x_:zl)(b_:zb)(a8:List Int)(ax:List Int)(bq:List (zq Int))(bi:Int)(cu:Int)(ft:Int):Option (LR (List (zq Int)×Int×Int×Int) ((List (zq Int)×Int×Int)⊕(zb×Bool))) :=
 bif decide (ft<((x_.all_.length:Nat):Int)) then(
  (idx x_.all_ ft).bind λeb=>
  (xW ([a8,ax,eb]:List (List Int)) (zb.mk bq bi cu)).bind λr_=>
  bif r_.2 then(
   some (.done (.inr (b_,true))))
  else(
   some (.next (r_.1.nodes_,r_.1.leaves_,r_.1.most_,w64 (ft+1)))))
 else(
  some (.done (.inl (bq,bi,cu))))
def qt (x_:zl)(b_:zb)(a8:List Int)(bp:List (zq Int))(bh:Int)(cw:Int)(fg:Int):Option (LR (List (zq Int)×Int×Int×Int) ((List (zq Int)×Int×Int)⊕(zb×Bool))) :=
 bif decide (fg<((x_.short_.length:Nat):Int)) then(
  (idx x_.short_ fg).bind λax=>
  (loop (λs=>qr x_ b_ a8 ax s.1 s.2.1 s.2.2.1 s.2.2.2) (bp,bh,cw,0)).bind λt5=>
  match t5 with
  | .inl p=>Y2 fg p.1 p.2.1 p.2.2
  | .inr p=>some (.done (.inr p)))
 else(
  some (.done (.inl (bp,bh,cw))))
def qu (x_:zl)(b_:zb)(ce:List (zq Int))(bn:Int)(dz:Int)(ay:Int):Option (LR (List (zq Int)×Int×Int×Int) ((zb×Bool))) :=
 bif decide (ay<((x_.p_.length:Nat):Int)) then(
  (idx x_.p_ ay).bind λa8=>
  (loop (λs=>qt x_ b_ a8 s.1 s.2.1 s.2.2.1 s.2.2.2) (ce,bn,dz,0)).bind λt3=>
  match t3 with
  | .inl p=>Y3 ay p.1 p.2.1 p.2.2
  | .inr p=>some (.done p))
 else(
  some (.done ((zb.mk ce bn dz),false)))
def vF (x0:z2V)(x_:zl)(b_:zb):Option (zb×Bool) :=
 (loop (λs=>qu x_ b_ s.1 s.2.1 s.2.2.1 s.2.2.2) (b_.nodes_,b_.leaves_,b_.most_,0)).bind λt1=>
 some t1
def yz (x_:List (List Int))(target:List Int)(i_:Int):Option (Int×Bool) :=
 bif decide (i_<((x_.length:Nat):Int)) then(
  (idx x_ i_).bind λlb=>
  (xo lb target).bind λr_=>
  some (i_,r_==0))
 else(
  some (i_,false))
def ya (x_:List (List Int))(target:List Int)(fc:Int)(j_:Int):Option (LR (Int×Int) Int) :=
 bif decide (fc<j_) then(
  (idx x_ (w64 (Int.fdiv (IntKind.u64.wrap (w64 (fc+j_))) (2 ^ 1)))).bind λki=>
  (xo ki target).bind λaj=>
  bif decide (aj<0) then(
   some (.next (w64 ((w64 (Int.fdiv (IntKind.u64.wrap (w64 (fc+j_))) (2 ^ 1)))+1),j_)))
  else(
   some (.next (fc,w64 (Int.fdiv (IntKind.u64.wrap (w64 (fc+j_))) (2 ^ 1))))))
 else(
  some (.done fc))
def yS (x_:List (List Int))(target:List Int)(cmp:Unit):Option (Int×Bool) :=
 (loop (λs=>ya x_ target s.1 s.2) (0,((x_.length:Nat):Int))).bind λt2=>
 yz x_ target t2
def z57 (l_:List (List Int))(w_:List Int):Option Bool :=
 (yS l_ w_ ()).bind λr_=>
 some r_.2
def Yu (w_:List Int)(x1:List (List Int)):Option Bool :=
 (z57 x1 w_).bind λr_=>
 some r_
def uf:Option Int :=
 some (-1)
def yH (s_:List (List Int))(f_:List (List Int))(x8:Int):Option (LR Int (Unit⊕Int)) :=
 bif decide (x8<((s_.length:Nat):Int)) then(
  (idx s_ x8).bind λdx=>
  (Yu dx f_).bind λr_=>
  bif r_ then(
   some (.done (.inr x8)))
  else(
   some (.next (w64 (x8+1)))))
 else(
  some (.done (.inl ())))
def va (s_:List (List Int))(f_:List (List Int)):Option Int :=
 (loop (λs=>yH s_ f_ s) 0).bind λt2=>
 match t2 with
 | .inl p=>uf
 | .inr p=>some p
def xg (bg:List (List Int))(i_:Int):Option (List (List Int)) :=
 gd ((0:Int)<=i_/\(i_:Int)<=((bg.length:Nat):Int)) <|
 gd ((0:Int)<=i_/\(i_:Int)<=((bg.length:Nat):Int)) <|
 gd ((0:Int)<=i_/\(i_:Int)<=(((bg.take i_.toNat++List.replicate (bg.length - i_.toNat) []).length:Nat):Int)) <|
 some ((bg.take i_.toNat++List.replicate (bg.length - i_.toNat) []).take i_.toNat)
def yx (j_:Int)(lp:List (List Int))(oq:Int):Option (LR (List (List Int)×Int×Int) ((List (List Int)×Int))) :=
 some (.next (lp,oq,w64 (j_+1)))
def xe (jl:List (List Int))(bw:List (List Int))(fc:Int)(j_:Int):Option (LR (List (List Int)×Int×Int) ((List (List Int)×Int))) :=
 bif decide (j_<((bw.length:Nat):Int)) then(
  (idx bw j_).bind λdx=>
  (Yu dx jl).bind λaj=>
  bif !aj then(
   (idx bw fc).bind λlz=>
   yx j_ (bw.set fc.toNat dx) (w64 (fc+1)))
  else(
   yx j_ bw fc))
 else(
  some (.done (bw,fc)))
def xQ (s_:List (List Int))(jl:List (List Int)):Option (List (List Int)) :=
 (va s_ jl).bind λr_=>
 bif r_==(-1) then(
  some s_)
 else(
  (loop (λs=>xe jl s.1 s.2.1 s.2.2) (s_,r_,w64 (r_+1))).bind λt2=>
  xg t2.1 t2.2)
def Xz (a_:List (List Int))(b_:List (List Int))(inputs:Int):Option (List (List Int)×Int) :=
 (QC inputs ([a_,b_])).bind λr_=>
 bif r_ != 0 then(
  some (([]:List (List Int)),r_))
 else(
  (wk a_).bind λaj=>
  (xQ aj b_).bind λak=>
  (wj ak).bind λau=>
  some (au.1,au.2))
def Xf (m_:z6)(s_:Int):Option Int :=
 (xZ m_).bind λr_=>
 bif r_ != 0 then(
  some r_)
 else(
  bif decide (s_<0) then(
   some 1)
  else(
   bif decide (s_>=((m_.Rows.length:Nat):Int)) then(
    some 1)
   else(
    some 0)))
def WK (bg:Int)(out:List Int):Option (List Int×Int) :=
 some (out,bg)
def uN (ai:List Int)(ay:Int)(iy:Int)(l5:Int):Option (LR (Int×List Int×Int) ((Int×List Int))) :=
 (idx ai ay).bind λco=>
 some (.next (iy,(ai.set ay.toNat l5),w64 (ay+1)))
def WJ (m_:z6)(w_:List Int)(bw:Int)(ai:List Int)(ay:Int):Option (LR (Int×List Int×Int) ((Int×List Int))) :=
 bif decide (ay<((w_.length:Nat):Int)) then(
  (idx w_ ay).bind λgu=>
  (qK).bind λr_=>
  bif bw !=(-1) then(
   (idx m_.Rows bw).bind λaq=>
   (idx aq gu).bind λal=>
   uN ai ay al.To al.Out)
  else(
   uN ai ay r_.To r_.Out))
 else(
  some (.done (bw,ai)))
def UG (m_:z6)(s_:Int)(w_:List Int):Option (List Int×Int) :=
 gd ((0:Int)<=((w_.length:Nat):Int)/\(((w_.length:Nat):Int):Int)<=4294967296) <|
 (loop (λs=>WJ m_ w_ s.1 s.2.1 s.2.2) (s_,(List.replicate ((w_.length:Nat):Int).toNat (0:Int)),0)).bind λt2=>
 WK t2.1 t2.2
def Zv (m_:z6)(s_:Int)(w_:List Int):Option (Int×Int) :=
 (Xf m_ s_).bind λr_=>
 bif r_ != 0 then(
  some (0,r_))
 else(
  (ZX w_ m_.Inputs).bind λaj=>
  bif aj != 0 then(
   some (0,aj))
  else(
   (UG m_ s_ w_).bind λak=>
   some (ak.2,0)))
def xG (x_:zl)(u_:List Int)(v_:List Int):Option (List (List Int)) :=
 (Zv x_.m_ 0 u_).bind λr_=>
 (Zv x_.m_ r_.1 v_).bind λaj=>
 (idx x_.each_ aj.1).bind λnz=>
 some nz
def ZG (gr:Int)(bp:List (zq Int))(bh:Int)(cw:Int):Option (LR (List (zq Int)×Int×Int×Int) ((zb×Bool))) :=
 some (.next (bp,bh,cw,w64 (gr+1)))
def ZF (jn:Int)(bq:List (zq Int))(bi:Int)(cu:Int):Option (LR (List (zq Int)×Int×Int×Int) ((List (zq Int)×Int×Int)⊕(zb×Bool))) :=
 some (.next (bq,bi,cu,w64 (jn+1)))
def wQ (b_:zb)(u_:List Int)(dh:List Int)(aj:List (List Int))(ig:List (zq Int))(db:Int)(jb:Int)(mz:Int):Option (LR (List (zq Int)×Int×Int×Int) ((List (zq Int)×Int×Int)⊕(zb×Bool))) :=
 bif decide (mz<((aj.length:Nat):Int)) then(
  (idx aj mz).bind λdw=>
  (xW ([u_,dh,dw]:List (List Int)) (zb.mk ig db jb)).bind λak=>
  bif ak.2 then(
   some (.done (.inr (b_,true))))
  else(
   some (.next (ak.1.nodes_,ak.1.leaves_,ak.1.most_,w64 (mz+1)))))
 else(
  some (.done (.inl (ig,db,jb))))
def uW (x_:zl)(b_:zb)(u_:List Int)(am:List (zq Int))(a7:Int)(dv:Int)(jn:Int):Option (LR (List (zq Int)×Int×Int×Int) ((List (zq Int)×Int×Int)⊕(zb×Bool))) :=
 bif decide (jn<((x_.exact_.length:Nat):Int)) then(
  (idx x_.exact_ jn).bind λdh=>
  (xG x_ u_ dh).bind λaj=>
  (loop (λs=>wQ b_ u_ dh aj s.1 s.2.1 s.2.2.1 s.2.2.2) (am,a7,dv,0)).bind λt6=>
  match t6 with
  | .inl p=>ZF jn p.1 p.2.1 p.2.2
  | .inr p=>some (.done (.inr p)))
 else(
  some (.done (.inl (am,a7,dv))))
def uX (x_:zl)(b_:zb)(r_:List (List Int)×Int)(br:List (zq Int))(bj:Int)(du:Int)(gr:Int):Option (LR (List (zq Int)×Int×Int×Int) ((zb×Bool))) :=
 bif decide (gr<((r_.1.length:Nat):Int)) then(
  (idx r_.1 gr).bind λu_=>
  (loop (λs=>uW x_ b_ u_ s.1 s.2.1 s.2.2.1 s.2.2.2) (br,bj,du,0)).bind λt4=>
  match t4 with
  | .inl p=>ZG gr p.1 p.2.1 p.2.2
  | .inr p=>some (.done p))
 else(
  some (.done ((zb.mk br bj du),false)))
def uY (x_:zl)(b_:zb)(ce:List (zq Int))(bn:Int)(dz:Int):Option (zb×Bool) :=
 (Xz x_.p_ x_.q_ x_.m_.Inputs).bind λr_=>
 (loop (λs=>uX x_ b_ r_ s.1 s.2.1 s.2.2.1 s.2.2.2) (ce,bn,dz,0)).bind λt2=>
 some t2
def ZD (gt:Int)(kc:List (zq Int))(jy:Int)(kz:Int):Option (LR (List (zq Int)×Int×Int×Int) ((List (zq Int)×Int×Int)⊕(zb×Bool))) :=
 some (.next (kc,jy,kz,w64 (gt+1)))
def kD (jo:Int)(ke:List (zq Int))(jz:Int)(k0:Int):Option (LR (List (zq Int)×Int×Int×Int) ((List (zq Int)×Int×Int)⊕(zb×Bool))) :=
 some (.next (ke,jz,k0,w64 (jo+1)))
def u9 (x_:zl)(b_:zb)(fm:List Int)(ax:List Int)(gk:List (zq Int))(gg:Int)(ii:Int)(lh:Int):Option (LR (List (zq Int)×Int×Int×Int) ((List (zq Int)×Int×Int)⊕(zb×Bool))) :=
 bif decide (lh<((x_.all_.length:Nat):Int)) then(
  (idx x_.all_ lh).bind λeb=>
  (xW ([fm,ax,eb]:List (List Int)) (zb.mk gk gg ii)).bind λau=>
  bif au.2 then(
   some (.done (.inr (b_,true))))
  else(
   some (.next (au.1.nodes_,au.1.leaves_,au.1.most_,w64 (lh+1)))))
 else(
  some (.done (.inl (gk,gg,ii))))
def uU (x_:zl)(b_:zb)(fm:List Int)(ij:List (zq Int))(gl:Int)(jd:Int)(jo:Int):Option (LR (List (zq Int)×Int×Int×Int) ((List (zq Int)×Int×Int)⊕(zb×Bool))) :=
 bif decide (jo<((x_.short_.length:Nat):Int)) then(
  (idx x_.short_ jo).bind λax=>
  (loop (λs=>u9 x_ b_ fm ax s.1 s.2.1 s.2.2.1 s.2.2.2) (ij,gl,jd,0)).bind λpl=>
  match pl with
  | .inl p=>kD jo p.1 p.2.1 p.2.2
  | .inr p=>some (.done (.inr p)))
 else(
  some (.done (.inl (ij,gl,jd))))
def uV (x_:zl)(b_:zb)(ik:List (zq Int))(gm:Int)(je:Int)(gt:Int):Option (LR (List (zq Int)×Int×Int×Int) ((List (zq Int)×Int×Int)⊕(zb×Bool))) :=
 bif decide (gt<((x_.q_.length:Nat):Int)) then(
  (idx x_.q_ gt).bind λfm=>
  (loop (λs=>uU x_ b_ fm s.1 s.2.1 s.2.2.1 s.2.2.2) (ik,gm,je,0)).bind λt9=>
  match t9 with
  | .inl p=>ZD gt p.1 p.2.1 p.2.2
  | .inr p=>some (.done (.inr p)))
 else(
  some (.done (.inl (ik,gm,je))))
def wW (x0:z1J)(x_:zl)(b_:zb):Option (zb×Bool) :=
 (loop (λs=>uV x_ b_ s.1 s.2.1 s.2.2.1 s.2.2.2) (b_.nodes_,b_.leaves_,b_.most_,0)).bind λt7=>
 match t7 with
 | .inl p=>uY x_ b_ p.1 p.2.1 p.2.2
 | .inr p=>some p
def kF (ay:Int)(br:List (zq Int))(bj:Int)(du:Int):Option (LR (List (zq Int)×Int×Int×Int) ((zb×Bool))) :=
 some (.next (br,bj,du,w64 (ay+1)))
def kE (fg:Int)(am:List (zq Int))(a7:Int)(dv:Int):Option (LR (List (zq Int)×Int×Int×Int) ((List (zq Int)×Int×Int)⊕(zb×Bool))) :=
 some (.next (am,a7,dv,w64 (fg+1)))
def wB (b_:zb)(a8:List Int)(ax:List Int)(r_:List (List Int))(bq:List (zq Int))(bi:Int)(cu:Int)(ft:Int):Option (LR (List (zq Int)×Int×Int×Int) ((List (zq Int)×Int×Int)⊕(zb×Bool))) :=
 bif decide (ft<((r_.length:Nat):Int)) then(
  (idx r_ ft).bind λdw=>
  (xW ([a8,ax,dw]:List (List Int)) (zb.mk bq bi cu)).bind λaj=>
  bif aj.2 then(
   some (.done (.inr (b_,true))))
  else(
   some (.next (aj.1.nodes_,aj.1.leaves_,aj.1.most_,w64 (ft+1)))))
 else(
  some (.done (.inl (bq,bi,cu))))
def ua (x_:zl)(b_:zb)(a8:List Int)(bp:List (zq Int))(bh:Int)(cw:Int)(fg:Int):Option (LR (List (zq Int)×Int×Int×Int) ((List (zq Int)×Int×Int)⊕(zb×Bool))) :=
 bif decide (fg<((x_.short_.length:Nat):Int)) then(
  (idx x_.short_ fg).bind λax=>
  (xG x_ a8 ax).bind λr_=>
  (loop (λs=>wB b_ a8 ax r_ s.1 s.2.1 s.2.2.1 s.2.2.2) (bp,bh,cw,0)).bind λt5=>
  match t5 with
  | .inl p=>kE fg p.1 p.2.1 p.2.2
  | .inr p=>some (.done (.inr p)))
 else(
  some (.done (.inl (bp,bh,cw))))
def ub (x_:zl)(b_:zb)(ce:List (zq Int))(bn:Int)(dz:Int)(ay:Int):Option (LR (List (zq Int)×Int×Int×Int) ((zb×Bool))) :=
 bif decide (ay<((x_.p_.length:Nat):Int)) then(
  (idx x_.p_ ay).bind λa8=>
  (loop (λs=>ua x_ b_ a8 s.1 s.2.1 s.2.2.1 s.2.2.2) (ce,bn,dz,0)).bind λt3=>
  match t3 with
  | .inl p=>kF ay p.1 p.2.1 p.2.2
  | .inr p=>some (.done p))
 else(
  some (.done ((zb.mk ce bn dz),false)))
def wI (x0:z0z)(x_:zl)(b_:zb):Option (zb×Bool) :=
 (loop (λs=>ub x_ b_ s.1 s.2.1 s.2.2.1 s.2.2.2) (b_.nodes_,b_.leaves_,b_.most_,0)).bind λt1=>
 some t1
def kG (x:zl)(s:Nat)(most:Int):Option (Option zb×Bool) :=
 (match s with|0=>vF ⟨⟩ x (zb.mk [zq.mk 0 0 0 0 0 0 0 0 0 0 0 0 0 0 0 0] 0 most)|1=>wW ⟨⟩ x (zb.mk [zq.mk 0 0 0 0 0 0 0 0 0 0 0 0 0 0 0 0] 0 most)|2=>wI ⟨⟩ x (zb.mk [zq.mk 0 0 0 0 0 0 0 0 0 0 0 0 0 0 0 0] 0 most)|_=>none).bind λr=>
 some (bif r.2 then none else some r.1,!r.2)
def wn (s_:List (List Int)):Option (List (List Int)) :=
 some s_
def kK (out:List (List Int)):Option (List (List Int)) :=
 (wn out).bind λr_=>
 some r_
def kJ (ap:List (List Int))(next:List zi):Option (LR (List (List Int)×List zi) (List (List Int))) :=
 some (.next (ap,next))
def uC (ay:Int)(fq:List (List Int))(ew:List zi):Option (LR (List (List Int)×List zi×Int) ((List (List Int)×List zi))) :=
 some (.next (fq,ew,w64 (ay+1)))
def kI (bf:List (List Int))(ay:Int)(bm:zi)(ck:List zi)(oa:Bool):Option (LR (List (List Int)×List zi×Int) ((List (List Int)×List zi))) :=
 bif oa then(
  (y5 bm.w_).bind λaj=>
  gd (bf.length+([aj]:List (List Int)).length<=4294967296) <|
  uC ay (bf++([aj]:List (List Int))) ck)
 else(
  uC ay bf ck)
def uB (dt:Int)(mj:List zi)(ml:Bool):Option (LR (List zi×Bool×Int) ((List zi×Bool))) :=
 some (.next (mj,ml,w64 (dt+1)))
def yY (bm:zi)(ba:zq Int)(iw:List zi)(kl:Bool)(dt:Int):Option (LR (List zi×Bool×Int) ((List zi×Bool))) :=
 bif decide (dt<16) then(
  (idx ([ba.e0,ba.e1,ba.e2,ba.e3,ba.e4,ba.e5,ba.e6,ba.e7,ba.e8,ba.e9,ba.e10,ba.e11,ba.e12,ba.e13,ba.e14,ba.e15]:List Int) dt).bind λcell=>
  bif decide (cell > 0) then(
   (y5 bm.w_).bind λak=>
   gd (ak.length+([dt]:List Int).length<=4294967296) <|
   gd (iw.length+([(zi.mk cell (ak++([dt]:List Int)))]:List zi).length<=4294967296) <|
   uB dt (iw++([(zi.mk cell (ak++([dt]:List Int)))]:List zi)) false)
  else(
   uB dt iw kl))
 else(
  some (.done (iw,kl)))
def yZ (b_:zb)(ar:List zi)(bf:List (List Int))(cn:List zi)(ay:Int):Option (LR (List (List Int)×List zi×Int) ((List (List Int)×List zi))) :=
 bif decide (ay<((ar.length:Nat):Int)) then(
  (idx ar ay).bind λbm=>
  (idx b_.nodes_ bm.at_).bind λba=>
  (loop (λs=>yY bm ba s.1 s.2.1 s.2.2) (cn,true,0)).bind λt7=>
  kI bf ay bm t7.1 t7.2)
 else(
  some (.done (bf,cn)))
def kH (b_:zb)(ai:List (List Int))(ar:List zi):Option (LR (List (List Int)×List zi) (List (List Int))) :=
 bif decide (((ar.length:Nat):Int) > 0) then(
  (loop (λs=>yZ b_ ar s.1 s.2.1 s.2.2) (ai,([]:List zi),0)).bind λt4=>
  kJ t4.1 t4.2)
 else(
  some (.done ai))
def vT (b_:zb):Option (List (List Int)) :=
 (loop (λs=>kH b_ s.1 s.2) (([]:List (List Int)),([(zi.mk 0 [])]:List zi))).bind λt2=>
 kK t2
def vn (s_:Nat)(m_:z6)(bound:Int)(ee:Int):Option (List (List Int)×Int) :=
 (XQ m_ bound).bind λr_=>
 bif r_ != 0 then(
  some (([]:List (List Int)),r_))
 else(
  bif decide (ee<1) then(
   some (([]:List (List Int)),1))
  else(
   bif decide (ee > 4096) then(
    some (([]:List (List Int)),1))
   else(
    (Zq m_ bound).bind λaj=>
    bif aj.2 != 0 then(
     some (([]:List (List Int)),13))
    else(
     (aj.1).bind λthere=>
     (kG there s_ ee).bind λak=>
     bif !ak.2 then(
      some (([]:List (List Int)),13))
     else(
      (ak.1).bind λda=>
      (vT da).bind λau=>
      (Vd au m_.Inputs).bind λca=>
      bif ca != 0 then(
       some (([]:List (List Int)),ca))
      else(
       some (au,0)))))))
def Qd (m_:z6)(bound:Int)(ee:Int):Option (List (List Int)×Int) :=
 (vn 0 m_ bound ee).bind λr_=>
 some (r_.1,r_.2)
def z0d (m_:z6)(bound:Int)(ee:Int):Option (List (List Int)×Int) :=
 (vn 1 m_ bound ee).bind λr_=>
 some (r_.1,r_.2)
def QE (m_:z6)(bound:Int)(ee:Int):Option (List (List Int)×Int) :=
 (vn 2 m_ bound ee).bind λr_=>
 some (r_.1,r_.2)
def W8 (n_:Q9 Int):Option (Q9 Int×Int) :=
 some (n_,0)
def jI (aj:Option zl×Int)(dp:Q9 Int)(i8:Int):Option (LR (Q9 Int×Int) (Q9 Int⊕(Q9 Int×Int))) :=
 bif decide (i8<((([0,1,2]:List Nat).length:Nat):Int)) then(
  (idx ([0,1,2]) i8).bind λmy=>
  (aj.1).bind λthere=>
  (kG there my 4096).bind λak=>
  bif !ak.2 then(
   some (.done (.inr ((Q9.mk 0 0 0),3))))
  else(
   (ak.1).bind λda=>
   (idx (Q9.toL dp) i8).bind λcell=>
   (some (Q9.setI dp i8 (mx da.leaves_ 1))).bind λarr=>
   some (.next (arr,w64 (i8+1)))))
 else(
  some (.done (.inl dp)))
def XP (m_:z6)(bound:Int):Option (Q9 Int×Int) :=
 (XQ m_ bound).bind λr_=>
 bif r_ != 0 then(
  some ((Q9.mk 0 0 0),r_))
 else(
  (Zq m_ bound).bind λaj=>
  bif aj.2 != 0 then(
   some ((Q9.mk 0 0 0),3))
  else(
   (loop (λs=>jI aj s.1 s.2) ((Q9.mk 0 0 0),0)).bind λt2=>
   match t2 with
   | .inl p=>W8 p
   | .inr p=>some p))
def KQ (out:List (List Int)):Option (List (List Int)) :=
 some out
def Uh (n_:Int)(ap:List (List Int)):Option (LR (List (List Int)×Int) (List (List Int))) :=
 some (.next (ap,w64 (n_+1)))
def Ug (n_:Int)(next:List (List Int)):Option (LR (List (List Int)×Int) (List (List Int))) :=
 Uh n_ next
def Uf (i_:Int)(ew:List (List Int)):Option (LR (List (List Int)×Int) (List (List Int))) :=
 some (.next (ew,w64 (i_+1)))
def ve (inputs:Int)(ai:List (List Int))(i_:Int)(ck:List (List Int))(s_:Int):Option (LR (List (List Int)×Int) (List (List Int))) :=
 bif decide (s_<inputs) then(
  (idx ai i_).bind λco=>
  gd (([]:List Int).length+co.length<=4294967296) <|
  gd (co.length+([s_]:List Int).length<=4294967296) <|
  gd (ck.length+([(co++([s_]:List Int))]:List (List Int)).length<=4294967296) <|
  some (.next ((ck++([(co++([s_]:List Int))]:List (List Int))),w64 (s_+1))))
 else(
  some (.done ck))
def vg (inputs:Int)(ai:List (List Int))(cn:List (List Int))(i_:Int):Option (LR (List (List Int)×Int) (List (List Int))) :=
 bif decide (i_<((ai.length:Nat):Int)) then(
  (loop (λs=>ve inputs ai i_ s.1 s.2) (cn,0)).bind λt7=>
  Uf i_ t7)
 else(
  some (.done cn))
def uq (inputs:Int)(k_:Int)(ai:List (List Int))(n_:Int):Option (LR (List (List Int)×Int) (List (List Int))) :=
 bif decide (n_<k_) then(
  (loop (λs=>vg inputs ai s.1 s.2) (([]:List (List Int)),0)).bind λt5=>
  Ug n_ t5)
 else(
  some (.done ai))
def XD (inputs:Int)(k_:Int):Option (List (List Int)) :=
 (loop (λs=>uq inputs k_ s.1 s.2) (([[]]:List (List Int)),0)).bind λt2=>
 KQ t2
def z13 (out:List (List Int)):Option (List (List Int)) :=
 some out
def qE (inputs:Int)(k_:Int)(ai:List (List Int))(n_:Int):Option (LR (List (List Int)×Int) (List (List Int))) :=
 bif decide (n_<=k_) then(
  (XD inputs n_).bind λr_=>
  gd (ai.length+r_.length<=4294967296) <|
  some (.next ((ai++r_),w64 (n_+1))))
 else(
  some (.done ai))
def Zr (inputs:Int)(k_:Int):Option (List (List Int)) :=
 (loop (λs=>qE inputs k_ s.1 s.2) (([]:List (List Int)),0)).bind λt2=>
 z13 t2
def Q2:Option Int :=
 some 0
def Zd (a_:List Int)(b_:List Int)(i_:Int):Option (LR Int (Unit⊕Int)) :=
 bif decide (i_<((a_.length:Nat):Int)) then(
  (idx a_ i_).bind λcq=>
  (idx b_ i_).bind λct=>
  bif decide (cq<ct) then(
   some (.done (.inr (-1))))
  else(
   (idx a_ i_).bind λgh=>
   (idx b_ i_).bind λkh=>
   bif decide (gh > kh) then(
    some (.done (.inr 1)))
   else(
    some (.next (w64 (i_+1))))))
 else(
  some (.done (.inl ())))
def ui (a_:List Int)(b_:List Int):Option Int :=
 bif ((a_.length:Nat):Int) !=((b_.length:Nat):Int) then(
  bif decide (((a_.length:Nat):Int)<((b_.length:Nat):Int)) then(
   some (-1))
  else(
   some 1))
 else(
  (loop (λs=>Zd a_ b_ s) 0).bind λt2=>
  match t2 with
  | .inl p=>Q2
  | .inr p=>some p)
def Kl (w_:List Int)(gb:Int)(ez:List (List Int)):Option (List (List Int)) :=
 gd (([]:List Int).length+w_.length<=4294967296) <|
 (idx ez gb).bind λcd=>
 some (ez.set gb.toNat w_)
def Uz (gb:Int)(j4:List (List Int))(i_:Int):Option (LR (List (List Int)×Int) (List (List Int))) :=
 bif decide (i_ > gb) then(
  (idx j4 (w64 (i_ - 1))).bind λgi=>
  (idx j4 i_).bind λl6=>
  some (.next ((j4.set i_.toNat gi),w64 (i_ - 1))))
 else(
  some (.done j4))
def XS (l_:List (List Int))(w_:List Int)(gb:Int):Option (List (List Int)) :=
 gd (l_.length+([[]]:List (List Int)).length<=4294967296) <|
 (loop (λs=>Uz gb s.1 s.2) ((l_++([[]]:List (List Int))),w64 ((((l_++([[]]:List (List Int))).length:Nat):Int) - 1))).bind λt4=>
 Kl w_ gb t4
def Km (l_:List (List Int))(w_:List Int)(gb:Int):Option (List (List Int)) :=
 bif decide (gb<((l_.length:Nat):Int)) then(
  (idx l_ gb).bind λnd=>
  (ui nd w_).bind λr_=>
  bif r_==0 then(
   some l_)
  else(
   XS l_ w_ gb))
 else(
  XS l_ w_ gb)
def Uy (l_:List (List Int))(w_:List Int)(js:Int)(kg:Int):Option (LR (Int×Int) Int) :=
 bif decide (js<kg) then(
  gd ((2:Int)≠0) <|
  (idx l_ (w64 (Int.tdiv (w64 (js+kg)) 2))).bind λng=>
  (ui ng w_).bind λaj=>
  bif decide (aj<0) then(
   some (.next (w64 ((w64 (Int.tdiv (w64 (js+kg)) 2))+1),kg)))
  else(
   some (.next (js,w64 (Int.tdiv (w64 (js+kg)) 2)))))
 else(
  some (.done js))
def z0g (l_:List (List Int))(w_:List Int):Option (List (List Int)) :=
 (loop (λs=>Uy l_ w_ s.1 s.2) (0,((l_.length:Nat):Int))).bind λt5=>
 Km l_ w_ t5
def z14 (out:List (List Int)):Option (List (List Int)) :=
 some out
def qG (l_:List (List Int))(ai:List (List Int))(i_:Int):Option (LR (List (List Int)×Int) (List (List Int))) :=
 bif decide (i_<((l_.length:Nat):Int)) then(
  (idx l_ i_).bind λcd=>
  (z0g ai cd).bind λr_=>
  some (.next (r_,w64 (i_+1))))
 else(
  some (.done ai))
def Vw (l_:List (List Int)):Option (List (List Int)) :=
 (loop (λs=>qG l_ s.1 s.2) (([]:List (List Int)),0)).bind λt2=>
 z14 t2
def Yg (m_:z6):Option (List (List Int)) :=
 (XV m_).bind λr_=>
 (Vw r_.1).bind λaj=>
 some aj
def Jh (out:List (List Int)):Option (List (List Int)) :=
 some out
def Wp (i_:Int)(ap:List (List Int)):Option (LR (List (List Int)×Int) (List (List Int))) :=
 some (.next (ap,w64 (i_+1)))
def vB (a_:List (List Int))(b_:List (List Int))(i_:Int)(bf:List (List Int))(k_:Int):Option (LR (List (List Int)×Int) (List (List Int))) :=
 bif decide (k_<((b_.length:Nat):Int)) then(
  (idx a_ i_).bind λcq=>
  gd (([]:List Int).length+cq.length<=4294967296) <|
  (idx b_ k_).bind λct=>
  gd (cq.length+ct.length<=4294967296) <|
  (z0g bf (cq++ct)).bind λr_=>
  some (.next (r_,w64 (k_+1))))
 else(
  some (.done bf))
def vC (a_:List (List Int))(b_:List (List Int))(ai:List (List Int))(i_:Int):Option (LR (List (List Int)×Int) (List (List Int))) :=
 bif decide (i_<((a_.length:Nat):Int)) then(
  (loop (λs=>vB a_ b_ i_ s.1 s.2) (ai,0)).bind λt4=>
  Wp i_ t4)
 else(
  some (.done ai))
def wp (a_:List (List Int))(b_:List (List Int)):Option (List (List Int)) :=
 (loop (λs=>vC a_ b_ s.1 s.2) (([]:List (List Int)),0)).bind λt2=>
 Jh t2
def Ue (m_:z6)(k_:Int):Option (List (List Int)) :=
 (Yg m_).bind λr_=>
 (Zr m_.Inputs k_).bind λaj=>
 (wp r_ aj).bind λak=>
 some ak
def wo (m_:z6):Option (List (List Int)) :=
 (Ue m_ 1).bind λr_=>
 some r_
def Kt (out:List Int):Option (List Int) :=
 some out
def UE (m_:z6)(w_:List Int)(bg:Int)(ai:List Int)(k_:Int):Option (LR (Int×List Int×Int) (List Int)) :=
 bif decide (k_<((w_.length:Nat):Int)) then(
  (idx w_ k_).bind λgu=>
  (QF m_ bg gu).bind λr_=>
  gd (ai.length+([r_.Out]:List Int).length<=4294967296) <|
  some (.next (r_.To,(ai++([r_.Out]:List Int)),w64 (k_+1))))
 else(
  some (.done ai))
def z0j (m_:z6)(s_:Int)(w_:List Int):Option (List Int) :=
 (loop (λs=>UE m_ w_ s.1 s.2.1 s.2.2) (s_,([]:List Int),0)).bind λt2=>
 Kt t2
def Xv:Option Int :=
 some 0
def qm (a_:List Int)(b_:List Int)(i_:Int):Option (LR Int (Unit⊕Int)) :=
 bif decide (i_<((a_.length:Nat):Int)) then(
  (idx a_ i_).bind λcq=>
  (idx b_ i_).bind λct=>
  bif decide (cq<ct) then(
   some (.done (.inr (-1))))
  else(
   (idx a_ i_).bind λgh=>
   (idx b_ i_).bind λkh=>
   bif decide (gh > kh) then(
    some (.done (.inr 1)))
   else(
    some (.next (w64 (i_+1))))))
 else(
  some (.done (.inl ())))
def Qk (a_:List Int)(b_:List Int):Option Int :=
 bif decide (((a_.length:Nat):Int)<((b_.length:Nat):Int)) then(
  some (-1))
 else(
  bif decide (((a_.length:Nat):Int) > ((b_.length:Nat):Int)) then(
   some 1)
  else(
   (loop (λs=>qm a_ b_ s) 0).bind λt2=>
   match t2 with
   | .inl p=>Xv
   | .inr p=>some p))
def z0k (a_:List Int)(b_:List Int):Option Bool :=
 (Qk a_ b_).bind λr_=>
 some (r_==0)
def UC (m_:z6)(w_:List Int)(s_:Int)(t_:Int):Option Int :=
 (z0j m_ s_ w_).bind λr_=>
 (z0j m_ t_ w_).bind λaj=>
 (z0k r_ aj).bind λak=>
 bif ak then(
  some 0)
 else(
  some 1)
def z17 (out:List Int):Option (List Int) :=
 gd (out.length+([0]:List Int).length<=4294967296) <|
 some (out++([0]:List Int))
def z15 (inputs:Int)(ai:List Int)(k_:Int):Option (LR (List Int×Int) (List Int⊕List Int)) :=
 bif decide (k_>=0) then(
  (idx ai k_).bind λco=>
  bif decide ((w64 (co+1))<inputs) then(
   (idx ai k_).bind λic=>
   (idx ai k_).bind λnj=>
   some (.done (.inr (ai.set k_.toNat (w64 (ic+1))))))
  else(
   (idx ai k_).bind λnk=>
   some (.next ((ai.set k_.toNat 0),w64 (k_ - 1)))))
 else(
  some (.done (.inl ai)))
def z3d (w_:List Int)(inputs:Int):Option (List Int) :=
 gd (([]:List Int).length+w_.length<=4294967296) <|
 (loop (λs=>z15 inputs s.1 s.2) (w_,w64 (((w_.length:Nat):Int) - 1))).bind λt2=>
 match t2 with
 | .inl p=>z17 p
 | .inr p=>some p
def Vy:Option (List Int×Bool) :=
 some (([]:List Int),false)
def YI (m_:z6)(s_:Int)(t_:Int)(w_:List Int):Option (LR (List Int) (Unit⊕(List Int×Bool))) :=
 bif decide (((w_.length:Nat):Int)<(mx ((m_.Rows.length:Nat):Int) 2)) then(
  (UC m_ w_ s_ t_).bind λr_=>
  bif r_==1 then(
   some (.done (.inr (w_,true))))
  else(
   (z3d w_ m_.Inputs).bind λaj=>
   some (.next aj)))
 else(
  some (.done (.inl ())))
def vh (m_:z6)(s_:Int)(t_:Int):Option (List Int×Bool) :=
 (loop (λs=>YI m_ s_ t_ s) ([]:List Int)).bind λt2=>
 match t2 with
 | .inl p=>Vy
 | .inr p=>some p
def Ud (out:List (List Int)):Option (List (List Int)) :=
 (Vw out).bind λr_=>
 some r_
def Uc (a_:Int)(ap:List (List Int)):Option (LR (List (List Int)×Int) (List (List Int))) :=
 some (.next (ap,w64 (a_+1)))
def vd (b_:Int)(fq:List (List Int)):Option (LR (List (List Int)×Int) (List (List Int))) :=
 some (.next (fq,w64 (b_+1)))
def Xa (m_:z6)(s_:Int)(a_:Int)(bf:List (List Int))(b_:Int):Option (LR (List (List Int)×Int) (List (List Int))) :=
 bif decide (b_<((m_.Rows.length:Nat):Int)) then(
  bif decide (s_<0) then(
   (vh m_ a_ b_).bind λaj=>
   gd (bf.length+([aj.1]:List (List Int)).length<=4294967296) <|
   vd b_ (bf++([aj.1]:List (List Int))))
  else(
   bif a_==s_ then(
    (vh m_ a_ b_).bind λak=>
    gd (bf.length+([ak.1]:List (List Int)).length<=4294967296) <|
    vd b_ (bf++([ak.1]:List (List Int))))
   else(
    bif b_==s_ then(
     (vh m_ a_ b_).bind λau=>
     gd (bf.length+([au.1]:List (List Int)).length<=4294967296) <|
     vd b_ (bf++([au.1]:List (List Int))))
    else(
     vd b_ bf))))
 else(
  some (.done bf))
def Ub (m_:z6)(s_:Int)(ai:List (List Int))(a_:Int):Option (LR (List (List Int)×Int) (List (List Int))) :=
 bif decide (a_<((m_.Rows.length:Nat):Int)) then(
  (loop (λs=>Xa m_ s_ a_ s.1 s.2) (ai,w64 (a_+1))).bind λt4=>
  Uc a_ t4)
 else(
  some (.done ai))
def Vu (m_:z6)(s_:Int):Option (List (List Int)) :=
 (loop (λs=>Ub m_ s_ s.1 s.2) (([]:List (List Int)),0)).bind λt2=>
 Ud t2
def z0f (m_:z6):Option (List (List Int)) :=
 (Vu m_ (-1)).bind λr_=>
 some r_
def Vs (l_:List (List Int)):Option (List (List Int)) :=
 bif ((l_.length:Nat):Int)==0 then(
  some ([[]]:List (List Int)))
 else(
  some l_)
def UA (a_:List Int)(b_:List Int):Option Bool :=
 bif decide (((a_.length:Nat):Int)<((b_.length:Nat):Int)) then(
  gd ((0:Int)<=0/\(0:Int)<=((a_.length:Nat):Int)/\(((a_.length:Nat):Int):Int)<=((b_.length:Nat):Int)) <|
  (ui a_ ((b_.drop 0).take (((a_.length:Nat):Int).toNat - 0))).bind λr_=>
  some (r_==0))
 else(
  some false)
def Jg (out:List (List Int)):Option (List (List Int)) :=
 some out
def Yh (i_:Int)(ap:List (List Int)):Option (LR (List (List Int)×Int) (List (List Int))) :=
 some (.next (ap,w64 (i_+1)))
def Wo (l_:List (List Int))(ai:List (List Int))(i_:Int)(mp:Bool):Option (LR (List (List Int)×Int) (List (List Int))) :=
 bif !mp then(
  (idx l_ i_).bind λcd=>
  gd (ai.length+([cd]:List (List Int)).length<=4294967296) <|
  Yh i_ (ai++([cd]:List (List Int))))
 else(
  Yh i_ ai)
def vz (l_:List (List Int))(i_:Int)(j8:Bool)(k_:Int):Option (LR (Bool×Int) Bool) :=
 bif decide (k_<((l_.length:Nat):Int)) then(
  bif j8 then(
   some (.next (true,w64 (k_+1))))
  else(
   (idx l_ i_).bind λgi=>
   (idx l_ k_).bind λl6=>
   (UA gi l6).bind λr_=>
   some (.next (r_,w64 (k_+1)))))
 else(
  some (.done j8))
def vA (l_:List (List Int))(ai:List (List Int))(i_:Int):Option (LR (List (List Int)×Int) (List (List Int))) :=
 bif decide (i_<((l_.length:Nat):Int)) then(
  (loop (λs=>vz l_ i_ s.1 s.2) (false,0)).bind λt5=>
  Wo l_ ai i_ t5)
 else(
  some (.done ai))
def kC (l_:List (List Int)):Option (List (List Int)) :=
 (loop (λs=>vA l_ s.1 s.2) (([]:List (List Int)),0)).bind λt2=>
 Jg t2
def z9C (m_:z6)(bound:Int):Option (List (List Int)) :=
 (Zr m_.Inputs (w64 (bound - ((m_.Rows.length:Nat):Int)))).bind λr_=>
 (wo m_).bind λaj=>
 (wp aj r_).bind λak=>
 (z0f m_).bind λau=>
 (Vs au).bind λca=>
 (wp ak ca).bind λdj=>
 (kC dj).bind λgq=>
 some gq
def Qj:Option Bool :=
 some true
def YH (a_:List (List Int))(b_:List (List Int))(i_:Int):Option (LR Int (Unit⊕Bool)) :=
 bif decide (i_<((a_.length:Nat):Int)) then(
  (idx a_ i_).bind λcq=>
  (idx b_ i_).bind λct=>
  (ui cq ct).bind λr_=>
  bif r_ != 0 then(
   some (.done (.inr false)))
  else(
   some (.next (w64 (i_+1)))))
 else(
  some (.done (.inl ())))
def z0h (a_:List (List Int))(b_:List (List Int)):Option Bool :=
 bif ((a_.length:Nat):Int) !=((b_.length:Nat):Int) then(
  some false)
 else(
  (loop (λs=>YH a_ b_ s) 0).bind λt2=>
  match t2 with
  | .inl p=>Qj
  | .inr p=>some p)
def Zw (a_:List (List Int))(b_:List (List Int)):Option Bool :=
 (z0h a_ b_).bind λr_=>
 bif r_ then(
  some (((a_.length:Nat):Int)==((a_.length:Nat):Int)))
 else(
  some false)
def Kn:Option Bool :=
 some false
def XT (l_:List (List Int))(w_:List Int)(i_:Int):Option (LR Int (Unit⊕Bool)) :=
 bif decide (i_<((l_.length:Nat):Int)) then(
  (idx l_ i_).bind λcd=>
  (ui cd w_).bind λr_=>
  bif r_==0 then(
   some (.done (.inr true)))
  else(
   some (.next (w64 (i_+1)))))
 else(
  some (.done (.inl ())))
def z2z (l_:List (List Int))(w_:List Int):Option Bool :=
 (loop (λs=>XT l_ w_ s) 0).bind λt2=>
 match t2 with
 | .inl p=>Kn
 | .inr p=>some p
def KP (out:List (List Int)):Option (List (List Int)) :=
 some out
def Xb (i_:Int)(ap:List (List Int)):Option (LR (List (List Int)×Int) (List (List Int))) :=
 some (.next (ap,w64 (i_+1)))
def uo (a_:List (List Int))(b_:List (List Int))(ai:List (List Int))(i_:Int):Option (LR (List (List Int)×Int) (List (List Int))) :=
 bif decide (i_<((a_.length:Nat):Int)) then(
  (idx a_ i_).bind λcq=>
  (z2z b_ cq).bind λr_=>
  bif !r_ then(
   (idx a_ i_).bind λgh=>
   gd (ai.length+([gh]:List (List Int)).length<=4294967296) <|
   Xb i_ (ai++([gh]:List (List Int))))
  else(
   Xb i_ ai))
 else(
  some (.done ai))
def Vx (a_:List (List Int))(b_:List (List Int)):Option (List (List Int)) :=
 (loop (λs=>uo a_ b_ s.1 s.2) (([]:List (List Int)),0)).bind λt2=>
 KP t2
def z5o (m_:z6)(s_:Int):Option (List (List Int)) :=
 (Vu m_ s_).bind λr_=>
 some r_
def Vv (a_:List (List Int))(b_:List (List Int)):Option (List (List Int)) :=
 gd (([]:List (List Int)).length+a_.length<=4294967296) <|
 gd (a_.length+b_.length<=4294967296) <|
 (Vw (a_++b_)).bind λr_=>
 some r_
def Vt (out:List (List Int)):Option (List (List Int)) :=
 some out
def xK (m_:z6)(l_:List (List Int))(ai:List (List Int))(i_:Int):Option (LR (List (List Int)×Int) (List (List Int))) :=
 bif decide (i_<((l_.length:Nat):Int)) then(
  (idx l_ i_).bind λcd=>
  (Jl m_ 0 cd).bind λr_=>
  (z5o m_ r_).bind λaj=>
  (Vs aj).bind λak=>
  gd ((0:Int)<=i_/\(i_:Int)<=w64 (i_+1)/\(w64 (i_+1):Int)<=((l_.length:Nat):Int)) <|
  (wp ((l_.drop i_.toNat).take ((w64 (i_+1)).toNat - i_.toNat)) ak).bind λau=>
  (Vv ai au).bind λca=>
  some (.next (ca,w64 (i_+1))))
 else(
  some (.done ai))
def qV (m_:z6)(l_:List (List Int)):Option (List (List Int)) :=
 (loop (λs=>xK m_ l_ s.1 s.2) (([]:List (List Int)),0)).bind λt2=>
 Vt t2
def z5n (m_:z6)(bound:Int):Option (List (List Int)) :=
 (Yg m_).bind λr_=>
 (wo m_).bind λaj=>
 (Vx aj r_).bind λak=>
 (Zr m_.Inputs (w64 (bound - ((m_.Rows.length:Nat):Int)))).bind λau=>
 (wp r_ au).bind λca=>
 (z0f m_).bind λdj=>
 (Vs dj).bind λgq=>
 (wp ca gq).bind λgf=>
 (XD m_.Inputs (w64 (bound - ((m_.Rows.length:Nat):Int)))).bind λk9=>
 (wp ak k9).bind λjf=>
 (qV m_ jf).bind λip=>
 (Vv gf ip).bind λlf=>
 (kC lf).bind λpf=>
 some pf
def z2y (m_:z6)(bound:Int):Option (List (List Int)) :=
 (Zr m_.Inputs (w64 (bound - ((m_.Rows.length:Nat):Int)))).bind λr_=>
 (wo m_).bind λaj=>
 (wp aj r_).bind λak=>
 (qV m_ ak).bind λau=>
 (kC au).bind λca=>
 some ca
def z1e:Option z6 :=
 some (z6.mk 2 2 ([[(z8.mk 1 0),(z8.mk 0 0)],[(z8.mk 2 0),(z8.mk 1 1)],[(z8.mk 0 1),(z8.mk 2 0)]]))
def z1d:Option Bool :=
 (z1e).bind λr_=>
 (Qd r_ 3 8).bind λaj=>
 (z0d r_ 3 4096).bind λak=>
 (QE r_ 3 4096).bind λau=>
 bif aj.2 != 0 then(
  some false)
 else(
  bif ak.2 != 0 then(
   some false)
  else(
   bif au.2 != 0 then(
    some false)
   else(
    (Zw aj.1 ([[1,0],[1,1],[0,1,0],[0,1,1],[0,0,0,0],[0,0,0,1],[0,0,1,0],[0,0,1,1]])).bind λca=>
    bif !ca then(
     some false)
    else(
     gd ((0:Int)<=0/\(0:Int)<=7/\(7:Int)<=((([[1,0],[1,1],[0,1,0],[0,1,1],[0,0,0,0],[0,0,0,1],[0,0,1,0],[0,0,1,1]]:List (List Int)).length:Nat):Int)) <|
     (Zw ak.1 ((([[1,0],[1,1],[0,1,0],[0,1,1],[0,0,0,0],[0,0,0,1],[0,0,1,0],[0,0,1,1]]:List (List Int)).drop 0).take ((7:Int).toNat - 0))).bind λdj=>
     bif !dj then(
      some false)
     else(
      gd ((0:Int)<=0/\(0:Int)<=7/\(7:Int)<=((([[1,0],[1,1],[0,1,0],[0,1,1],[0,0,0,0],[0,0,0,1],[0,0,1,0],[0,0,1,1]]:List (List Int)).length:Nat):Int)) <|
      (Zw au.1 ((([[1,0],[1,1],[0,1,0],[0,1,1],[0,0,0,0],[0,0,0,1],[0,0,1,0],[0,0,1,1]]:List (List Int)).drop 0).take ((7:Int).toNat - 0))).bind λgq=>
      bif !gq then(
       some false)
      else(
       (Qd r_ 2 9).bind λgf=>
       (Qd r_ 8 9).bind λk9=>
       (Qd r_ 3 7).bind λjf=>
       (XP r_ 3).bind λip=>
       bif gf.2==1 then(
        bif k9.2==1 then(
         bif jf.2==13 then(
          bif ip.2==0 then(
           some ((ip.1.e0==8)&&((ip.1.e1==7)&&((ip.1.e2==7)&&true))))
          else(
           some false))
         else(
          some false))
        else(
         some false))
       else(
        some false)))))))
def YP (x_:qM)(fe:Int):Option Bool :=
 (z0p (qM.mk x_.C)).bind λr_=>
 gd ((3:Int)≠0) <|
 (Qd r_ (w64 (((r_.Rows.length:Nat):Int)+(w64 (Int.tmod fe 3)))) 4096).bind λaj=>
 (z0d r_ (w64 (((r_.Rows.length:Nat):Int)+(w64 (Int.tmod fe 3)))) 4096).bind λak=>
 (QE r_ (w64 (((r_.Rows.length:Nat):Int)+(w64 (Int.tmod fe 3)))) 4096).bind λau=>
 (XP r_ (w64 (((r_.Rows.length:Nat):Int)+(w64 (Int.tmod fe 3))))).bind λca=>
 bif aj.2 != 0 then(
  some false)
 else(
  bif ak.2 != 0 then(
   some false)
  else(
   bif au.2 != 0 then(
    some false)
   else(
    bif ca.2 != 0 then(
     some false)
    else(
     (z9C r_ (w64 (((r_.Rows.length:Nat):Int)+(w64 (Int.tmod fe 3))))).bind λdj=>
     (Zw aj.1 dj).bind λgq=>
     bif !gq then(
      some false)
     else(
      (z5n r_ (w64 (((r_.Rows.length:Nat):Int)+(w64 (Int.tmod fe 3))))).bind λgf=>
      (Zw ak.1 gf).bind λk9=>
      bif !k9 then(
       some false)
      else(
       (z2y r_ (w64 (((r_.Rows.length:Nat):Int)+(w64 (Int.tmod fe 3))))).bind λjf=>
       (Zw au.1 jf).bind λip=>
       bif !ip then(
        some false)
       else(
        bif (ca.1.e0==((aj.1.length:Nat):Int))&&((ca.1.e1==((ak.1.length:Nat):Int))&&((ca.1.e2==((au.1.length:Nat):Int))&&true)) then(
         (z1d).bind λlf=>
         some lf)
        else(
         some false))))))))
abbrev F0_:=z5w (eI .i64)
abbrev F1_:=Jy (eI .i32)
abbrev F2_:=eSl 1 false (eI .u8)
abbrev F3_:=eSl 1 true (eI .i64)
abbrev F4_:=eOs 1 true (eI .i64)
abbrev F5_:=eSl 1 false (eI .u16)
abbrev F6_:=eOs 1 false (eI .i64)
abbrev F7_:=eSl 1 false (eI .i64)
abbrev F8_:=Jy F0_
abbrev F9_:=qn (eI .i64) (eI .i64)
abbrev zyX:=eOs 16 false F1_
abbrev zyW:=eSl 16 false F1_
abbrev Us:=eSl 1 true F3_
abbrev zyV:=eOs 1 true F3_
abbrev zfy:=eSl 1 true F7_
abbrev xh:=eSl 1 false F7_
abbrev z4S:=eOs 1 false F7_
abbrev zpM:=eSp xh
abbrev zCj:=eSl 2 true F9_
abbrev yN:=eSl 2 false F9_
abbrev ZI:=eOs 2 false F9_
abbrev W6:=Jx (eI .i64) (eI .i64) (eI .i64)
abbrev z2f:=w8 (eI .i32) F7_
abbrev zCi:=eSl 1 false xh
abbrev z6q:=z1j (eI .i64) F8_
abbrev zDp:=eSl 1 true zCj
abbrev zDo:=eSl 1 false yN
abbrev z09:=yX zyW (eI .i64) (eI .i64)
abbrev z37:=Xi (eI .u8) (eI .u8) (eI .u8) F2_ F5_
abbrev zqE:=kV (eI .i64) (eI .i64) zDp
abbrev zO:=kV (eI .i64) (eI .i64) zDo
abbrev z6m:=eSp zO
abbrev X1:=YV zO xh xh xh zCi xh xh
abbrev zqD:=eSp X1
def rpN {α:Type _}(n:Nat)(a:α)(l:List α):List α:=Nat.rec l (λ_ r=>a::r) n
abbrev aLn (n:Nat):H:=.a (.atom (.int .i64 ((n:Nat):Int)))
end Go.Own
