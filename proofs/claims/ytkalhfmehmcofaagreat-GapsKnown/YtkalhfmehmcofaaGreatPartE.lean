/- -/
import Derived.Test.YtkalhfmehmcofaaGreatPartB
import Derived.Test.YtkalhfmehmcofaaGreatProg
import Derived.Test.YtkalhfmehmcofaaGreatPartD
import Derived.Test.YtkalhfmehmcofaaGreatChecked
import Derived.Lib.AppendZerosOnto
import Derived.Lib.SliceRun
import Derived.WalkKit
import Derived.Lib.Walk
import Derived.Recover
import Derived.Defers
import Derived.Tactics2
import Derived.Test.YtkalhfmehmcofaaGreatPartC
import Derived.Shelf.SlSortCmp.NoneTotal
import Derived.Ground.SlsfProg
set_option linter.unusedVariables false
set_option linter.unusedSimpArgs false
namespace Go.Ex
open Go.Proofs
theorem q5 : EqP Tryz.prog 5 [.int .u8 0] false 1 := UW (k := .int .u8) Tryz.underlying5 ⟨_, (by kernel_rfl : Tryz.prog.info? 5 = some Tryz.t5), rfl⟩ rfl
theorem q31 : EqP Tryz.prog 31 (z1E 2 [.int .u8 0]) true 2 := uD Tryz.underlying31 q5 ⟨_, (by kernel_rfl : Tryz.prog.info? 31 = some Tryz.t31), rfl⟩
def i32 : EI := ⟨.slice 72, 1, 24, some [.slice none 0 0], false⟩
theorem q3 : EqP Tryz.prog 3 [.int .i64 0] false 1 := UW (k := .int .i64) Tryz.underlying3 ⟨_, (by kernel_rfl : Tryz.prog.info? 3 = some Tryz.t3), rfl⟩ rfl
theorem q53 : EqP Tryz.prog 53 (Zf [([.int .i64 0], false), ([.int .i64 0], false)]) true 2 := qr Tryz.underlying53 (by kernel_rfl) ⟨_, (by kernel_rfl : Tryz.prog.info? 53 = some Tryz.t53), rfl⟩ (by decide) (zU.cons (by decide) rfl (q3.mono (by decide)) (zU.cons (by decide) rfl (q3.mono (by decide)) (zU.nil)))
theorem q54 : EqP Tryz.prog 54 (Zf [([.int .i64 0], false), ([.int .i64 0], false)]) true 2 := qr Tryz.underlying54 (by kernel_rfl) ⟨_, (by kernel_rfl : Tryz.prog.info? 54 = some Tryz.t54), rfl⟩ (by decide) (zU.cons (by decide) rfl (q3.mono (by decide)) (zU.cons (by decide) rfl (q3.mono (by decide)) (zU.nil)))
theorem q58 : EqP Tryz.prog 58 (z1E 3 [.int .u8 0]) true 2 := uD Tryz.underlying58 q5 ⟨_, (by kernel_rfl : Tryz.prog.info? 58 = some Tryz.t58), rfl⟩
def i64 : EI := ⟨.func, 1, 8, some [.nilFunc], false⟩
theorem q40 : EqP Tryz.prog 40 [.int .i64 0] false 1 := UW (k := .int .i64) Tryz.underlying40 ⟨_, (by kernel_rfl : Tryz.prog.info? 40 = some Tryz.t40), rfl⟩ rfl
theorem zg1 : EqP Tryz.prog 133 (z1E 5 [.int .i64 0]) true 2 := uD Tryz.underlying133 q40 ⟨_, (by kernel_rfl : Tryz.prog.info? 133 = some Tryz.t133), rfl⟩
theorem q21 : EqP Tryz.prog 21 [.int .i32 0] false 1 := UW (k := .int .i32) Tryz.underlying21 ⟨_, (by kernel_rfl : Tryz.prog.info? 21 = some Tryz.t21), rfl⟩ rfl
theorem zgg : EqP Tryz.prog 146 (z1E 16 [.int .i32 0]) true 2 := uD Tryz.underlying146 q21 ⟨_, (by kernel_rfl : Tryz.prog.info? 146 = some Tryz.t146), rfl⟩
theorem zg0 : EqP Tryz.prog 147 (z1E 16 [.int .i32 0]) true 2 := uD Tryz.underlying147 q21 ⟨_, (by kernel_rfl : Tryz.prog.info? 147 = some Tryz.t147), rfl⟩
theorem zdh : EqP Tryz.prog 158 (z1E 2 [.int .i64 0]) true 2 := uD Tryz.underlying158 q3 ⟨_, (by kernel_rfl : Tryz.prog.info? 158 = some Tryz.t158), rfl⟩
theorem zgf : EqP Tryz.prog 218 (Zf [([.int .i64 0], false), ([.int .i64 0], false), ([.int .i64 0], false)]) true 2 := qr Tryz.underlying218 (by kernel_rfl) ⟨_, (by kernel_rfl : Tryz.prog.info? 218 = some Tryz.t218), rfl⟩ (by decide) (zU.cons (by decide) rfl (q3.mono (by decide)) (zU.cons (by decide) rfl (q3.mono (by decide)) (zU.cons (by decide) rfl (q3.mono (by decide)) (zU.nil))))
theorem zfZ : EqP Tryz.prog 219 (Zf [([.int .i64 0], false), ([.int .i64 0], false), ([.int .i64 0], false)]) true 2 := qr Tryz.underlying219 (by kernel_rfl) ⟨_, (by kernel_rfl : Tryz.prog.info? 219 = some Tryz.t219), rfl⟩ (by decide) (zU.cons (by decide) rfl (q3.mono (by decide)) (zU.cons (by decide) rfl (q3.mono (by decide)) (zU.cons (by decide) rfl (q3.mono (by decide)) (zU.nil))))
theorem zge : EqP Tryz.prog 230 (z1E 16 [.int .i64 0, .int .i64 0]) true 3 := uD Tryz.underlying230 zdh ⟨_, (by kernel_rfl : Tryz.prog.info? 230 = some Tryz.t230), rfl⟩
theorem zdg : EqP Tryz.prog 231 (z1E 16 [.int .i64 0, .int .i64 0]) true 3 := uD Tryz.underlying231 zdh ⟨_, (by kernel_rfl : Tryz.prog.info? 231 = some Tryz.t231), rfl⟩
theorem zgd : EqP Tryz.prog 233 (Zf [([.int .i64 0], false), ([.int .i64 0, .int .i64 0, .int .i64 0, .int .i64 0, .int .i64 0, .int .i64 0, .int .i64 0, .int .i64 0, .int .i64 0, .int .i64 0, .int .i64 0, .int .i64 0, .int .i64 0, .int .i64 0, .int .i64 0, .int .i64 0, .int .i64 0, .int .i64 0, .int .i64 0, .int .i64 0, .int .i64 0, .int .i64 0, .int .i64 0, .int .i64 0, .int .i64 0, .int .i64 0, .int .i64 0, .int .i64 0, .int .i64 0, .int .i64 0, .int .i64 0, .int .i64 0], true)]) true 4 := qr Tryz.underlying233 (by kernel_rfl) ⟨_, (by kernel_rfl : Tryz.prog.info? 233 = some Tryz.t233), rfl⟩ (by decide) (zU.cons (by decide) rfl (q3.mono (by decide)) (zU.cons (by decide) rfl (zdg.mono (by decide)) (zU.nil)))
theorem zeM : EqP Tryz.prog 234 (Zf [([.int .i64 0], false), ([.int .i64 0, .int .i64 0, .int .i64 0, .int .i64 0, .int .i64 0, .int .i64 0, .int .i64 0, .int .i64 0, .int .i64 0, .int .i64 0, .int .i64 0, .int .i64 0, .int .i64 0, .int .i64 0, .int .i64 0, .int .i64 0, .int .i64 0, .int .i64 0, .int .i64 0, .int .i64 0, .int .i64 0, .int .i64 0, .int .i64 0, .int .i64 0, .int .i64 0, .int .i64 0, .int .i64 0, .int .i64 0, .int .i64 0, .int .i64 0, .int .i64 0, .int .i64 0], true)]) true 4 := qr Tryz.underlying234 (by kernel_rfl) ⟨_, (by kernel_rfl : Tryz.prog.info? 234 = some Tryz.t234), rfl⟩ (by decide) (zU.cons (by decide) rfl (q3.mono (by decide)) (zU.cons (by decide) rfl (zdg.mono (by decide)) (zU.nil)))
end Go.Ex

namespace Go.Own
open Go.Proofs
def zcx : Value → Bool
 | .int _ _ => true
 | _ => false
theorem z1t : ∀ {z vs us : List Value} {r : Bool}, z.all zcx = true → z.length = vs.length → yg vs us = some r → Go.Ex.z0r z vs = true ∧ Go.Ex.yg vs us = some r
 | [], [], us, r, _, _, h => by
  cases us with
  | nil => simp only [yg, Option.some.injEq] at h; subst h; exact ⟨rfl, rfl⟩
  | cons u us => simp [yg] at h
 | a :: z, v :: vs, us, r, hz, hl, h => by
  have q : ∃ k x u' k' y, v = .int k x ∧ us = .int k' y :: u' ∧ k = k' := by
   cases us with
   | nil => cases v <;> simp [yg] at h
   | cons u us =>
    cases v <;> cases u <;> simp [yg] at h
    exact ⟨_, _, _, _, _, rfl, rfl, h.1⟩
  obtain ⟨k, x, u', k', y, rfl, rfl, hk⟩ := q
  simp only [yg, hk, if_true, Option.map_eq_some_iff] at h
  obtain ⟨r', e1, rfl⟩ := h
  simp only [List.all_cons, Bool.and_eq_true] at hz
  obtain ⟨q1, q2⟩ := z1t hz.2 (by simpa using hl) e1
  refine ⟨?_, by simp [Go.Ex.yg, hk, q2]⟩
  cases a <;> first | (simp [zcx] at hz; done) | simpa [Go.Ex.z0r] using q1
 | [], _ :: _, _, _, _, hl, _ => by simp at hl
 | _ :: _, [], _, _, _, hl, _ => by simp at hl
variable {P : Program}{z : List Value}
theorem z9p {t n : Nat} {i : Go.Ex.EI} (h : Go.Ex.z5o P t i)  (hz : i.zero = some z) (hi : z.all zcx = true) (hs : i.size = n) (hn : z.length = n) : z5o P t n := {
 guard := h.guard
 run := fun vs us r w hv hu he => by
  obtain ⟨q1, q2⟩ := z1t hi (by rw [hn, hv]) he
  exact h.run vs us r w (by rw [hs]; exact hv) (by rw [hs]; exact hu) (by simpa only [Go.Ex.zdE, hz] using q1) q2 }
theorem exq {t dep : Nat}  (q : Go.Ex.EqP P t z true dep) (h1 : Nat.ble dep P.depth = true := by kernel_rfl) (h2 : dep ≤ 10000 := by decide) : Go.Ex.z5o P t ⟨.func, z.length, 0, some z, true⟩ := Go.Ex.z9o q rfl rfl (Nat.le_of_ble_eq_true h1) h2
theorem Jf {t n dep : Nat}  (q : Go.Ex.EqP P t z true dep) (hi : z.all zcx = true) (hn : z.length = n) (h1 : Nat.ble dep P.depth = true := by kernel_rfl) (h2 : dep ≤ 10000 := by decide) : z5o P t n := z9p (exq q h1 h2) rfl hi hn hn
variable {h : Array Obj}{S : zf}
theorem z4R {v : Value} (hv : v.oneCell' = true) : zw S h (.atom v) [v] [] := by simp only [zw, Rep]; exact ⟨⟨trivial, hv⟩, trivial⟩
theorem z7b (sz : Nat) : zw S h (.osl sz true []) [.slice none 0 0] [] := by
 simp only [zw]
 exact ⟨none, 0, rfl, (fun _ => rfl), Nat.le_refl _, Nat.zero_le _, by simp, .inl ⟨trivial, rfl, rfl, trivial⟩⟩
theorem z34 {sz : Nat} : zw S h (.dop (nlQ sz [])) [.slice none 0 0] [] := by
 simp only [zw, Rep]
 exact ⟨⟨_, rfl, z4k.2 ⟨by simp [Rep], fun _ => rfl⟩⟩, trivial⟩
variable {a : A}
theorem V3 {c : List Value} (q : zw S h a c []) : ∀ n, zC S h (List.replicate n a) (List.replicate n c).flatten []
 | 0 => by simp [zC]
 | n + 1 => by
  rw [List.replicate_succ, List.replicate_succ, List.flatten_cons]
  simp only [zC]
  exact ⟨c, _, [], [], rfl, rfl, q, V3 q n⟩
theorem zc9 {c c' : List Value} (q : zw S h a c []) (e : c' = c) : zw S h a c' [] := e ▸ q
variable {fs : List A}
theorem UX {cs : List Value} (q : zC S h fs cs []) : zw S h (.agg fs) cs [] := by simpa only [zw] using q
theorem z4P : zC S h [] [] [] := by simp [zC]
theorem z4Q {c1 c2 : List Value} (q1 : zw S h a c1 []) (q2 : zC S h fs c2 []) : zC S h (a :: fs) (c1 ++ c2) [] := by simp only [zC]; exact ⟨c1, c2, [], [], rfl, rfl, q1, q2⟩
def zc : A → Option (List Value)
 | .atom v => if v.oneCell' = true then some [v] else none
 | .osl _ true [] => some [.slice none 0 0]
 | .agg fs => zcs fs
 | _ => none
where zcs : List A → Option (List Value)
 | [] => some []
 | a :: l => match zc a, zcs l with | some c, some d => some (c ++ d) | _, _ => none
mutual
theorem za6 : ∀ {a : A} {c : List Value}, zc a = some c → zw S h a c []
 | .atom v, c, e => by
  simp only [zc] at e
  split at e
  ·rename_i q; cases e; exact z4R q
  ·cases e
 | .osl sz true [], c, e => by simp only [zc] at e; cases e; exact z7b sz
 | .agg fs, c, e => UX (z7G (by simpa only [zc] using e))
theorem z7G : ∀ {l : List A} {c : List Value}, zc.zcs l = some c → zC S h l c []
 | [], c, e => by simp only [zc.zcs] at e; cases e; exact z4P
 | a :: l, c, e => by
  simp only [zc.zcs] at e
  split at e
  ·rename_i c d e1 e2; cases e; exact z4Q (za6 e1) (z7G e2)
  ·cases e
end
def zq (z : Option A) (v : Option Value) (n : Nat) : Prop := match z, v with | some z, some v => z.size = n ∧ zc z = some v.cells.toList | none, _ => True | _, _ => False
theorem tiq {t : Nat} {i : TI} (f : TypeInfo) (k : Jn P t i.kind) (e : i.eqn = true → z5o P t i.size := by intro h; cases h) (h : P.info? t = some f := by kernel_rfl) (h2 : f.size = i.size := by rfl) (h3 : f.bytes = i.bytes := by rfl) (h4 : zq i.zero f.zero i.size := by exact And.intro rfl rfl) : xH P t i :=
 ⟨⟨f, h, h2, h3, fun z hz => by
  rw [hz] at h4
  cases hv : f.zero with
  | none => rw [hv] at h4; exact h4.elim
  | some v => rw [hv] at h4; exact ⟨v, rfl, h4.1, fun S h => za6 h4.2⟩⟩, k, e⟩
def ti1 : TI := ⟨.other, 1, 8, some (.atom .nilFunc), false⟩
theorem zaA : xH Tryz.prog 1 ti1 := tiq Tryz.t1 ⟨_, Tryz.underlying1, rfl⟩
def ti2 : TI := ⟨.int .i64, 1, 8, some (.atom (.int .i64 0)), false⟩
theorem zah : xH Tryz.prog 2 ti2 := tiq Tryz.t2 Tryz.underlying2
def ti3 : TI := ⟨.int .i64, 1, 8, some (.atom (.int .i64 0)), false⟩
theorem zag : xH Tryz.prog 3 ti3 := tiq Tryz.t3 Tryz.underlying3
def ti4 : TI := ⟨.bool, 1, 1, some (.atom (.bool false)), false⟩
theorem zaf : xH Tryz.prog 4 ti4 := tiq Tryz.t4 Tryz.underlying4
def ti5 : TI := ⟨.int .u8, 1, 1, some (.atom (.int .u8 0)), false⟩
theorem zae : xH Tryz.prog 5 ti5 := tiq Tryz.t5 Tryz.underlying5
def ti9 : TI := ⟨.str, 1, 16, some (.atom (.string ⟨#[]⟩)), false⟩
theorem zad : xH Tryz.prog 9 ti9 := tiq Tryz.t9 Tryz.underlying9
def zeB : TI := ⟨.other, 1, 16, some (.atom .nilIface), false⟩
theorem z8C : xH Tryz.prog 20 zeB := tiq Tryz.t20 ⟨_, Tryz.underlying20, rfl⟩
def zeA : TI := ⟨.int .i32, 1, 4, some (.atom (.int .i32 0)), false⟩
theorem z8B : xH Tryz.prog 21 zeA := tiq Tryz.t21 Tryz.underlying21
def zez : TI := ⟨.slice 5, 1, 24, some (.osl 1 true []), false⟩
theorem z8A : xH Tryz.prog 22 zez := tiq Tryz.t22 Tryz.underlying22
def zey : TI := ⟨.struct [(0, 1), (1, 1)], 2, 32, some (.agg [.atom (.int .u8 0), .osl 1 true []]), false⟩
theorem z8z : xH Tryz.prog 29 zey := tiq Tryz.t29 ⟨_, Tryz.underlying29, by kernel_rfl, by
  intro f hf
  simp only [List.mem_cons, List.not_mem_nil, or_false] at hf
  rcases hf with rfl | rfl
  ·exact ⟨Tryz.t5, by kernel_rfl⟩
  ·exact ⟨Tryz.t28, by kernel_rfl⟩⟩
def zex : TI := ⟨.slice 72, 1, 24, some (.osl 1 true []), false⟩
theorem z8y : xH Tryz.prog 32 zex := tiq Tryz.t32 Tryz.underlying32
def zew : TI := ⟨.struct [(0, 1), (1, 1), (2, 1)], 3, 40, some (.agg [.atom (.int .i64 0), .atom (.int .i64 0), .osl 1 true []]), false⟩
theorem z8x : xH Tryz.prog 33 zew := tiq Tryz.t33 ⟨_, Tryz.underlying33, by kernel_rfl, by
  intro f hf
  simp only [List.mem_cons, List.not_mem_nil, or_false] at hf
  rcases hf with rfl | rfl | rfl
  ·exact ⟨Tryz.t3, by kernel_rfl⟩
  ·exact ⟨Tryz.t3, by kernel_rfl⟩
  ·exact ⟨Tryz.t32, by kernel_rfl⟩⟩
def zev : TI := ⟨.struct [(0, 1), (1, 1), (2, 1)], 3, 40, some (.agg [.atom (.int .i64 0), .atom (.int .i64 0), .osl 1 true []]), false⟩
theorem z8w : xH Tryz.prog 34 zev := tiq Tryz.t34 ⟨_, Tryz.underlying34, by kernel_rfl, by
  intro f hf
  simp only [List.mem_cons, List.not_mem_nil, or_false] at hf
  rcases hf with rfl | rfl | rfl
  ·exact ⟨Tryz.t3, by kernel_rfl⟩
  ·exact ⟨Tryz.t3, by kernel_rfl⟩
  ·exact ⟨Tryz.t32, by kernel_rfl⟩⟩
def zeu : TI := ⟨.slice 57, 1, 24, some (.osl 1 true []), false⟩
theorem z8v : xH Tryz.prog 37 zeu := tiq Tryz.t37 Tryz.underlying37
def zet : TI := ⟨.int .i64, 1, 8, some (.atom (.int .i64 0)), false⟩
theorem z8u : xH Tryz.prog 40 zet := tiq Tryz.t40 Tryz.underlying40
def zes : TI := ⟨.other, 1, 8, some (.atom .nilFunc), false⟩
theorem z8t : xH Tryz.prog 49 zes := tiq Tryz.t49 ⟨_, Tryz.underlying49, rfl⟩
def zer : TI := ⟨.struct [(0, 1), (1, 1)], 2, 16, some (.agg [.atom (.int .i64 0), .atom (.int .i64 0)]), true⟩
theorem z8s : xH Tryz.prog 54 zer := tiq Tryz.t54 ⟨_, Tryz.underlying54, by kernel_rfl, by
  intro f hf
  simp only [List.mem_cons, List.not_mem_nil, or_false] at hf
  rcases hf with rfl | rfl
  ·exact ⟨Tryz.t3, by kernel_rfl⟩
  ·exact ⟨Tryz.t3, by kernel_rfl⟩⟩ (fun _ => Jf Go.Ex.q54 rfl rfl)
def zeq : TI := ⟨.slice 3, 1, 24, some (.osl 1 true []), false⟩
theorem z8r : xH Tryz.prog 57 zeq := tiq Tryz.t57 Tryz.underlying57
def zep : TI := ⟨.other, 1, 8, some (.atom .nilFunc), false⟩
theorem z8q : xH Tryz.prog 68 zep := tiq Tryz.t68 ⟨_, Tryz.underlying68, rfl⟩
def zeo : TI := ⟨.struct [(0, 3), (3, 1), (4, 1)], 5, 72, some (.agg [.agg [.atom (.int .i64 0), .atom (.int .i64 0), .osl 1 true []], .osl 1 true [], .atom .nilFunc]), false⟩
theorem z8p : xH Tryz.prog 70 zeo := tiq Tryz.t70 ⟨_, Tryz.underlying70, by kernel_rfl, by
  intro f hf
  simp only [List.mem_cons, List.not_mem_nil, or_false] at hf
  rcases hf with rfl | rfl | rfl
  ·exact ⟨Tryz.t34, by kernel_rfl⟩
  ·exact ⟨Tryz.t37, by kernel_rfl⟩
  ·exact ⟨Tryz.t68, by kernel_rfl⟩⟩
def zen : TI := ⟨.other, 1, 8, some (.atom .nilFunc), false⟩
theorem z8o : xH Tryz.prog 71 zen := tiq Tryz.t71 ⟨_, Tryz.underlying71, rfl⟩
def zem : TI := ⟨.slice 54, 1, 24, some (.osl 2 true []), false⟩
theorem z8n : xH Tryz.prog 72 zem := tiq Tryz.t72 Tryz.underlying72
def zel : TI := ⟨.struct [], 0, 0, some (.agg []), false⟩
theorem z8m : xH Tryz.prog 80 zel := tiq Tryz.t80 ⟨_, Tryz.underlying80, by kernel_rfl, by
  intro f hf
  cases hf⟩
def zek : TI := ⟨.struct [], 0, 0, some (.agg []), false⟩
theorem z8l : xH Tryz.prog 81 zek := tiq Tryz.t81 ⟨_, Tryz.underlying81, by kernel_rfl, by
  intro f hf
  cases hf⟩
def zej : TI := ⟨.struct [], 0, 0, some (.agg []), false⟩
theorem z8k : xH Tryz.prog 82 zej := tiq Tryz.t82 ⟨_, Tryz.underlying82, by kernel_rfl, by
  intro f hf
  cases hf⟩
def zei : TI := ⟨.struct [], 0, 0, some (.agg []), false⟩
theorem z8j : xH Tryz.prog 83 zei := tiq Tryz.t83 ⟨_, Tryz.underlying83, by kernel_rfl, by
  intro f hf
  cases hf⟩
def zeh : TI := ⟨.slice 4, 1, 24, some (.osl 1 true []), false⟩
theorem z8i : xH Tryz.prog 87 zeh := tiq Tryz.t87 Tryz.underlying87
def zeg : TI := ⟨.other, 1, 8, some (.atom .nilFunc), false⟩
theorem z8h : xH Tryz.prog 96 zeg := tiq Tryz.t96 ⟨_, Tryz.underlying96, rfl⟩
def zef : TI := ⟨.other, 1, 8, some (.atom .nilFunc), false⟩
theorem z8g : xH Tryz.prog 97 zef := tiq Tryz.t97 ⟨_, Tryz.underlying97, rfl⟩
def zee : TI := ⟨.other, 1, 8, some (.atom .nilFunc), false⟩
theorem z8f : xH Tryz.prog 98 zee := tiq Tryz.t98 ⟨_, Tryz.underlying98, rfl⟩
def zb9 : TI := ⟨.other, 1, 16, some (.atom .nilIface), false⟩
theorem z6i : xH Tryz.prog 104 zb9 := tiq Tryz.t104 ⟨_, Tryz.underlying104, rfl⟩
def zb8 : TI := ⟨.ptr 132, 1, 8, some (.atom (.pointer none)), false⟩
theorem z6h : xH Tryz.prog 105 zb8 := tiq Tryz.t105 Tryz.underlying105
def zb7 : TI := ⟨.ptr 141, 1, 8, some (.atom (.pointer none)), false⟩
theorem z6g : xH Tryz.prog 108 zb7 := tiq Tryz.t108 Tryz.underlying108
def zb6 : TI := ⟨.other, 1, 8, some (.atom .nilFunc), false⟩
theorem z6f : xH Tryz.prog 110 zb6 := tiq Tryz.t110 ⟨_, Tryz.underlying110, rfl⟩
def zb5 : TI := ⟨.slice 34, 1, 24, some (.osl 3 true []), false⟩
theorem z6e : xH Tryz.prog 111 zb5 := tiq Tryz.t111 Tryz.underlying111
def zb4 : TI := ⟨.slice 37, 1, 24, some (.osl 1 true []), false⟩
theorem z6d : xH Tryz.prog 113 zb4 := tiq Tryz.t113 Tryz.underlying113
def zb3 : TI := ⟨.other, 1, 8, some (.atom .nilFunc), false⟩
theorem z6c : xH Tryz.prog 115 zb3 := tiq Tryz.t115 ⟨_, Tryz.underlying115, rfl⟩
def zb2 : TI := ⟨.other, 1, 8, some (.atom .nilFunc), false⟩
theorem z6b : xH Tryz.prog 117 zb2 := tiq Tryz.t117 ⟨_, Tryz.underlying117, rfl⟩
def zb1 : TI := ⟨.other, 1, 8, some (.atom .nilFunc), false⟩
theorem z6a : xH Tryz.prog 122 zb1 := tiq Tryz.t122 ⟨_, Tryz.underlying122, rfl⟩
def zb0 : TI := ⟨.ptr 54, 1, 8, some (.atom (.pointer none)), false⟩
theorem z69 : xH Tryz.prog 123 zb0 := tiq Tryz.t123 Tryz.underlying123
def zaZ : TI := ⟨.struct [(0, 1), (1, 1)], 2, 16, some (.agg [.atom (.int .i64 0), .atom .nilFunc]), false⟩
theorem z68 : xH Tryz.prog 125 zaZ := tiq Tryz.t125 ⟨_, Tryz.underlying125, by kernel_rfl, by
  intro f hf
  simp only [List.mem_cons, List.not_mem_nil, or_false] at hf
  rcases hf with rfl | rfl
  ·exact ⟨Tryz.t40, by kernel_rfl⟩
  ·exact ⟨Tryz.t49, by kernel_rfl⟩⟩
def zaY : TI := ⟨.array 3 125, 6, 48, some (.agg [.agg [.atom (.int .i64 0), .atom .nilFunc], .agg [.atom (.int .i64 0), .atom .nilFunc], .agg [.atom (.int .i64 0), .atom .nilFunc]]), false⟩
theorem z67 : xH Tryz.prog 126 zaY := tiq Tryz.t126 Tryz.underlying126
def zaX : TI := ⟨.struct [(0, 3), (3, 1), (4, 1), (5, 1), (6, 1), (7, 1), (8, 1)], 9, 184, some (.agg [.agg [.atom (.int .i64 0), .atom (.int .i64 0), .osl 1 true []], .osl 1 true [], .osl 1 true [], .osl 1 true [], .osl 1 true [], .osl 1 true [], .osl 1 true []]), false⟩
theorem z65 : xH Tryz.prog 132 zaX := tiq Tryz.t132 ⟨_, Tryz.underlying132, by kernel_rfl, by
  intro f hf
  simp only [List.mem_cons, List.not_mem_nil, or_false] at hf
  rcases hf with rfl | rfl | rfl | rfl | rfl | rfl | rfl
  ·exact ⟨Tryz.t34, by kernel_rfl⟩
  ·exact ⟨Tryz.t37, by kernel_rfl⟩
  ·exact ⟨Tryz.t37, by kernel_rfl⟩
  ·exact ⟨Tryz.t37, by kernel_rfl⟩
  ·exact ⟨Tryz.t113, by kernel_rfl⟩
  ·exact ⟨Tryz.t37, by kernel_rfl⟩
  ·exact ⟨Tryz.t37, by kernel_rfl⟩⟩
def zaW : TI := ⟨.array 5 40, 5, 40, some (.agg [.atom (.int .i64 0), .atom (.int .i64 0), .atom (.int .i64 0), .atom (.int .i64 0), .atom (.int .i64 0)]), true⟩
theorem z64 : xH Tryz.prog 133 zaW := tiq Tryz.t133 Tryz.underlying133 (fun _ => Jf Go.Ex.zg1 rfl rfl)
def zaV : TI := ⟨.struct [], 0, 0, some (.agg []), false⟩
theorem z63 : xH Tryz.prog 137 zaV := tiq Tryz.t137 ⟨_, Tryz.underlying137, by kernel_rfl, by
  intro f hf
  cases hf⟩
def zaU : TI := ⟨.slice 147, 1, 24, some (.osl 16 true []), false⟩
theorem z62 : xH Tryz.prog 139 zaU := tiq Tryz.t139 Tryz.underlying139
def zaT : TI := ⟨.struct [(0, 1), (1, 1), (2, 1)], 3, 40, some (.agg [.osl 16 true [], .atom (.int .i64 0), .atom (.int .i64 0)]), false⟩
theorem z61 : xH Tryz.prog 140 zaT := tiq Tryz.t140 ⟨_, Tryz.underlying140, by kernel_rfl, by
  intro f hf
  simp only [List.mem_cons, List.not_mem_nil, or_false] at hf
  rcases hf with rfl | rfl | rfl
  ·exact ⟨Tryz.t139, by kernel_rfl⟩
  ·exact ⟨Tryz.t3, by kernel_rfl⟩
  ·exact ⟨Tryz.t3, by kernel_rfl⟩⟩
def zaS : TI := ⟨.struct [(0, 1), (1, 1), (2, 1)], 3, 40, some (.agg [.osl 16 true [], .atom (.int .i64 0), .atom (.int .i64 0)]), false⟩
theorem z60 : xH Tryz.prog 141 zaS := tiq Tryz.t141 ⟨_, Tryz.underlying141, by kernel_rfl, by
  intro f hf
  simp only [List.mem_cons, List.not_mem_nil, or_false] at hf
  rcases hf with rfl | rfl | rfl
  ·exact ⟨Tryz.t139, by kernel_rfl⟩
  ·exact ⟨Tryz.t3, by kernel_rfl⟩
  ·exact ⟨Tryz.t3, by kernel_rfl⟩⟩
def zaR : TI := ⟨.struct [(0, 1), (1, 1)], 2, 32, some (.agg [.atom (.int .i32 0), .osl 1 true []]), false⟩
theorem z5Z : xH Tryz.prog 144 zaR := tiq Tryz.t144 ⟨_, Tryz.underlying144, by kernel_rfl, by
  intro f hf
  simp only [List.mem_cons, List.not_mem_nil, or_false] at hf
  rcases hf with rfl | rfl
  ·exact ⟨Tryz.t21, by kernel_rfl⟩
  ·exact ⟨Tryz.t57, by kernel_rfl⟩⟩
def zaQ : TI := ⟨.slice 144, 1, 24, some (.osl 2 true []), false⟩
theorem z5Y : xH Tryz.prog 145 zaQ := tiq Tryz.t145 Tryz.underlying145
def zaP : TI := ⟨.array 16 21, 16, 64, some (.agg [.atom (.int .i32 0), .atom (.int .i32 0), .atom (.int .i32 0), .atom (.int .i32 0), .atom (.int .i32 0), .atom (.int .i32 0), .atom (.int .i32 0), .atom (.int .i32 0), .atom (.int .i32 0), .atom (.int .i32 0), .atom (.int .i32 0), .atom (.int .i32 0), .atom (.int .i32 0), .atom (.int .i32 0), .atom (.int .i32 0), .atom (.int .i32 0)]), true⟩
theorem z5X : xH Tryz.prog 147 zaP := tiq Tryz.t147 Tryz.underlying147 (fun _ => Jf Go.Ex.zg0 rfl rfl)
def zaO : TI := ⟨.other, 1, 8, some (.atom .nilFunc), false⟩
theorem z5W : xH Tryz.prog 150 zaO := tiq Tryz.t150 ⟨_, Tryz.underlying150, rfl⟩
def zaN : TI := ⟨.int .u64, 1, 8, some (.atom (.int .u64 0)), false⟩
theorem z5V : xH Tryz.prog 153 zaN := tiq Tryz.t153 Tryz.underlying153
def zaM : TI := ⟨.other, 1, 8, some (.atom .nilFunc), false⟩
theorem z5U : xH Tryz.prog 156 zaM := tiq Tryz.t156 ⟨_, Tryz.underlying156, rfl⟩
def zaL : TI := ⟨.array 2 3, 2, 16, some (.agg [.atom (.int .i64 0), .atom (.int .i64 0)]), true⟩
theorem z5T : xH Tryz.prog 158 zaL := tiq Tryz.t158 Tryz.underlying158 (fun _ => Jf Go.Ex.zdh rfl rfl)
def zaK : TI := ⟨.slice 158, 1, 24, some (.osl 2 true []), false⟩
theorem z5S : xH Tryz.prog 159 zaK := tiq Tryz.t159 Tryz.underlying159
def zaJ : TI := ⟨.other, 1, 8, some (.atom .nilFunc), false⟩
theorem z5R : xH Tryz.prog 161 zaJ := tiq Tryz.t161 ⟨_, Tryz.underlying161, rfl⟩
def zaI : TI := ⟨.other, 1, 8, some (.atom .nilFunc), false⟩
theorem z5Q : xH Tryz.prog 165 zaI := tiq Tryz.t165 ⟨_, Tryz.underlying165, rfl⟩
def zaH : TI := ⟨.other, 1, 8, some (.atom .nilFunc), false⟩
theorem z5P : xH Tryz.prog 167 zaH := tiq Tryz.t167 ⟨_, Tryz.underlying167, rfl⟩
def zaG : TI := ⟨.other, 1, 8, some (.atom .nilFunc), false⟩
theorem z5O : xH Tryz.prog 172 zaG := tiq Tryz.t172 ⟨_, Tryz.underlying172, rfl⟩
def zaF : TI := ⟨.other, 1, 8, some (.atom .nilFunc), false⟩
theorem z5N : xH Tryz.prog 188 zaF := tiq Tryz.t188 ⟨_, Tryz.underlying188, rfl⟩
def zaE : TI := ⟨.other, 1, 8, some (.atom .nilFunc), false⟩
theorem z5M : xH Tryz.prog 193 zaE := tiq Tryz.t193 ⟨_, Tryz.underlying193, rfl⟩
def zaD : TI := ⟨.other, 1, 8, some (.atom .nilFunc), false⟩
theorem z5L : xH Tryz.prog 194 zaD := tiq Tryz.t194 ⟨_, Tryz.underlying194, rfl⟩
def zaC : TI := ⟨.other, 1, 8, some (.atom .nilFunc), false⟩
theorem z5K : xH Tryz.prog 196 zaC := tiq Tryz.t196 ⟨_, Tryz.underlying196, rfl⟩
def zaB : TI := ⟨.other, 1, 8, some (.atom .nilFunc), false⟩
theorem z5J : xH Tryz.prog 197 zaB := tiq Tryz.t197 ⟨_, Tryz.underlying197, rfl⟩
def zaz : TI := ⟨.other, 1, 8, some (.atom .nilFunc), false⟩
theorem z5I : xH Tryz.prog 208 zaz := tiq Tryz.t208 ⟨_, Tryz.underlying208, rfl⟩
def zay : TI := ⟨.other, 1, 8, some (.atom .nilFunc), false⟩
theorem z5H : xH Tryz.prog 209 zay := tiq Tryz.t209 ⟨_, Tryz.underlying209, rfl⟩
def zax : TI := ⟨.other, 1, 8, some (.atom .nilFunc), false⟩
theorem z5G : xH Tryz.prog 213 zax := tiq Tryz.t213 ⟨_, Tryz.underlying213, rfl⟩
def zaw : TI := ⟨.other, 1, 8, some (.atom .nilFunc), false⟩
theorem z5F : xH Tryz.prog 215 zaw := tiq Tryz.t215 ⟨_, Tryz.underlying215, rfl⟩
def zav : TI := ⟨.other, 1, 8, some (.atom .nilFunc), false⟩
theorem z5E : xH Tryz.prog 216 zav := tiq Tryz.t216 ⟨_, Tryz.underlying216, rfl⟩
def zau : TI := ⟨.struct [(0, 1), (1, 1), (2, 1)], 3, 24, some (.agg [.atom (.int .i64 0), .atom (.int .i64 0), .atom (.int .i64 0)]), true⟩
theorem z5D : xH Tryz.prog 219 zau := tiq Tryz.t219 ⟨_, Tryz.underlying219, by kernel_rfl, by
  intro f hf
  simp only [List.mem_cons, List.not_mem_nil, or_false] at hf
  rcases hf with rfl | rfl | rfl
  ·exact ⟨Tryz.t3, by kernel_rfl⟩
  ·exact ⟨Tryz.t3, by kernel_rfl⟩
  ·exact ⟨Tryz.t3, by kernel_rfl⟩⟩ (fun _ => Jf Go.Ex.zfZ rfl rfl)
def zat : TI := ⟨.other, 1, 8, some (.atom (.map none)), false⟩
theorem z5C : xH Tryz.prog 220 zat := tiq Tryz.t220 ⟨_, Tryz.underlying220, rfl⟩
def zas : TI := ⟨.array 64 57, 64, 1536, some (.agg (List.replicate 64 (.dop (nlQ 1 [])))), false⟩
theorem z5B : xH Tryz.prog 223 zas := ⟨⟨Tryz.t223, by kernel_rfl, rfl, rfl, fun z h => by cases h; exact ⟨_, rfl, by kernel_rfl, fun S h => zc9 (UX (V3 (z34) 64)) (by kernel_rfl)⟩⟩, Tryz.underlying223, by intro h; cases h⟩
def zar : TI := ⟨.ptr 238, 1, 8, some (.atom (.pointer none)), false⟩
theorem z5A : xH Tryz.prog 224 zar := tiq Tryz.t224 Tryz.underlying224
def zaq : TI := ⟨.other, 1, 8, some (.atom .nilFunc), false⟩
theorem z5z : xH Tryz.prog 228 zaq := tiq Tryz.t228 ⟨_, Tryz.underlying228, rfl⟩
def zap : TI := ⟨.other, 1, 8, some (.atom (.map none)), false⟩
theorem z5y : xH Tryz.prog 229 zap := tiq Tryz.t229 ⟨_, Tryz.underlying229, rfl⟩
def zao : TI := ⟨.array 16 158, 32, 256, some (.agg [.agg [.atom (.int .i64 0), .atom (.int .i64 0)], .agg [.atom (.int .i64 0), .atom (.int .i64 0)], .agg [.atom (.int .i64 0), .atom (.int .i64 0)], .agg [.atom (.int .i64 0), .atom (.int .i64 0)], .agg [.atom (.int .i64 0), .atom (.int .i64 0)], .agg [.atom (.int .i64 0), .atom (.int .i64 0)], .agg [.atom (.int .i64 0), .atom (.int .i64 0)], .agg [.atom (.int .i64 0), .atom (.int .i64 0)], .agg [.atom (.int .i64 0), .atom (.int .i64 0)], .agg [.atom (.int .i64 0), .atom (.int .i64 0)], .agg [.atom (.int .i64 0), .atom (.int .i64 0)], .agg [.atom (.int .i64 0), .atom (.int .i64 0)], .agg [.atom (.int .i64 0), .atom (.int .i64 0)], .agg [.atom (.int .i64 0), .atom (.int .i64 0)], .agg [.atom (.int .i64 0), .atom (.int .i64 0)], .agg [.atom (.int .i64 0), .atom (.int .i64 0)]]), true⟩
theorem z5x : xH Tryz.prog 231 zao := tiq Tryz.t231 Tryz.underlying231 (fun _ => Jf Go.Ex.zdg rfl rfl)
def zan : TI := ⟨.struct [(0, 1), (1, 32)], 33, 264, some (.agg [.atom (.int .i64 0), .agg [.agg [.atom (.int .i64 0), .atom (.int .i64 0)], .agg [.atom (.int .i64 0), .atom (.int .i64 0)], .agg [.atom (.int .i64 0), .atom (.int .i64 0)], .agg [.atom (.int .i64 0), .atom (.int .i64 0)], .agg [.atom (.int .i64 0), .atom (.int .i64 0)], .agg [.atom (.int .i64 0), .atom (.int .i64 0)], .agg [.atom (.int .i64 0), .atom (.int .i64 0)], .agg [.atom (.int .i64 0), .atom (.int .i64 0)], .agg [.atom (.int .i64 0), .atom (.int .i64 0)], .agg [.atom (.int .i64 0), .atom (.int .i64 0)], .agg [.atom (.int .i64 0), .atom (.int .i64 0)], .agg [.atom (.int .i64 0), .atom (.int .i64 0)], .agg [.atom (.int .i64 0), .atom (.int .i64 0)], .agg [.atom (.int .i64 0), .atom (.int .i64 0)], .agg [.atom (.int .i64 0), .atom (.int .i64 0)], .agg [.atom (.int .i64 0), .atom (.int .i64 0)]]]), true⟩
theorem z2q : xH Tryz.prog 234 zan := tiq Tryz.t234 ⟨_, Tryz.underlying234, by kernel_rfl, by
  intro f hf
  simp only [List.mem_cons, List.not_mem_nil, or_false] at hf
  rcases hf with rfl | rfl
  ·exact ⟨Tryz.t3, by kernel_rfl⟩
  ·exact ⟨Tryz.t231, by kernel_rfl⟩⟩ (fun _ => Jf Go.Ex.zeM rfl rfl)
def zam : TI := ⟨.other, 1, 8, some (.atom .nilFunc), false⟩
theorem z5w : xH Tryz.prog 235 zam := tiq Tryz.t235 ⟨_, Tryz.underlying235, rfl⟩
def zal : TI := ⟨.slice 219, 1, 24, some (.osl 3 true []), false⟩
theorem z5v : xH Tryz.prog 236 zal := tiq Tryz.t236 Tryz.underlying236
def zak : TI := ⟨.array 64 223, 4096, 98304, some (.agg (List.replicate 64 (.agg (List.replicate 64 (.dop (nlQ 1 [])))))), false⟩
theorem z5u : xH Tryz.prog 238 zak := ⟨⟨Tryz.t238, by kernel_rfl, rfl, rfl, fun z h => by cases h; exact ⟨_, rfl, by kernel_rfl, fun S h => zc9 (UX (V3 (UX (V3 (z34) 64)) 64)) (by kernel_rfl)⟩⟩, Tryz.underlying238, by intro h; cases h⟩
def zaj : TI := ⟨.slice 243, 1, 24, some (.osl 4 true []), false⟩
theorem z5t : xH Tryz.prog 239 zaj := tiq Tryz.t239 Tryz.underlying239
def zai : TI := ⟨.struct [(0, 1), (1, 1), (2, 1), (3, 1)], 4, 48, some (.agg [.atom (.int .i64 0), .atom (.int .i64 0), .osl 1 true [], .atom (.bool false)]), false⟩
theorem z5s : xH Tryz.prog 243 zai := tiq Tryz.t243 ⟨_, Tryz.underlying243, by kernel_rfl, by
  intro f hf
  simp only [List.mem_cons, List.not_mem_nil, or_false] at hf
  rcases hf with rfl | rfl | rfl | rfl
  ·exact ⟨Tryz.t3, by kernel_rfl⟩
  ·exact ⟨Tryz.t3, by kernel_rfl⟩
  ·exact ⟨Tryz.t57, by kernel_rfl⟩
  ·exact ⟨Tryz.t4, by kernel_rfl⟩⟩
def tiL : List (Nat × TI) := [(1, ti1), (2, ti2), (3, ti3), (4, ti4), (5, ti5), (9, ti9), (20, zeB), (21, zeA), (22, zez), (29, zey), (32, zex), (33, zew), (34, zev), (37, zeu), (40, zet), (49, zes), (54, zer), (57, zeq), (68, zep), (70, zeo), (71, zen), (72, zem), (80, zel), (81, zek), (82, zej), (83, zei), (87, zeh), (96, zeg), (97, zef), (98, zee), (104, zb9), (105, zb8), (108, zb7), (110, zb6), (111, zb5), (113, zb4), (115, zb3), (117, zb2), (122, zb1), (123, zb0), (125, zaZ), (126, zaY), (132, zaX), (133, zaW), (137, zaV), (139, zaU), (140, zaT), (141, zaS), (144, zaR), (145, zaQ), (147, zaP), (150, zaO), (153, zaN), (156, zaM), (158, zaL), (159, zaK), (161, zaJ), (165, zaI), (167, zaH), (172, zaG), (188, zaF), (193, zaE), (194, zaD), (196, zaC), (197, zaB), (208, zaz), (209, zay), (213, zax), (215, zaw), (216, zav), (219, zau), (220, zat), (223, zas), (224, zar), (228, zaq), (229, zap), (231, zao), (234, zan), (235, zam), (236, zal), (238, zak), (239, zaj), (243, zai)]
def wp : TT := fun t => (tiL.find? fun p => p.1 == t).map (·.2)
def z5h (P : Program) : List (Nat × TI) → Prop
 | [] => True
 | p :: l => xH P p.1 p.2 ∧ z5h P l
theorem z5h.mem : ∀ {l : List (Nat × TI)}, z5h P l → ∀ p ∈ l, xH P p.1 p.2
 | p :: _, h, q, hq => by
  rcases List.mem_cons.1 hq with rfl | hq
  ·exact h.1
  ·exact z5h.mem h.2 q hq
 | [], _, _, hq => by cases hq
theorem zac : z5h Tryz.prog tiL := ⟨zaA, zah, zag, zaf, zae, zad, z8C, z8B, z8A, z8z, z8y, z8x, z8w, z8v, z8u, z8t, z8s, z8r, z8q, z8p, z8o, z8n, z8m, z8l, z8k, z8j, z8i, z8h, z8g, z8f, z6i, z6h, z6g, z6f, z6e, z6d, z6c, z6b, z6a, z69, z68, z67, z65, z64, z63, z62, z61, z60, z5Z, z5Y, z5X, z5W, z5V, z5U, z5T, z5S, z5R, z5Q, z5P, z5O, z5N, z5M, z5L, z5K, z5J, z5I, z5H, z5G, z5F, z5E, z5D, z5C, z5B, z5A, z5z, z5y, z5x, z2q, z5w, z5v, z5u, z5t, z5s, trivial⟩
theorem zo : yH Tryz.prog wp := by
 intro t i h
 unfold wp at h
 rw [Option.map_eq_some_iff] at h
 obtain ⟨p, h1, rfl⟩ := h
 have h2 := List.find?_some h1
 have h3 := zac.mem p (List.mem_of_find?_eq_some h1)
 rw [beq_iff_eq.1 h2] at h3
 exact h3
end Go.Own

namespace Go.Proofs
open Go.RowKit Go.Lib
theorem Tryz.groI : (Tryz.prog.info? 3).map (fun i => (i.size, i.bytes, i.zero)) = some (1, 8, some (.int .i64 0)) := by kernel_rfl
set_option maxHeartbeats 4000000 in
set_option maxRecDepth 100000 in
theorem Tryz.gro_run (p : Option Addr) (n : Nat) (w : World) (h0 : 0 < n) (h1 : n ≤ 1000000) :
  Calls Tryz.prog 174 #[.slice p 0 0, .int .i64 n] w fun e w' =>
   e = .returned (.slice (some ⟨w.heap.size, 0, none⟩) 0 (grownCap w n 0 3)) ∧
   w' = w.drew.alloc (.cells (#[] ++ Builtin.zeroCells (Value.int .i64 0).cells n ++ Builtin.zeroCells (Value.int .i64 0).cells (grownCap w n 0 3 - n)) 3) := by
 obtain ⟨i0, hi0, hi⟩ := Option.map_eq_some_iff.1 Tryz.groI
 obtain ⟨hs0, hi⟩ := Prod.mk.inj hi
 obtain ⟨hb0, hz0⟩ := Prod.mk.inj hi
 have mixed : Tryz.prog.follows .mixedOrders = true := by kernel_rfl
 have h1' : ¬ ((n : Int) < 0) := by omega
 have h3 : wrap64 ((n : Int)) = (n : Int) := by unfold wrap64; omega
 have h4 : (n : Int) > 0 := by omega
 have hold : (Builtin.firstCells i0.size 0 (.slice p 0 0)).run Tryz.prog w.drew = .ok ([] : List Value).toArray w.drew := by
  cases p with
  | none => exact run_firstCells_none w.drew i0.size 0 0 0
  | some a => exact run_firstCells_some w.drew i0.size 0 a 0 0 [] (by simp) (fun j v hj => by simp at hj)
 have hrz : ∀ ty, (Builtin.append_ #[57, 3] ty #[.slice p 0 0, .int .i64 (n : Int)]).run Tryz.prog w =
   .ok (.slice (some ⟨w.heap.size, 0, none⟩) n (grownCap w n 0 3)) (w.drew.alloc (.cells (#[] ++ Builtin.zeroCells (Value.int .i64 0).cells n ++ Builtin.zeroCells (Value.int .i64 0).cells (grownCap w n 0 3 - n)) 3)) := fun ty => by
  have h := Lib.run_append_grow_zeros w 57 3 ty 3 i0 (.int .i64 0) .i64 .i64 Tryz.underlying57 Tryz.underlying3 hi0 hz0 p 0 0 [] hold n h0 (by omega) (by omega) (by omega)
   (by rw [hb0]; omega)
   (by rw [Nat.zero_add]; exact growslice_fits h0 (by rw [hb0]; omega))
  rw [Nat.zero_add] at h
  exact h
 have hGn : n ≤ grownCap w n 0 3 := grownCap_ge w _ _ _
 obtain ⟨G, hG⟩ : ∃ G, G = grownCap w n 0 3 := ⟨_, rfl⟩
 rw [← hG] at hrz hGn ⊢
 have hG63 : G ≤ 9223372036854775807 := by
  have := grownCap_le_maxLen w n 0 3 (by unfold maxLen; omega)
  rw [← hG] at this
  unfold maxLen at this
  omega
 clear hold hG
 go_enter Tryz.func174, Tryz.ntmps174
 cases p with
 | none =>
  go_wp2_with (at_builtin; refine Lib.wpList_append_run _ rfl _ _ _ _ rfl _ _ rfl rfl _ _ (hrz _) ?_)
  all_goals (go_ret; exact ⟨rfl, rfl⟩)
 | some a =>
  obtain ⟨ab, ao, asp⟩ := a
  go_wp2_with (at_builtin; refine Lib.wpList_append_run _ rfl _ _ _ _ rfl _ _ rfl rfl _ _ (hrz _) ?_)
  all_goals (go_ret; exact ⟨rfl, rfl⟩)
end Go.Proofs
namespace Go.Own
open Go.Proofs
theorem z4D (n : Int) (h0 : 0 < n) (h1 : n ≤ 1000000) : wB Tryz.prog 174 [.sl 1 true [], eI .i64 n] (.osl 1 false []) := by
 refine ⟨⟨_, Tryz.func174, by kernel_rfl, by kernel_rfl⟩, ?_⟩
 intro S w vs F hS hq hF
 obtain ⟨m, rfl⟩ : ∃ m : Nat, n = (m : Int) := ⟨n.toNat, by omega⟩
 match vs, hq with
 | [u, v], q =>
  obtain ⟨F1, F2, rfl, q1, F3, F4, rfl, q2, q3⟩ := q
  have e3 : F4 = [] := q3
  subst e3
  have d : ∀ {x : A} {u : Value} {F : List Nat}, x.isD = true → Has S w.heap x u F → xM S x u ∧ F = [] := by
   intro x u F hx q
   rcases q with ⟨q, rfl⟩ | ⟨cs, q1, q2, q3⟩
   ·exact ⟨q.rep1 hx, rfl⟩
   ·obtain ⟨r, rfl⟩ := q1.isD hx
    exact ⟨⟨cs, r, q3⟩, rfl⟩
  obtain ⟨⟨cs, r1, e1⟩, rfl⟩ := d rfl q1
  obtain ⟨⟨ds, r2, e2⟩, rfl⟩ := d rfl q2
  simp only [Rep] at r1
  obtain ⟨p, c, rfl, hc, _⟩ := r1
  obtain rfl : c = 0 := by simpa using hc
  have hv : v = .int .i64 (m : Int) := by
   rw [e2]
   obtain ⟨rfl, _⟩ : ds = [.int .i64 (m : Int)] ∧ _ := by simpa only [eI, Rep] using r2
   rfl
  have hu : u = .slice p 0 0 := by rw [e1]; rfl
  subst hv hu
  refine (Tryz.gro_run p m w (by omega) (by omega)).mono ?_
  rintro e' w' ⟨rfl, rfl⟩
  have hsz : ∀ k, (Builtin.zeroCells (Value.int .i64 0).cells k).size = k := fun k => by simp [Builtin.zeroCells, Value.cells]
  have hGn : m ≤ grownCap w m 0 3 := grownCap_ge w _ _ _
  have hGm := grownCap_le_maxLen w m 0 3 (by unfold maxLen; omega)
  have hfr : ∀ o, S w.heap.size o = none := fun o => by
   cases hh : S w.heap.size o with
   | none => rfl
   | some x => have := hS _ _ _ hh; simp [zP] at this
  generalize grownCap w m 0 3 = G at hGn hGm ⊢
  refine ⟨_, S, [w.heap.size], rfl, ((uG.refl _ _).drew).alloc (.inl (Nat.le_refl _)) _, fun _ _ _ h => h, fun _ _ _ _ => rfl, ⟨fun b o v h => ?_, hS.gok, hS.blk.of (fun _ _ _ q => q) fun g x e => ?_⟩, .inr ⟨[.slice (some ⟨w.heap.size, 0, none⟩) 0 G], ?_, by simp, rfl⟩, by simp, by simp⟩
  ·have h' := hS _ _ _ h
   have hne : b ≠ w.heap.size := by rintro rfl; rw [hfr] at h; cases h
   show zP (w.heap.push _) b o = some v
   unfold zP at h' ⊢
   rw [Array.getElem?_push, if_neg hne]
   exact h'
  ·have hlt := hS.blk.lt e
   show (w.heap.push _)[g]? = _
   rw [Array.getElem?_push, if_neg (by omega)]
  ·simp only [zw]
   refine ⟨_, G, rfl, by simp, by simp, hGm, by simp, .inr ⟨w.heap.size, _, 3, [], [], rfl, by show (w.heap.push _)[w.heap.size]? = _; rw [Array.getElem?_push, if_pos rfl], ?_, by simp, ⟨rfl, rfl⟩, rfl, hfr⟩⟩
   simp only [Array.size_append, hsz, Array.size_empty]
   omega
end Go.Own

namespace Go.Proofs
open Go.RowKit Go.Lib
theorem Tryz.meth81 (w : World) : (method 370 81 (.agg #[]) "gauntlet/suites.fill").run Tryz.prog w = .ok (190, .agg #[]) w := by kernel_rfl
theorem Tryz.meth82 (w : World) : (method 370 82 (.agg #[]) "gauntlet/suites.fill").run Tryz.prog w = .ok (192, .agg #[]) w := by kernel_rfl
theorem Tryz.meth83 (w : World) : (method 370 83 (.agg #[]) "gauntlet/suites.fill").run Tryz.prog w = .ok (203, .agg #[]) w := by kernel_rfl
theorem Tryz.tas (w : World) : (Instr.typeAssert (.iface 137 (.agg #[])) 20 137 true).run Tryz.prog w = .ok (.tuple #[.agg #[], .bool true]) w := by kernel_rfl
theorem Tryz.mk1 (w : World) : (Instr.makeSlice 139 (.int .i64 1) (.int .i64 1)).run Tryz.prog w = .ok (.slice (some ⟨w.heap.size, 0, none⟩) 1 1) (w.alloc (.cells (Array.replicate 16 (.int .i32 0)) 147)) := by
 have h : (Tryz.prog.info? 147).map (fun i => (i.size, i.bytes, i.zero)) = some (16, 64, some (.agg (Array.replicate 16 (.int .i32 0)))) := by kernel_rfl
 obtain ⟨i0, hi0, hi⟩ := Option.map_eq_some_iff.1 h
 obtain ⟨hs0, hi⟩ := Prod.mk.inj hi
 obtain ⟨hb0, hz0⟩ := Prod.mk.inj hi
 have q := run_makeSlice (P := Tryz.prog) (w := w) 139 147 i0 _ Tryz.underlying139 hi0 hz0 .i64 .i64 1 1 (by omega) (by omega) (by rw [hs0]; decide) (by rw [hb0]; omega) (by omega)
 rw [hs0, show madeCells (Value.agg (Array.replicate 16 (Value.int .i32 0))).cells (Int.toNat 1 * 16) = Array.replicate 16 (.int .i32 0) from by kernel_rfl] at q
 exact q
def Tryz.gw4 (w : World) (most : Int) : World :=
 (((w.alloc (.cells #[.pointer (some ⟨w.heap.size + 1 + 1 + 1, 0, none⟩)] 108)).alloc (.cells #[.bool false] 4)).alloc (.cells (Array.replicate 16 (.int .i32 0)) 147)).alloc (.cells #[.slice (some ⟨w.heap.size + 1 + 1, 0, none⟩) 1 1, .int .i64 0, .int .i64 most] 141)
theorem Tryz.catch_idle (p q : Addr) (w : World) :
  CallsD Tryz.prog 94 #[.pointer (some p), .pointer (some q)] .returning w fun e u' w' => e = .returned (.tuple #[]) ∧ u' = .returning ∧ w' = w := by
 refine callsD_of_wpS Tryz.func94 rfl fun c₀ cs hu => ?_
 apply wpS_seq
 apply wpS_region
 simp [wpOpsS, go_sem, recoverD, hu, Tryz.ntmps94, Exit.thenS]
 apply wpS_seq
 apply wpS_region
 simp [wpOpsS, go_sem, recoverD, hu, Tryz.ntmps94, Exit.thenS]
 refine wpS_cond (t := false) (by simp [Act.eval, Array.replicate]) ?_
 simp only [Bool.false_eq_true, if_false]
 refine wpS_of_wp (wp_skip ?_)
 cases c₀
 simp_all [bodyPostS, results, Tryz.results94]
theorem Tryz.catch_panicking (n : Nat) (older : List PanicEntry) (w : World) (x : Value) (y : Value) (h1 : w.heap[n]? = some (.cells #[x] 108)) (h2 : w.heap[n + 1]? = some (.cells #[y] 4)) :
  CallsD Tryz.prog 94 #[.pointer (some ⟨n, 0, none⟩), .pointer (some ⟨n + 1, 0, none⟩)] (.panicking ({ v := .iface 137 (.agg #[]), recovered := false } :: older)) w fun e u' w' =>
   e = .returned (.tuple #[]) ∧ u' = .panicking ({ v := .iface 137 (.agg #[]), recovered := true } :: older) ∧ w' = ((w.alloc (.cells #[] 137)).setCell ⟨n, 0, none⟩ (.pointer none)).setCell ⟨n + 1, 0, none⟩ (.bool false) := by
 have ht := Tryz.tas
 refine callsD_of_wpS Tryz.func94 rfl fun c₀ cs hu => ?_
 apply wpS_seq
 apply wpS_region
 simp [wpOpsS, go_sem, recoverD, hu, Tryz.ntmps94, Exit.thenS]
 apply wpS_seq
 apply wpS_region
 simp [wpOpsS, go_sem, recoverD, hu, Tryz.ntmps94, Exit.thenS]
 refine wpS_cond (t := true) (by simp [Act.eval, Array.replicate]) ?_
 simp only [if_true]
 apply wpS_seq
 apply wpS_seq
 apply wpS_region
 simp [wpOpsS, go_sem, recoverD, hu, Tryz.ntmps94, Exit.thenS, ht]
 apply wpS_seq
 apply wpS_region
 simp [wpOpsS, go_sem, recoverD, hu, Tryz.ntmps94, Exit.thenS, ht]
 refine wpS_cond (t := false) (by simp [Act.eval, Array.replicate]) ?_
 simp only [Bool.false_eq_true, if_false]
 refine wpS_of_wp (wp_skip ?_)
 simp only [Exit.thenS]
 apply wpS_region
 have l1 := (Array.getElem?_eq_some_iff.1 h1).1
 have l2 := (Array.getElem?_eq_some_iff.1 h2).1
 have g1 : (w.alloc (.cells #[] 137)).heap[n]? = some (.cells #[x] 108) := by
  simp only [World.alloc]
  rw [Array.getElem?_push, if_neg (by omega), h1]
 have g2 : (w.alloc (.cells #[] 137)).heap[n + 1]? = some (.cells #[y] 4) := by
  simp only [World.alloc]
  rw [Array.getElem?_push, if_neg (by omega), h2]
 have hp1 : (w.alloc (.cells #[] 137)).cell? ⟨n, 0, none⟩ = some x := by simp [World.cell?, g1]
 have hz1 : (w.alloc (.cells #[] 137)).frozen? ⟨n, 0, none⟩ = false := by simp [World.frozen?, g1]
 have g3 : ((w.alloc (.cells #[] 137)).setCell ⟨n, 0, none⟩ (.pointer none)).heap[n + 1]? = some (.cells #[y] 4) := by
  simp only [World.setCell, Array.getElem?_modify]
  rw [if_neg (by omega), g2]
 have hp2 : ((w.alloc (.cells #[] 137)).setCell ⟨n, 0, none⟩ (.pointer none)).cell? ⟨n + 1, 0, none⟩ = some y := by simp only [World.cell?, g3]; rfl
 have hz2 : ((w.alloc (.cells #[] 137)).setCell ⟨n, 0, none⟩ (.pointer none)).frozen? ⟨n + 1, 0, none⟩ = false := by simp only [World.frozen?, g3]; rfl
 simp [wpOpsS, go_sem, recoverD, hu, Tryz.ntmps94, Exit.thenS, ht, hp1, hz1, hp2, hz2]
 cases c₀
 simp_all [bodyPostS, results, Tryz.results94]
set_option maxHeartbeats 4000000 in
set_option maxRecDepth 100000 in
theorem Tryz.gat_run (T kf : Nat) (hmeth : ∀ w, (method 370 T (.agg #[]) "gauntlet/suites.fill").run Tryz.prog w = .ok (kf, .agg #[]) w) (hcf : ∀ args w, (callFunc kf args).run Tryz.prog w = .ok (.enter kf args) w) (xv : Value) (most : Int) (w : World) (K : World → Prop)
  (hcall : Calls Tryz.prog kf #[.agg #[], xv, .pointer (some ⟨w.heap.size + 1 + 1 + 1, 0, none⟩)] (Tryz.gw4 w most) fun e w5 => e = .returned (.tuple #[]) ∧ w5.heap[w.heap.size]? = some (.cells #[.pointer (some ⟨w.heap.size + 1 + 1 + 1, 0, none⟩)] 108) ∧ w5.heap[w.heap.size + 1]? = some (.cells #[.bool false] 4) ∧ K w5) :
  Calls Tryz.prog 62 #[xv, .iface T (.agg #[]), .int .i64 most] w fun e w' => e = .returned (.tuple #[.pointer (some ⟨w.heap.size + 1 + 1 + 1, 0, none⟩), .bool true]) ∧ ∃ w5, K w5 ∧ w' = (w5.setCell ⟨w.heap.size, 0, none⟩ (.pointer (some ⟨w.heap.size + 1 + 1 + 1, 0, none⟩))).setCell ⟨w.heap.size + 1, 0, none⟩ (.bool true) := by
 have hmf : ∀ (fn : Fn) (first cap : Array Value) (w : World), (Instr.makeFunc fn first cap).run Tryz.prog w = .ok (.func fn first cap) w := fun _ _ _ _ => rfl
 have hmk := Tryz.mk1
 go_enter_defers Tryz.func62, Tryz.ntmps62
 go_wp2
 refine Calls.mono hcall ?_
 rintro e w5 ⟨rfl, h1, h2, h3⟩
 have hc1 : w5.cell? ⟨w.heap.size, 0, none⟩ = some (.pointer (some ⟨w.heap.size + 1 + 1 + 1, 0, none⟩)) := by simp [World.cell?, h1]
 have hc2 : w5.cell? ⟨w.heap.size + 1, 0, none⟩ = some (.bool false) := by simp [World.cell?, h2]
 have hz1 : w5.frozen? ⟨w.heap.size, 0, none⟩ = false := by simp [World.frozen?, h1]
 have hz2 : w5.frozen? ⟨w.heap.size + 1, 0, none⟩ = false := by simp [World.frozen?, h2]
 dsimp only
 go_wp2
 refine leaves_cons (f := 94) (args := #[.pointer (some ⟨w.heap.size, 0, none⟩), .pointer (some ⟨w.heap.size + 1, 0, none⟩)]) (by simp) (by simp [go_sem]) ?_
 refine (Tryz.catch_idle _ _ _).mono ?_
 rintro e u' w'' ⟨rfl, rfl, rfl⟩
 have hcA : (w5.setCell ⟨w.heap.size, 0, none⟩ (.pointer (some ⟨w.heap.size + 1 + 1 + 1, 0, none⟩))).cell? ⟨w.heap.size, 0, none⟩ = some (.pointer (some ⟨w.heap.size + 1 + 1 + 1, 0, none⟩)) := by
  simp [World.cell?, World.setCell, Array.getElem?_modify, h1]
 have hcB : ((w5.setCell ⟨w.heap.size, 0, none⟩ (.pointer (some ⟨w.heap.size + 1 + 1 + 1, 0, none⟩))).setCell ⟨w.heap.size + 1, 0, none⟩ (.bool true)).cell? ⟨w.heap.size + 1, 0, none⟩ = some (.bool true) := by
  simp [World.cell?, World.setCell, Array.getElem?_modify, h2]
 simp [Leaves, settle, results, Tryz.results62, go_sem, hcA, hcB]
 exact ⟨w5, h3, rfl⟩
set_option maxHeartbeats 4000000 in
set_option maxRecDepth 100000 in
theorem Tryz.gat_die (T kf : Nat) (hmeth : ∀ w, (method 370 T (.agg #[]) "gauntlet/suites.fill").run Tryz.prog w = .ok (kf, .agg #[]) w) (hcf : ∀ args w, (callFunc kf args).run Tryz.prog w = .ok (.enter kf args) w) (xv : Value) (most : Int) (w : World) (K : World → Prop)
  (hcall : Calls Tryz.prog kf #[.agg #[], xv, .pointer (some ⟨w.heap.size + 1 + 1 + 1, 0, none⟩)] (Tryz.gw4 w most) fun e w5 => e = .panicked (Own.vu (.iface 137 (.agg #[]))) ∧ w5.heap[w.heap.size]? = some (.cells #[.pointer (some ⟨w.heap.size + 1 + 1 + 1, 0, none⟩)] 108) ∧ w5.heap[w.heap.size + 1]? = some (.cells #[.bool false] 4) ∧ K w5) :
  Calls Tryz.prog 62 #[xv, .iface T (.agg #[]), .int .i64 most] w fun e w' => e = .returned (.tuple #[.pointer none, .bool false]) ∧ ∃ w5, K w5 ∧ w' = ((w5.alloc (.cells #[] 137)).setCell ⟨w.heap.size, 0, none⟩ (.pointer none)).setCell ⟨w.heap.size + 1, 0, none⟩ (.bool false) := by
 have hmf : ∀ (fn : Fn) (first cap : Array Value) (w : World), (Instr.makeFunc fn first cap).run Tryz.prog w = .ok (.func fn first cap) w := fun _ _ _ _ => rfl
 have hmk := Tryz.mk1
 go_enter_defers Tryz.func62, Tryz.ntmps62
 go_wp2
 refine Calls.mono hcall ?_
 rintro e w5 ⟨rfl, h1, h2, h3⟩
 have l1 := (Array.getElem?_eq_some_iff.1 h1).1
 have l2 := (Array.getElem?_eq_some_iff.1 h2).1
 have g1 : (w5.alloc (.cells #[] 137)).heap[w.heap.size]? = some (.cells #[.pointer (some ⟨w.heap.size + 1 + 1 + 1, 0, none⟩)] 108) := by
  simp only [World.alloc]
  rw [Array.getElem?_push, if_neg (by omega), h1]
 have g2 : (w5.alloc (.cells #[] 137)).heap[w.heap.size + 1]? = some (.cells #[.bool false] 4) := by
  simp only [World.alloc]
  rw [Array.getElem?_push, if_neg (by omega), h2]
 dsimp only [Own.vu]
 refine leaves_cons (f := 94) (args := #[.pointer (some ⟨w.heap.size, 0, none⟩), .pointer (some ⟨w.heap.size + 1, 0, none⟩)]) (by simp) (by simp [go_sem]) ?_
 refine (Tryz.catch_panicking w.heap.size [] w5 _ _ h1 h2).mono ?_
 rintro e u' w'' ⟨rfl, rfl, rfl⟩
 have hcA : ((w5.alloc (.cells #[] 137)).setCell ⟨w.heap.size, 0, none⟩ (.pointer none)).cell? ⟨w.heap.size, 0, none⟩ = some (.pointer none) := by
  simp [World.cell?, World.setCell, Array.getElem?_modify, g1]
 have hcB : (((w5.alloc (.cells #[] 137)).setCell ⟨w.heap.size, 0, none⟩ (.pointer none)).setCell ⟨w.heap.size + 1, 0, none⟩ (.bool false)).cell? ⟨w.heap.size + 1, 0, none⟩ = some (.bool false) := by
  simp [World.cell?, World.setCell, Array.getElem?_modify, g2]
 simp [Leaves, settle, results, Tryz.results62, go_sem, hcA, hcB]
 exact ⟨w5, h3, rfl⟩
end Go.Proofs
namespace Go.Own
open Go.Proofs
theorem z2a {T kf : Nat} (hmeth : ∀ w, (method 370 T (.agg #[]) "gauntlet/suites.fill").run Tryz.prog w = .ok (kf, .agg #[]) w) (hcf : ∀ args w, (callFunc kf args).run Tryz.prog w = .ok (.enter kf args) w) {xs y z : A} {most : Int} {died : Bool} (hxs : xs.isD = true) (hl : y.live = true) (hz : y.shut = z)
  (hfill : ∀ bv, z2l Tryz.prog kf [.agg [], xs, .atom bv] [(bv, .box (.agg [.osl 16 false [.agg (List.replicate 16 (.atom (.int .i32 0)))], .atom (.int .i64 0), .atom (.int .i64 most)]))] died (.iface 137 (.agg #[])) (.tup []) [.box y]) :
  wB Tryz.prog 62 [xs, .atom (.iface T (.agg #[])), .atom (.int .i64 most)] (.tup [bif died then .atom (.pointer none) else .sptr z, .atom (.bool (!died))]) := by
 refine ⟨⟨_, Tryz.func62, by kernel_rfl, by kernel_rfl⟩, ?_⟩
 intro S w vs F hS hq hF
 match vs, hq with
 | [u, v, x], q =>
  obtain ⟨F1, F2, rfl, q1, F3, F4, rfl, q2, F5, F6, rfl, q3, q4⟩ := q
  have e4 : F6 = [] := q4
  subst e4
  have d : ∀ {x : A} {u : Value} {F : List Nat}, x.isD = true → Has S w.heap x u F → xM S x u ∧ F = [] := by
   intro x u F hx q
   rcases q with ⟨q, rfl⟩ | ⟨cs, q1, q2, q3⟩
   ·exact ⟨q.rep1 hx, rfl⟩
   ·obtain ⟨r, rfl⟩ := q1.isD hx
    exact ⟨⟨cs, r, q3⟩, rfl⟩
  obtain ⟨r1, rfl⟩ := d hxs q1
  obtain ⟨r2, rfl⟩ := d rfl q2
  obtain ⟨r3, rfl⟩ := d rfl q3
  obtain rfl : v = .iface T (.agg #[]) := (yc.1 r2).1
  obtain rfl : x = .int .i64 most := (yc.1 r3).1
  have hnew : ∀ b o, w.heap.size ≤ b → S b o = none := fun b o hb => by
   cases hh : S b o with
   | none => rfl
   | some x =>
    have := hS _ _ _ hh
    simp [zP, Array.getElem?_eq_none hb] at this
  have hsz : (Tryz.gw4 w most).heap.size = w.heap.size + 4 := by simp only [Tryz.gw4, World.alloc, Array.size_push]
  have hold : ∀ b, b < w.heap.size → (Tryz.gw4 w most).heap[b]? = w.heap[b]? := fun b hb => by
   simp only [Tryz.gw4, World.alloc]
   simp only [Array.getElem?_push, Array.size_push]
   rw [if_neg (by omega), if_neg (by omega), if_neg (by omega), if_neg (by omega)]
  have c0 : (Tryz.gw4 w most).heap[w.heap.size]? = some (.cells #[.pointer (some ⟨w.heap.size + 1 + 1 + 1, 0, none⟩)] 108) := by
   simp only [Tryz.gw4, World.alloc]
   simp only [Array.getElem?_push, Array.size_push]
   rw [if_neg (by omega), if_neg (by omega), if_neg (by omega), if_pos trivial]
  have c1 : (Tryz.gw4 w most).heap[w.heap.size + 1]? = some (.cells #[.bool false] 4) := by
   simp only [Tryz.gw4, World.alloc]
   simp only [Array.getElem?_push, Array.size_push]
   rw [if_neg (by omega), if_neg (by omega), if_pos trivial]
  have c2 : (Tryz.gw4 w most).heap[w.heap.size + 1 + 1]? = some (.cells (Array.replicate 16 (.int .i32 0)) 147) := by
   simp only [Tryz.gw4, World.alloc]
   simp only [Array.getElem?_push, Array.size_push]
   rw [if_neg (by omega), if_pos trivial]
  have c3 : (Tryz.gw4 w most).heap[w.heap.size + 1 + 1 + 1]? = some (.cells #[.slice (some ⟨w.heap.size + 1 + 1, 0, none⟩) 1 1, .int .i64 0, .int .i64 most] 141) := by
   simp only [Tryz.gw4, World.alloc]
   simp only [Array.getElem?_push, Array.size_push]
   rw [if_pos trivial]
  have hK4 : uG (fun k => w.heap.size ≤ k ∨ k ∈ ([] : List Nat)) w (Tryz.gw4 w most) := by
   unfold Tryz.gw4
   refine ((((uG.refl _ _).alloc (.inl (Nat.le_refl _)) _).alloc (.inl ?_) _).alloc (.inl ?_) _).alloc (.inl ?_) _
   all_goals simp only [World.alloc, Array.size_push]; omega
  have hS4 : y5 S (Tryz.gw4 w most) := by
   refine ⟨fun b o u h => ?_, hS.gok, hS.blk.of (fun _ _ _ q => q) fun g x e => hold g (hS.blk.lt e)⟩
   have h' := hS _ _ _ h
   have hb : b < w.heap.size := by
    rcases Nat.lt_or_ge b w.heap.size with h1 | h1
    ·exact h1
    ·rw [hnew b o h1] at h; cases h
   unfold zP at h' ⊢
   rw [hold b hb]
   exact h'
  have hbag : qj S (Tryz.gw4 w most).heap [.box (.agg [.osl 16 false [.agg (List.replicate 16 (.atom (.int .i32 0)))], .atom (.int .i64 0), .atom (.int .i64 most)])] [.pointer (some ⟨w.heap.size + 1 + 1 + 1, 0, none⟩)] [w.heap.size + 1 + 1 + 1, w.heap.size + 1 + 1] := by
   have hcc : ∀ l : List Value, (∀ v ∈ l, v.oneCell' = true) → zC S (Tryz.gw4 w most).heap (l.map .atom) l [] := by
    intro l
    induction l with
    | nil => intro _; simp [zC]
    | cons a l ih =>
     intro h
     simp only [List.map_cons, zC]
     exact ⟨[a], l, [], [], rfl, rfl, by simp only [zw, Rep]; simp [h a (by simp)], ih fun v hv => h v (by simp [hv])⟩
   have ho : zw S (Tryz.gw4 w most).heap (.osl 16 false [.agg (List.replicate 16 (.atom (.int .i32 0)))]) [.slice (some ⟨w.heap.size + 1 + 1, 0, none⟩) 1 1] [w.heap.size + 1 + 1] := by
    simp only [zw]
    refine ⟨some ⟨w.heap.size + 1 + 1, 0, none⟩, 1, by simp, by simp, by simp, by unfold maxLen; omega, ?_, .inr ⟨w.heap.size + 1 + 1, _, 147, List.replicate 16 (.int .i32 0), [], rfl, c2, by simp, by simp, ?_, by simp, fun o => hnew _ o (by omega)⟩⟩
    ·intro x hx
     simp only [List.mem_cons, List.not_mem_nil, or_false] at hx
     subst hx
     rfl
    ·simp only [zC]
     exact ⟨List.replicate 16 (.int .i32 0), [], [], [], by simp, rfl, by simp only [zw]; exact hcc (List.replicate 16 (.int .i32 0)) (by intro v hv; rw [List.eq_of_mem_replicate hv]; rfl), rfl, rfl⟩
   refine ⟨[w.heap.size + 1 + 1 + 1, w.heap.size + 1 + 1], [], by simp, .inr ⟨[.pointer (some ⟨w.heap.size + 1 + 1 + 1, 0, none⟩)], ?_, by simp, rfl⟩, rfl⟩
   simp only [zw]
   refine ⟨w.heap.size + 1 + 1 + 1, 141, [.slice (some ⟨w.heap.size + 1 + 1, 0, none⟩) 1 1, .int .i64 0, .int .i64 most], [w.heap.size + 1 + 1], rfl, c3, ?_, rfl, fun o => hnew _ o (by omega)⟩
   simp only [zC]
   exact ⟨_, _, [w.heap.size + 1 + 1], [], rfl, rfl, ho, [.int .i64 0], _, [], [], rfl, rfl, ⟨by simp [Rep, Value.oneCell'], rfl⟩, [.int .i64 most], [], [], [], rfl, rfl, ⟨by simp [Rep, Value.oneCell'], rfl⟩, rfl, rfl⟩
  have hfree : ∀ k ∈ [w.heap.size + 1 + 1 + 1, w.heap.size + 1 + 1], k = w.heap.size + 1 + 1 + 1 ∨ k = w.heap.size + 1 + 1 := fun k hk => by simpa using hk
  have hargs : uH (xM S) [.agg [], xs, .atom (.pointer (some ⟨w.heap.size + 1 + 1 + 1, 0, none⟩))] [.agg #[], u, .pointer (some ⟨w.heap.size + 1 + 1 + 1, 0, none⟩)] :=
   ⟨⟨[], by simp [Rep, zV], rfl⟩, r1, yc.2 ⟨rfl, rfl⟩, trivial⟩
  have hfv : xM S (.fn kf []) (.func (.func kf) #[] #[]) := ⟨[.func (.func kf) #[] #[]], by simp [Rep, zV], rfl⟩
  obtain ⟨hok, hdie⟩ := hfill (.pointer (some ⟨w.heap.size + 1 + 1 + 1, 0, none⟩))
  have hkept : ∀ {w5 : World}, uG (fun k => (Tryz.gw4 w most).heap.size ≤ k ∨ k ∈ [w.heap.size + 1 + 1 + 1, w.heap.size + 1 + 1]) (Tryz.gw4 w most) w5 → w5.heap[w.heap.size]? = some (.cells #[.pointer (some ⟨w.heap.size + 1 + 1 + 1, 0, none⟩)] 108) ∧ w5.heap[w.heap.size + 1]? = some (.cells #[.bool false] 4) := fun h =>
   have hm : ∀ k, k < w.heap.size + 2 → ¬ ((Tryz.gw4 w most).heap.size ≤ k ∨ k ∈ [w.heap.size + 1 + 1 + 1, w.heap.size + 1 + 1]) := fun k hk q => by
    rcases q with q | q
    ·rw [hsz] at q; omega
    ·have := hfree _ q; omega
   ⟨(h.block _ (hm _ (by omega))).trans c0, (h.block _ (hm _ (by omega))).trans c1⟩
  have hset : ∀ (w5 : World) (a b : Value), uG (fun k => w.heap.size ≤ k ∨ k ∈ ([] : List Nat)) w5 ((w5.setCell ⟨w.heap.size, 0, none⟩ a).setCell ⟨w.heap.size + 1, 0, none⟩ b) := fun w5 a b =>
   ⟨rfl, rfl, rfl, Nat.le_refl _, by simp [World.setCell], fun k hk => by
    simp only [World.setCell, Array.getElem?_modify]
    rw [if_neg (by rintro rfl; exact hk (.inl (by omega))), if_neg (by rintro rfl; exact hk (.inl (by omega)))]⟩
  have hset2 : ∀ (w5 : World) (a b : Value) (k : Nat), k ≠ w.heap.size → k ≠ w.heap.size + 1 → ((w5.setCell ⟨w.heap.size, 0, none⟩ a).setCell ⟨w.heap.size + 1, 0, none⟩ b).heap[k]? = w5.heap[k]? := fun w5 a b k h1 h2 => by
   simp only [World.setCell, Array.getElem?_modify]
   rw [if_neg (Ne.symm h2), if_neg (Ne.symm h1)]
  have hstay : ∀ {w5 w6 : World} {S5 : zf}, y5 S5 w5 → (∀ o, S5 w.heap.size o = none) → (∀ o, S5 (w.heap.size + 1) o = none) → (∀ k, k < w5.heap.size → k ≠ w.heap.size → k ≠ w.heap.size + 1 → w6.heap[k]? = w5.heap[k]?) → y5 S5 w6 := by
   intro w5 w6 S5 h k1 k2 hb
   have hne : ∀ b o u, S5 b o = some u → b ≠ w.heap.size ∧ b ≠ w.heap.size + 1 := fun b o u q => ⟨(by rintro rfl; rw [k1] at q; cases q), (by rintro rfl; rw [k2] at q; cases q)⟩
   refine ⟨fun b o u q => ?_, h.gok, h.blk.of (fun _ _ _ q => q) fun g x e => ?_⟩
   ·have h' := h _ _ _ q
    have hlt : b < w5.heap.size := by
     unfold zP at h'
     cases hh : w5.heap[b]? with
     | none => rw [hh] at h'; cases h'
     | some y => exact (Array.getElem?_eq_some_iff.1 hh).1
    unfold zP at h' ⊢
    rw [hb b hlt (hne b o u q).1 (hne b o u q).2]
    exact h'
   ·obtain ⟨_, v, hv⟩ := h.blk g x e
    exact hb g (h.blk.lt e) (hne g 0 v hv).1 (hne g 0 v hv).2
  cases died with
  | false =>
   have ha := hok rfl S (Tryz.gw4 w most) _ _ _ hS4 hfv hargs hbag (by simp)
   rcases ha with ⟨k, caps, fn, e1, _, _, _, h5⟩ | ⟨L, q, e1, _⟩
   ·cases e1
    refine Calls.mono (Tryz.gat_run T kf hmeth hcf u most w (fun w5 => ∃ (S' : zf) (G : List Nat), uG (fun k => (Tryz.gw4 w most).heap.size ≤ k ∨ k ∈ [w.heap.size + 1 + 1 + 1, w.heap.size + 1 + 1]) (Tryz.gw4 w most) w5 ∧ (∀ b o u, S b o = some u → S' b o = some u) ∧ (∀ b o, b < (Tryz.gw4 w most).heap.size → b ∉ [w.heap.size + 1 + 1 + 1, w.heap.size + 1 + 1] → S' b o = S b o) ∧ y5 S' w5 ∧
     Has S' w5.heap (.box y) (.pointer (some ⟨w.heap.size + 1 + 1 + 1, 0, none⟩)) G ∧ G.Nodup ∧ ∀ k ∈ G, (Tryz.gw4 w most).heap.size ≤ k ∨ k ∈ [w.heap.size + 1 + 1 + 1, w.heap.size + 1 + 1]) (Calls.mono h5 ?_)) ?_
    ·rintro e w5 ⟨v, rfl, S', F', G, b1, b2, b3, b4, b5, b6, b7, b8⟩
     have hv : v = .tuple #[] := by
      rcases b5 with ⟨q, _⟩ | ⟨cs, q, _⟩
      ·simp only [yi] at q
       obtain ⟨us, rfl, q⟩ := q
       cases us with
       | nil => rfl
       | cons a l => exact q.elim
      ·simp only [zw] at q
     subst hv
     obtain ⟨H1, H2, rfl, g1, g2⟩ := b6
     have eH : H2 = [] := g2
     subst eH
     simp only [List.nil_append] at b7 b8
     exact ⟨rfl, (hkept b1).1, (hkept b1).2, S', H1, b1, b2, b3, b4, g1, (List.nodup_append.1 b7).1, fun k hk => b8 k (by simp [hk])⟩
    ·rintro e w' ⟨rfl, w5, ⟨S', G, b1, b2, b3, b4, b5, b6, b7⟩, rfl⟩
     have hG : ∀ k ∈ G, w.heap.size + 2 ≤ k := fun k hk => by
      rcases b7 k hk with q | q
      ·rw [hsz] at q; omega
      ·have := hfree k q; omega
     have n1 : ∀ o, S' w.heap.size o = none := fun o => by rw [b3 _ _ (by rw [hsz]; omega) (fun q => by have := hfree _ q; omega)]; exact hnew _ _ (Nat.le_refl _)
     have n2 : ∀ o, S' (w.heap.size + 1) o = none := fun o => by rw [b3 _ _ (by rw [hsz]; omega) (fun q => by have := hfree _ q; omega)]; exact hnew _ _ (by omega)
     have hown := b5.own
     have hmono := wU (S := S') (h := w5.heap) (F := G) (fun k hk => (hown k hk).2)
     have hm5 : y5 (zA S' w5.heap G) w5 := ⟨fun b o u q => by
      unfold zA at q
      split at q
      ·exact q
      ·exact b4 b o u q, Gok.mono hmono b4.gok, b4.blk.of hmono fun _ _ _ => rfl⟩
     have hng : ∀ k, k < w.heap.size + 2 → k ∉ G := fun k hk q => by have := hG k q; omega
     refine ⟨_, zA S' w5.heap G, [], rfl, (hK4.trans (b1.mono (fun k hk => .inl (by
       rcases hk with q | q
       ·rw [hsz] at q; omega
       ·have := hfree k q; omega)))).trans (hset _ _ _), fun b o u q => hmono b o u (b2 b o u q), fun b o hb hbF => ?_, hstay hm5 (fun o => ?_) (fun o => ?_) (fun k _ h1 h2 => hset2 _ _ _ k h1 h2), .inl ⟨?_, rfl⟩, by simp, by simp⟩
     ·unfold zA
      rw [if_neg (hng b (by omega))]
      exact b3 b o (by rw [hsz]; omega) (fun q => by have := hfree _ q; omega)
     ·unfold zA
      rw [if_neg (hng _ (by omega))]
      exact n1 o
     ·unfold zA
      rw [if_neg (hng _ (by omega))]
      exact n2 o
     ·simp only [yi]
      refine ⟨[_, _], rfl, ?_, yc.2 ⟨rfl, rfl⟩, trivial⟩
      rcases b5 with ⟨q, _⟩ | ⟨cs, q1, q2, q3⟩
      ·simp only [yi, xM, Rep, false_and, exists_false] at q
      ·refine ⟨cs, ?_, q3⟩
       have := q1.shut hmono (by simpa only [A.live] using hl) (fun k hk o => by unfold zA; rw [if_pos hk])
       simp only [A.shut, hz] at this
       exact this
   ·cases e1
  | true =>
   obtain ⟨_, hcall⟩ := hdie rfl
   refine Calls.mono (Tryz.gat_die T kf hmeth hcf u most w (fun w5 => ∃ S' : zf, uG (fun k => (Tryz.gw4 w most).heap.size ≤ k ∨ k ∈ [w.heap.size + 1 + 1 + 1, w.heap.size + 1 + 1]) (Tryz.gw4 w most) w5 ∧ (∀ b o u, S b o = some u → S' b o = some u) ∧ (∀ b o, b < (Tryz.gw4 w most).heap.size → b ∉ [w.heap.size + 1 + 1 + 1, w.heap.size + 1 + 1] → S' b o = S b o) ∧ y5 S' w5) (Calls.mono (hcall S (Tryz.gw4 w most) _ _ hS4 hargs hbag (by simp)) ?_)) ?_
   ·rintro e w5 ⟨rfl, S', b1, b2, b3, b4⟩
    exact ⟨rfl, (hkept b1).1, (hkept b1).2, S', b1, b2, b3, b4⟩
   ·rintro e w' ⟨rfl, w5, ⟨S', b1, b2, b3, b4⟩, rfl⟩
    have n1 : ∀ o, S' w.heap.size o = none := fun o => by rw [b3 _ _ (by rw [hsz]; omega) (fun q => by have := hfree _ q; omega)]; exact hnew _ _ (Nat.le_refl _)
    have n2 : ∀ o, S' (w.heap.size + 1) o = none := fun o => by rw [b3 _ _ (by rw [hsz]; omega) (fun q => by have := hfree _ q; omega)]; exact hnew _ _ (by omega)
    have hs5 : w.heap.size ≤ w5.heap.size := by have := b1.size; rw [hsz] at this; omega
    refine ⟨_, S', [], rfl, (hK4.trans (b1.mono (fun k hk => .inl (by
      rcases hk with q | q
      ·rw [hsz] at q; omega
      ·have := hfree k q; omega)))).trans (((uG.refl _ _).alloc (.inl hs5) _).trans (hset _ _ _)), b2, fun b o hb hbF => b3 b o (by rw [hsz]; omega) (fun q => by have := hfree _ q; omega), hstay b4 n1 n2 (fun k hk h1 h2 => ?_), .inl ⟨?_, rfl⟩, by simp, by simp⟩
    ·rw [hset2 _ _ _ k h1 h2]
     show (w5.heap.push _)[k]? = _
     rw [Array.getElem?_push, if_neg (by omega)]
    ·simp only [yi]
     exact ⟨[_, _], rfl, yc.2 ⟨rfl, rfl⟩, yc.2 ⟨rfl, rfl⟩, trivial⟩
structure wC (α : Type) where
 e0 : α
 e1 : α
 deriving DecidableEq
instance {α : Type} [BEq α] : BEq (wC α) := ⟨fun x y => (x.e0 == y.e0) && (x.e1 == y.e1)⟩
section
variable {α : Type}
def V1 (f : α → A) (x : wC α) : A := .agg [f x.e0, f x.e1]
instance (f : α → A) [h : Wq f] : Wq (V1 f) := ⟨fun x => by simp [V1, A.isD, A.areD, h.isD]⟩
instance (f g : α → A) [h : Zi f g] : Zi (V1 f) (V1 g) := ⟨fun x => by simp [V1, A.loose, A.looses, h.lo]⟩
instance (f g : α → A) [h : Vb f g] : Vb (V1 f) (V1 g) := ⟨fun x => by simp [V1, A.live, A.lives, h.live], fun x => by simp [V1, A.shut, A.shuts, h.sh]⟩
instance (f : α → A) [h : vS f] : vS (V1 f) := ⟨fun x y q => by
 simp only [V1, A.agg.injEq, List.cons.injEq, and_true] at q
 cases x; cases y
 simp only [wC.mk.injEq]
 exact ⟨h.inj _ _ q.1, h.inj _ _ q.2⟩⟩
end
structure zD (α : Type) where
 e0 : α
 e1 : α
 e2 : α
 e3 : α
 e4 : α
 e5 : α
 e6 : α
 e7 : α
 e8 : α
 e9 : α
 e10 : α
 e11 : α
 e12 : α
 e13 : α
 e14 : α
 e15 : α
 deriving DecidableEq
instance {α : Type} [BEq α] : BEq (zD α) := ⟨fun x y => (x.e0 == y.e0) && (x.e1 == y.e1) && (x.e2 == y.e2) && (x.e3 == y.e3) && (x.e4 == y.e4) && (x.e5 == y.e5) && (x.e6 == y.e6) && (x.e7 == y.e7) && (x.e8 == y.e8) && (x.e9 == y.e9) && (x.e10 == y.e10) && (x.e11 == y.e11) && (x.e12 == y.e12) && (x.e13 == y.e13) && (x.e14 == y.e14) && (x.e15 == y.e15)⟩
section
variable {α : Type}
def jr (f : α → A) (x : zD α) : A := .agg [f x.e0, f x.e1, f x.e2, f x.e3, f x.e4, f x.e5, f x.e6, f x.e7, f x.e8, f x.e9, f x.e10, f x.e11, f x.e12, f x.e13, f x.e14, f x.e15]
instance (f : α → A) [h : Wq f] : Wq (jr f) := ⟨fun x => by simp [jr, A.isD, A.areD, h.isD]⟩
instance (f g : α → A) [h : Zi f g] : Zi (jr f) (jr g) := ⟨fun x => by simp [jr, A.loose, A.looses, h.lo]⟩
instance (f g : α → A) [h : Vb f g] : Vb (jr f) (jr g) := ⟨fun x => by simp [jr, A.live, A.lives, h.live], fun x => by simp [jr, A.shut, A.shuts, h.sh]⟩
instance (f : α → A) [h : vS f] : vS (jr f) := ⟨fun x y q => by
 simp only [jr, A.agg.injEq, List.cons.injEq, and_true] at q
 cases x; cases y
 simp only [zD.mk.injEq]
 exact ⟨h.inj _ _ q.1, h.inj _ _ q.2.1, h.inj _ _ q.2.2.1, h.inj _ _ q.2.2.2.1, h.inj _ _ q.2.2.2.2.1, h.inj _ _ q.2.2.2.2.2.1, h.inj _ _ q.2.2.2.2.2.2.1, h.inj _ _ q.2.2.2.2.2.2.2.1, h.inj _ _ q.2.2.2.2.2.2.2.2.1, h.inj _ _ q.2.2.2.2.2.2.2.2.2.1, h.inj _ _ q.2.2.2.2.2.2.2.2.2.2.1, h.inj _ _ q.2.2.2.2.2.2.2.2.2.2.2.1, h.inj _ _ q.2.2.2.2.2.2.2.2.2.2.2.2.1, h.inj _ _ q.2.2.2.2.2.2.2.2.2.2.2.2.2.1, h.inj _ _ q.2.2.2.2.2.2.2.2.2.2.2.2.2.2.1, h.inj _ _ q.2.2.2.2.2.2.2.2.2.2.2.2.2.2.2⟩⟩
end
section
variable {α : Type}
def zD.toL (x : zD α) : List α := [x.e0, x.e1, x.e2, x.e3, x.e4, x.e5, x.e6, x.e7, x.e8, x.e9, x.e10, x.e11, x.e12, x.e13, x.e14, x.e15]
def zD.ofL : List α → zD α → zD α
 | [x0, x1, x2, x3, x4, x5, x6, x7, x8, x9, fk, gn, x12, em, k9, gr], _ => ⟨x0, x1, x2, x3, x4, x5, x6, x7, x8, x9, fk, gn, x12, em, k9, gr⟩
 | _, d => d
theorem zD.toL_ofL (l : List α) (d : zD α) (h : l.length = 16) : (zD.ofL l d).toL = l := by
 match l, h with
 | [x0, x1, x2, x3, x4, x5, x6, x7, x8, x9, fk, gn, x12, em, k9, gr], _ => rfl
def zD.setI (x : zD α) (i : Int) (v : α) : zD α := zD.ofL (x.toL.set i.toNat v) x
theorem zD.setL (f : α → A) (x : zD α) (i : Int) (v : α) : (x.toL.map f).set i.toNat (f v) = ((zD.setI x i v).toL).map f := by
 unfold zD.setI
 rw [zD.toL_ofL _ _ (by simp [zD.toL]), List.map_set]
end
structure z7 where
 To : Int
 Out : Int
def xD (f0 : Int → A) (f1 : Int → A) (x : z7) : A := .agg [f0 x.To, f1 x.Out]
instance (f0 : Int → A) (f1 : Int → A) [h0 : Wq f0] [h1 : Wq f1] : Wq (xD f0 f1) := ⟨fun x => by simp [xD, A.isD, A.areD, h0.isD, h1.isD]⟩
instance (f0 : Int → A) (f1 : Int → A) (g0 : Int → A) (g1 : Int → A) [h0 : Zi f0 g0] [h1 : Zi f1 g1] : Zi (xD f0 f1) (xD g0 g1) := ⟨fun x => by simp [xD, A.loose, A.looses, h0.lo, h1.lo]⟩
instance (f0 : Int → A) (f1 : Int → A) (g0 : Int → A) (g1 : Int → A) [h0 : Vb f0 g0] [h1 : Vb f1 g1] : Vb (xD f0 f1) (xD g0 g1) := ⟨fun x => by simp [xD, A.live, A.lives, h0.live, h1.live], fun x => by simp [xD, A.shut, A.shuts, h0.sh, h1.sh]⟩
instance (f0 : Int → A) (f1 : Int → A) [h0 : vS f0] [h1 : vS f1] : vS (xD f0 f1) := ⟨fun x y h => by
 simp only [xD, A.agg.injEq, List.cons.injEq, and_true] at h
 cases x; cases y
 simp only [z7.mk.injEq]
 exact ⟨h0.inj _ _ h.1, h1.inj _ _ h.2⟩⟩
structure z6 where
 Inputs : Int
 Outputs : Int
 Rows : List (List z7)
def yb (f0 : Int → A) (f1 : Int → A) (f2 : List (List z7) → A) (x : z6) : A := .agg [f0 x.Inputs, f1 x.Outputs, f2 x.Rows]
instance (f0 : Int → A) (f1 : Int → A) (f2 : List (List z7) → A) (g0 : Int → A) (g1 : Int → A) (g2 : List (List z7) → A) [h0 : Zi f0 g0] [h1 : Zi f1 g1] [h2 : Zi f2 g2] : Zi (yb f0 f1 f2) (yb g0 g1 g2) := ⟨fun x => by simp [yb, A.loose, A.looses, h0.lo, h1.lo, h2.lo]⟩
instance (f0 : Int → A) (f1 : Int → A) (f2 : List (List z7) → A) [h0 : vS f0] [h1 : vS f1] [h2 : vS f2] : vS (yb f0 f1 f2) := ⟨fun x y h => by
 simp only [yb, A.agg.injEq, List.cons.injEq, and_true] at h
 cases x; cases y
 simp only [z6.mk.injEq]
 exact ⟨h0.inj _ _ h.1, h1.inj _ _ h.2.1, h2.inj _ _ h.2.2⟩⟩
instance (f0 : Int → A) (f1 : Int → A) (f2 : List (List z7) → A) (g0 : Int → A) (g1 : Int → A) (g2 : List (List z7) → A) (x : z6) [∀ y, LeA (f0 y) (g0 y)] [∀ y, LeA (f1 y) (g1 y)] [∀ y, LeA (f2 y) (g2 y)] [∀ y, SzA (f0 y) (g0 y)] [∀ y, SzA (f1 y) (g1 y)] [∀ y, SzA (f2 y) (g2 y)] : LeA (yb f0 f1 f2 x) (yb g0 g1 g2 x) := by unfold yb; infer_instance
structure zK where
 block_ : Int
 signature_ : zD (wC Int)
instance : BEq zK := ⟨fun x y => (x.block_ == y.block_) && (x.signature_ == y.signature_)⟩
def ZJ (f0 : Int → A) (f1 : zD (wC Int) → A) (x : zK) : A := .agg [f0 x.block_, f1 x.signature_]
structure xo where
 m_ : z6
 l_ : List (List Int)
 found_ : Unit
def xm (f0 : z6 → A) (f1 : List (List Int) → A) (f2 : Unit → A) (x : xo) : A := .agg [f0 x.m_, f1 x.l_, f2 x.found_]
instance (f0 : z6 → A) (f1 : List (List Int) → A) (f2 : Unit → A) (g0 : z6 → A) (g1 : List (List Int) → A) (g2 : Unit → A) [h0 : Zi f0 g0] [h1 : Zi f1 g1] [h2 : Zi f2 g2] : Zi (xm f0 f1 f2) (xm g0 g1 g2) := ⟨fun x => by simp [xm, A.loose, A.looses, h0.lo, h1.lo, h2.lo]⟩
instance (f0 : z6 → A) (f1 : List (List Int) → A) (f2 : Unit → A) [h0 : vS f0] [h1 : vS f1] [h2 : vS f2] : vS (xm f0 f1 f2) := ⟨fun x y h => by
 simp only [xm, A.agg.injEq, List.cons.injEq, and_true] at h
 cases x; cases y
 simp only [xo.mk.injEq]
 exact ⟨h0.inj _ _ h.1, h1.inj _ _ h.2, trivial⟩⟩
structure zp where
 state_ : Int
 from_ : Int
 input_ : Int
def jq (f0 : Int → A) (f1 : Int → A) (f2 : Int → A) (x : zp) : A := .agg [f0 x.state_, f1 x.from_, f2 x.input_]
instance (f0 : Int → A) (f1 : Int → A) (f2 : Int → A) [h0 : Wq f0] [h1 : Wq f1] [h2 : Wq f2] : Wq (jq f0 f1 f2) := ⟨fun x => by simp [jq, A.isD, A.areD, h0.isD, h1.isD, h2.isD]⟩
structure zT where
 S : Int
 T : Int
 Word : List Int
 Apart : Bool
def zG (f0 : Int → A) (f1 : Int → A) (f2 : List Int → A) (f3 : Bool → A) (x : zT) : A := .agg [f0 x.S, f1 x.T, f2 x.Word, f3 x.Apart]
instance (f0 : Int → A) (f1 : Int → A) (f2 : List Int → A) (f3 : Bool → A) [h0 : Wq f0] [h1 : Wq f1] [h2 : Wq f2] [h3 : Wq f3] : Wq (zG f0 f1 f2 f3) := ⟨fun x => by simp [zG, A.isD, A.areD, h0.isD, h1.isD, h2.isD, h3.isD]⟩
instance (f0 : Int → A) (f1 : Int → A) (f2 : List Int → A) (f3 : Bool → A) (g0 : Int → A) (g1 : Int → A) (g2 : List Int → A) (g3 : Bool → A) [h0 : Vb f0 g0] [h1 : Vb f1 g1] [h2 : Vb f2 g2] [h3 : Vb f3 g3] : Vb (zG f0 f1 f2 f3) (zG g0 g1 g2 g3) := ⟨fun x => by simp [zG, A.live, A.lives, h0.live, h1.live, h2.live, h3.live], fun x => by simp [zG, A.shut, A.shuts, h0.sh, h1.sh, h2.sh, h3.sh]⟩
structure zu where
 m_ : z6
 q_ : List (List Int)
 p_ : List (List Int)
 all_ : List (List Int)
 each_ : List (List (List Int))
 short_ : List (List Int)
 exact_ : List (List Int)
def wI (f0 : z6 → A) (f1 : List (List Int) → A) (f2 : List (List Int) → A) (f3 : List (List Int) → A) (f4 : List (List (List Int)) → A) (f5 : List (List Int) → A) (f6 : List (List Int) → A) (x : zu) : A := .agg [f0 x.m_, f1 x.q_, f2 x.p_, f3 x.all_, f4 x.each_, f5 x.short_, f6 x.exact_]
instance (f0 : z6 → A) (f1 : List (List Int) → A) (f2 : List (List Int) → A) (f3 : List (List Int) → A) (f4 : List (List (List Int)) → A) (f5 : List (List Int) → A) (f6 : List (List Int) → A) (g0 : z6 → A) (g1 : List (List Int) → A) (g2 : List (List Int) → A) (g3 : List (List Int) → A) (g4 : List (List (List Int)) → A) (g5 : List (List Int) → A) (g6 : List (List Int) → A) [h0 : Zi f0 g0] [h1 : Zi f1 g1] [h2 : Zi f2 g2] [h3 : Zi f3 g3] [h4 : Zi f4 g4] [h5 : Zi f5 g5] [h6 : Zi f6 g6] : Zi (wI f0 f1 f2 f3 f4 f5 f6) (wI g0 g1 g2 g3 g4 g5 g6) := ⟨fun x => by simp [wI, A.loose, A.looses, h0.lo, h1.lo, h2.lo, h3.lo, h4.lo, h5.lo, h6.lo]⟩
instance (f0 : z6 → A) (f1 : List (List Int) → A) (f2 : List (List Int) → A) (f3 : List (List Int) → A) (f4 : List (List (List Int)) → A) (f5 : List (List Int) → A) (f6 : List (List Int) → A) [h0 : vS f0] [h1 : vS f1] [h2 : vS f2] [h3 : vS f3] [h4 : vS f4] [h5 : vS f5] [h6 : vS f6] : vS (wI f0 f1 f2 f3 f4 f5 f6) := ⟨fun x y h => by
 simp only [wI, A.agg.injEq, List.cons.injEq, and_true] at h
 cases x; cases y
 simp only [zu.mk.injEq]
 exact ⟨h0.inj _ _ h.1, h1.inj _ _ h.2.1, h2.inj _ _ h.2.2.1, h3.inj _ _ h.2.2.2.1, h4.inj _ _ h.2.2.2.2.1, h5.inj _ _ h.2.2.2.2.2.1, h6.inj _ _ h.2.2.2.2.2.2⟩⟩
structure Xc where
structure zk where
 nodes_ : List (zD Int)
 leaves_ : Int
 most_ : Int
def y9 (f0 : List (zD Int) → A) (f1 : Int → A) (f2 : Int → A) (x : zk) : A := .agg [f0 x.nodes_, f1 x.leaves_, f2 x.most_]
instance (f0 : List (zD Int) → A) (f1 : Int → A) (f2 : Int → A) (g0 : List (zD Int) → A) (g1 : Int → A) (g2 : Int → A) [h0 : Zi f0 g0] [h1 : Zi f1 g1] [h2 : Zi f2 g2] : Zi (y9 f0 f1 f2) (y9 g0 g1 g2) := ⟨fun x => by simp [y9, A.loose, A.looses, h0.lo, h1.lo, h2.lo]⟩
instance (f0 : List (zD Int) → A) (f1 : Int → A) (f2 : Int → A) (g0 : List (zD Int) → A) (g1 : Int → A) (g2 : Int → A) [h0 : Vb f0 g0] [h1 : Vb f1 g1] [h2 : Vb f2 g2] : Vb (y9 f0 f1 f2) (y9 g0 g1 g2) := ⟨fun x => by simp [y9, A.live, A.lives, h0.live, h1.live, h2.live], fun x => by simp [y9, A.shut, A.shuts, h0.sh, h1.sh, h2.sh]⟩
instance (f0 : List (zD Int) → A) (f1 : Int → A) (f2 : Int → A) [h0 : vS f0] [h1 : vS f1] [h2 : vS f2] : vS (y9 f0 f1 f2) := ⟨fun x y h => by
 simp only [y9, A.agg.injEq, List.cons.injEq, and_true] at h
 cases x; cases y
 simp only [zk.mk.injEq]
 exact ⟨h0.inj _ _ h.1, h1.inj _ _ h.2.1, h2.inj _ _ h.2.2⟩⟩
structure Y1 where
structure Zh where
structure zh where
 at_ : Int
 w_ : List Int
def yh (f0 : Int → A) (f1 : List Int → A) (x : zh) : A := .agg [f0 x.at_, f1 x.w_]
instance (f0 : Int → A) (f1 : List Int → A) [h0 : Wq f0] [h1 : Wq f1] : Wq (yh f0 f1) := ⟨fun x => by simp [yh, A.isD, A.areD, h0.isD, h1.isD]⟩
instance (f0 : Int → A) (f1 : List Int → A) (g0 : Int → A) (g1 : List Int → A) (x : zh) [∀ y, LeA (f0 y) (g0 y)] [∀ y, LeA (f1 y) (g1 y)] [∀ y, SzA (f0 y) (g0 y)] [∀ y, SzA (f1 y) (g1 y)] : LeA (yh f0 f1 x) (yh g0 g1 x) := by unfold yh; infer_instance
instance (f0 : Int → A) (f1 : List Int → A) (g0 : Int → A) (g1 : List Int → A) (x y : zh) [∀ y z, SzA (f0 y) (g0 z)] [∀ y z, SzA (f1 y) (g1 z)] : SzA (yh f0 f1 x) (yh g0 g1 y) := by unfold yh; infer_instance
instance : ze8 (K := zK) (ZJ (eI .i64) (jr (V1 (eI .i64)))) := ⟨fun x y => by
 obtain ⟨_, ⟨⟨_, _⟩, ⟨_, _⟩, ⟨_, _⟩, ⟨_, _⟩, ⟨_, _⟩, ⟨_, _⟩, ⟨_, _⟩, ⟨_, _⟩, ⟨_, _⟩, ⟨_, _⟩, ⟨_, _⟩, ⟨_, _⟩, ⟨_, _⟩, ⟨_, _⟩, ⟨_, _⟩, ⟨_, _⟩⟩⟩ := x
 obtain ⟨_, ⟨⟨_, _⟩, ⟨_, _⟩, ⟨_, _⟩, ⟨_, _⟩, ⟨_, _⟩, ⟨_, _⟩, ⟨_, _⟩, ⟨_, _⟩, ⟨_, _⟩, ⟨_, _⟩, ⟨_, _⟩, ⟨_, _⟩, ⟨_, _⟩, ⟨_, _⟩, ⟨_, _⟩, ⟨_, _⟩⟩⟩ := y
 simp only [jr, V1, ZJ, eI, Vc, JO, JO.keyLs, zJ, BEq.beq, Option.map_some, Option.some.injEq, Value.agg.injEq, List.cons_append, List.nil_append, List.append_nil, Array.mk.injEq, List.cons.injEq, Value.int.injEq, true_and, and_true, Bool.and_eq_true, decide_eq_true_eq, and_assoc]⟩
def ZZ (fl : List (List z7)) : Option z6 :=
 some (z6.mk 1 2 fl)
abbrev R0_ : Type := Option (LR (List (List z7) × Int) (List (List z7)))
def UL (l_ : List z7) (dv : List (List z7)) (i_ : Int) : R0_ :=
 bif decide (i_ < ((l_.length : Nat) : Int)) then (
  gd ((0 : Int) ≤ i_ ∧ (i_ : Int) ≤ w64 (i_ + 1) ∧ (w64 (i_ + 1) : Int) ≤ ((l_.length : Nat) : Int)) <|
  gd (dv.length + ([((l_.drop i_.toNat).take ((w64 (i_ + 1)).toNat - i_.toNat))] : List (List z7)).length ≤ 4294967296) <|
  some (.next ((dv ++ ([((l_.drop i_.toNat).take ((w64 (i_ + 1)).toNat - i_.toNat))] : List (List z7))), w64 (i_ + 1))))
 else (
  some (.done dv))
def xF (l_ : List z7) : Option z6 :=
 (loop (fun s => UL l_ s.1 s.2) (([] : List (List z7)), 0)).bind fun t2 =>
 ZZ t2
def qg : Option z7 :=
 some (z7.mk (-1) (-1))
def WR (m_ : z6) (x_ : z7) : Option Bool :=
 (qg).bind fun r_ =>
 bif (x_.To == r_.To) && ((x_.Out == r_.Out) && true) then (
  some true)
 else (
  bif decide (x_.To ≥ 0) then (
   bif decide (x_.To < ((m_.Rows.length : Nat) : Int)) then (
    bif decide (x_.Out ≥ 0) then (
     some (decide (x_.Out < m_.Outputs)))
    else (
     some false))
   else (
    some false))
  else (
   some false))
def ZY (x_ : z7) (x1 : z6) : Option Bool :=
 (WR x1 x_).bind fun r_ =>
 some (!r_)
def xh : Option Int :=
 some (-1)
abbrev R1_ : Type := Option (LR Int (Unit ⊕ Int))
def wM (s_ : List z7) (f_ : z6) (x8 : Int) : R1_ :=
 bif decide (x8 < ((s_.length : Nat) : Int)) then (
  (idx s_ x8).bind fun d9 =>
  (ZY d9 f_).bind fun r_ =>
  bif r_ then (
   some (.done (.inr x8)))
  else (
   some (.next (w64 (x8 + 1)))))
 else (
  some (.done (.inl ())))
def xy (s_ : List z7) (f_ : z6) : Option Int :=
 (loop (fun s => wM s_ f_ s) 0).bind fun t2 =>
 match t2 with
 | .inl p => xh
 | .inr p => some p
def xi (s_ : List z7) (f_ : z6) : Option Bool :=
 (xy s_ f_).bind fun r_ =>
 some (decide (r_ ≥ 0))
def kW : Option Int :=
 some 0
def VF (m_ : z6) (ov : Int) : R1_ :=
 bif decide (ov < ((m_.Rows.length : Nat) : Int)) then (
  (idx m_.Rows ov).bind fun al =>
  bif ((al.length : Nat) : Int) != m_.Inputs then (
   some (.done (.inr 1)))
  else (
   (xi al m_).bind fun r_ =>
   bif r_ then (
    some (.done (.inr 1)))
   else (
    some (.next (w64 (ov + 1))))))
 else (
  some (.done (.inl ())))
def yR (m_ : z6) : Option Int :=
 bif decide (m_.Inputs > 16) then (
  some 3)
 else (
  bif decide (m_.Outputs > 16) then (
   some 3)
  else (
   bif decide (((m_.Rows.length : Nat) : Int) > 64) then (
    some 3)
   else (
    bif decide (m_.Inputs < 1) then (
     some 1)
    else (
     bif decide (m_.Outputs < 1) then (
      some 1)
     else (
      bif decide (((m_.Rows.length : Nat) : Int) < 1) then (
       some 1)
      else (
       (loop (fun s => VF m_ s) 0).bind fun t2 =>
       match t2 with
       | .inl p => kW
       | .inr p => some p))))))
def YW (m_ : z6) : Option ((Int × z6) × (Int × z6) × (Int × z6)) :=
 some ((9, m_), (11, m_), (12, m_))
def XR (m_ : z6) : Option z6 :=
 some m_
variable {σ : Type}
def qV (fk : Int) (kp : σ) : Option (LR (σ × Int) σ) :=
 some (.next (kp, w64 (fk + 1)))
def qS (yy : σ → (wC Int × z7) → Option (σ × Bool)) (fk : Int) (al : List z7) (gx : σ) (ba : Int) : Option (LR (σ × Int) (σ ⊕ σ)) :=
 bif decide (ba < ((al.length : Nat) : Int)) then (
  (idx al ba).bind fun ak =>
  (yy gx ((wC.mk fk ba), ak)).bind fun yr =>
  bif !yr.2 then (
   some (.done (.inr yr.1)))
  else (
   some (.next (yr.1, w64 (ba + 1)))))
 else (
  some (.done (.inl gx)))
def qU (x0 : z6) (yy : σ → (wC Int × z7) → Option (σ × Bool)) (de : σ) (fk : Int) : Option (LR (σ × Int) σ) :=
 bif decide (fk < ((x0.Rows.length : Nat) : Int)) then (
  (idx x0.Rows fk).bind fun al =>
  (loop (fun s => qS yy fk al s.1 s.2) (de, 0)).bind fun t3 =>
  match t3 with
  | .inl p => qV fk p
  | .inr p => some (.done p))
 else (
  some (.done de))
def uP (x0 : z6) {σ : Type} (yy : σ → (wC Int × z7) → Option (σ × Bool)) (sg : σ) : Option σ :=
 (loop (fun s => qU x0 yy s.1 s.2) (sg, 0)).bind fun t1 =>
 some t1
abbrev R2_ : Type := Option (List (wC Int))
def vJ (s_ : List (wC Int)) : R2_ :=
 gd ((0 : Int) ≤ 0 ∧ (0 : Int) ≤ ((s_.length : Nat) : Int) ∧ (((s_.length : Nat) : Int) : Int) ≤ ((s_.length : Nat) : Int) ∧ (((s_.length : Nat) : Int) : Int) ≤ ((s_.length : Nat) : Int)) <|
 some ((s_.drop 0).take (((s_.length : Nat) : Int).toNat - 0))
def uC (out : List (wC Int)) : R2_ :=
 (vJ out).bind fun r_ =>
 some r_
def wz (aj : List (wC Int)) (x8 : wC Int) (x9 : z7) : Option (LR (List (wC Int)) Empty) :=
 (qg).bind fun am =>
 bif (x9.To == am.To) && ((x9.Out == am.Out) && true) then (
  gd (aj.length + [x8].length ≤ 4294967296) <|
  some (.next (aj ++ [x8])))
 else (
  some (.next aj))
def jP (m_ : z6) : R2_ :=
 (XR m_).bind fun ai =>
 (uP ai (yOf (fun s x => wz s x.1 x.2)) (.next ([] : List (wC Int)))).bind fun t2 =>
 match t2 with
 | .next aj => (
  uC aj)
 | .done z => nomatch z
def kV (m_ : z6) : Option (Bool × Int) :=
 (yR m_).bind fun r_ =>
 bif r_ != 0 then (
  some (false, r_))
 else (
  (jP m_).bind fun ai =>
  some (((ai.length : Nat) : Int) == 0, 0))
def kR (x0 : z6) : Option Bool :=
 (kV x0).bind fun r_ =>
 some r_.1
def ZD (mg : Int → (List Bool) → z6 → Option (List Bool × z6)) (al : List z7) (x1 : List Bool) (iy : Int) (il : Int) (ki : List (List z7)) (fe : Int) : Option (LR (List Bool × Int × Int × List (List z7) × Int) ((List Bool × z6))) :=
 bif decide (fe < ((al.length : Nat) : Int)) then (
  (idx al fe).bind fun ak =>
  (mg ak.To x1 (z6.mk iy il ki)).bind fun r_ =>
  some (.next (r_.1, r_.2.Inputs, r_.2.Outputs, r_.2.Rows, w64 (fe + 1))))
 else (
  some (.done (x1, (z6.mk iy il ki))))
def ua (mg : Int → (List Bool) → z6 → Option (List Bool × z6)) (s_ : Int) (y0 : List Bool) (y1 : z6) : Option (List Bool × z6) :=
 bif s_ == (-1) then (
  some (y0, y1))
 else (
  (idx y0 s_).bind fun se =>
  bif se then (
   some (y0, y1))
  else (
   (idx y0 s_).bind fun sk =>
   (idx y1.Rows s_).bind fun al =>
   (loop (fun s => ZD mg al s.1 s.2.1 s.2.2.1 s.2.2.2.1 s.2.2.2.2) ((y0.set s_.toNat true), y1.Inputs, y1.Outputs, y1.Rows, 0)).bind fun t1 =>
   some t1))
def xO (fu : Nat) : Int → (List Bool) → z6 → Option (List Bool × z6) := Nat.rec (motive := fun _ => Int → (List Bool) → z6 → Option (List Bool × z6)) (fun _ _ _ => none) (fun _ ih => ua ih) fu
def wP : Option Int :=
 some (-1)
def ka (s_ : List Bool) (v_ : Bool) (x8 : Int) : R1_ :=
 bif decide (x8 < ((s_.length : Nat) : Int)) then (
  (idx s_ x8).bind fun d9 =>
  bif v_ == d9 then (
   some (.done (.inr x8)))
  else (
   some (.next (w64 (x8 + 1)))))
 else (
  some (.done (.inl ())))
def u4 (s_ : List Bool) (v_ : Bool) : Option Int :=
 (loop (fun s => ka s_ v_ s) 0).bind fun t2 =>
 match t2 with
 | .inl p => wP
 | .inr p => some p
def wR (s_ : List Bool) (v_ : Bool) : Option Bool :=
 (u4 s_ v_).bind fun r_ =>
 some (decide (r_ ≥ 0))
def vM (m_ : z6) : Option (Bool × Int) :=
 (yR m_).bind fun r_ =>
 bif r_ != 0 then (
  some (false, r_))
 else (
  gd ((0 : Int) ≤ ((m_.Rows.length : Nat) : Int) ∧ (((m_.Rows.length : Nat) : Int) : Int) ≤ 4294967296) <|
  (xO z3s 0 (List.replicate ((m_.Rows.length : Nat) : Int).toNat false) m_).bind fun ai =>
  (wR ai.1 false).bind fun am =>
  some (!am, 0))
def kQ (x0 : z6) : Option Bool :=
 (vM x0).bind fun r_ =>
 some r_.1
def XO (m_ : z6) : Option z6 :=
 some m_
def YT (out : zD (wC Int)) : Option (zD (wC Int)) :=
 some out
abbrev R3_ : Type := Option (LR (zD (wC Int) × Int) (zD (wC Int)))
def qN (ep : Int) (ay : zD (wC Int)) : R3_ :=
 some (.next (ay, w64 (ep + 1)))
def QA (p_ : List Int) (al : List z7) (aj : zD (wC Int)) (ep : Int) : R3_ :=
 bif decide (ep < ((al.length : Nat) : Int)) then (
  (idx al ep).bind fun ak =>
  (idx (zD.toL aj) ep).bind fun cell =>
  (some (zD.setI aj ep (wC.mk ak.Out (-1)))).bind fun arr =>
  bif ak.To != (-1) then (
   (idx p_ ak.To).bind fun bg =>
   (idx (zD.toL arr) ep).bind fun ca =>
   (some (zD.setI arr ep (wC.mk ca.e0 bg))).bind fun arr1 =>
   qN ep arr1)
  else (
   qN ep arr))
 else (
  some (.done aj))
def Uj (m_ : z6) (p_ : List Int) (s_ : Int) : Option (zD (wC Int)) :=
 (idx m_.Rows s_).bind fun al =>
 (loop (fun s => QA p_ al s.1 s.2) ((zD.mk (wC.mk 0 0) (wC.mk 0 0) (wC.mk 0 0) (wC.mk 0 0) (wC.mk 0 0) (wC.mk 0 0) (wC.mk 0 0) (wC.mk 0 0) (wC.mk 0 0) (wC.mk 0 0) (wC.mk 0 0) (wC.mk 0 0) (wC.mk 0 0) (wC.mk 0 0) (wC.mk 0 0) (wC.mk 0 0)), 0)).bind fun t2 =>
 YT t2
def jL (out : List Int) : Option (List Int) :=
 some out
abbrev R4_ : Type := Option (LR ((List (zK × Int)) × List Int × Int) (List Int))
def vK (aj : List Int) (fh : Int) (bg : Int) (r_ : zD (wC Int)) (io : List (zK × Int)) : R4_ :=
 (some ((z1F io (zK.mk bg r_)).getD 0)).bind fun val =>
 (idx aj fh).bind fun fx =>
 some (.next (io, (aj.set fh.toNat val), w64 (fh + 1)))
def WN (m_ : z6) (p_ : List Int) (names : List (zK × Int)) (aj : List Int) (fh : Int) : R4_ :=
 bif decide (fh < ((p_.length : Nat) : Int)) then (
  (idx p_ fh).bind fun bg =>
  (Uj m_ p_ fh).bind fun r_ =>
  (some ((z1F names (zK.mk bg r_)).getD 0)).bind fun qw =>
  bif !((z1F names (zK.mk bg r_)).isSome) then (
   vK aj fh bg r_ (z5j names (zK.mk bg r_) ((names.length : Nat) : Int)))
  else (
   vK aj fh bg r_ names))
 else (
  some (.done aj))
def YU (m_ : z6) (p_ : List Int) : Option (List Int) :=
 gd ((0 : Int) ≤ ((p_.length : Nat) : Int) ∧ (((p_.length : Nat) : Int) : Int) ≤ 4294967296) <|
 (loop (fun s => WN m_ p_ s.1 s.2.1 s.2.2) (([] : List (zK × Int)), (List.replicate ((p_.length : Nat) : Int).toNat (0 : Int)), 0)).bind fun t2 =>
 jL t2
def vI : Option Bool :=
 some true
abbrev R5_ : Type := Option (LR Int (Unit ⊕ Bool))
def Zv (s1 : List Int) (s2 : List Int) (em : Int) : R5_ :=
 bif decide (em < ((s1.length : Nat) : Int)) then (
  (idx s1 em).bind fun ow =>
  (idx s2 em).bind fun nh =>
  bif ow != nh then (
   some (.done (.inr false)))
  else (
   some (.next (w64 (em + 1)))))
 else (
  some (.done (.inl ())))
def uW (s1 : List Int) (s2 : List Int) : Option Bool :=
 bif ((s1.length : Nat) : Int) != ((s2.length : Nat) : Int) then (
  some false)
 else (
  (loop (fun s => Zv s1 s2 s) 0).bind fun t2 =>
  match t2 with
  | .inl p => vI
  | .inr p => some p)
def qO (x0 : z6) (yy : σ → (List Int) → Option (σ × Bool)) (de : σ) (p_ : List Int) : Option (LR (σ × List Int) σ) :=
 (yy de p_).bind fun yr =>
 bif yr.2 then (
  (YU x0 p_).bind fun r_ =>
  (uW p_ r_).bind fun ai =>
  bif ai then (
   some (.done yr.1))
  else (
   some (.next (yr.1, r_))))
 else (
  some (.done yr.1))
def uO (x0 : z6) {σ : Type} (yy : σ → (List Int) → Option (σ × Bool)) (sg : σ) : Option σ :=
 gd ((0 : Int) ≤ ((x0.Rows.length : Nat) : Int) ∧ (((x0.Rows.length : Nat) : Int) : Int) ≤ 4294967296) <|
 (loop (fun s => qO x0 yy s.1 s.2) (sg, (List.replicate ((x0.Rows.length : Nat) : Int).toNat (0 : Int)))).bind fun t1 =>
 some t1
def jM (p_ : List Int) (n_ : Int) : Option (List Int × Int × Int) :=
 some (p_, n_, 0)
def vL (nd : List Int) (cb : Int) (k9 : List Int) : Option (LR (List Int × Int) Empty) :=
 some (.next (k9, w64 (cb + 1)))
def YV (m_ : z6) : Option (List Int × Int × Int) :=
 (yR m_).bind fun r_ =>
 bif r_ != 0 then (
  some (([] : List Int), 0, r_))
 else (
  (XO m_).bind fun ai =>
  (uO ai (yOf (fun s x => vL s.1 s.2 x)) (.next (([] : List Int), (-1)))).bind fun t2 =>
  match t2 with
  | .next (nd, cb) => (
   jM nd cb)
  | .done z => nomatch z)
def uw (m_ : Int) : Option Int :=
 some m_
abbrev R6_ : Type := Option (LR (Int × Int) Int)
def YN (x_ : List Int) (ox : Int) (i_ : Int) : R6_ :=
 bif decide (i_ < ((x_.length : Nat) : Int)) then (
  (idx x_ i_).bind fun lp =>
  some (.next ((mx ox lp), w64 (i_ + 1))))
 else (
  some (.done ox))
def jK (x_ : List Int) : Option Int :=
 bif decide (((x_.length : Nat) : Int) < 1) then (
  none)
 else (
  (idx x_ 0).bind fun mc =>
  (loop (fun s => YN x_ s.1 s.2) (mc, 1)).bind fun t2 =>
  uw t2)
def kP (x0 : z6) : Option Bool :=
 (YV x0).bind fun r_ =>
 (jK r_.1).bind fun ai =>
 some (ai == (w64 (((r_.1.length : Nat) : Int) - 1)))
def qP : Option Int :=
 some 0
def wi (m_ : z6) : Option Int :=
 (yR m_).bind fun r_ =>
 bif r_ != 0 then (
  some r_)
 else (
  (YW m_).bind fun ai =>
  (kR ai.1.2).bind fun am =>
  bif !am then (
   some ai.1.1)
  else (
   (kQ ai.2.1.2).bind fun az =>
   bif !az then (
    some ai.2.1.1)
   else (
    (kP ai.2.2.2).bind fun cp =>
    bif !cp then (
     some ai.2.2.1)
    else (
     qP))))
def WZ (n_ : Int) : Option Int :=
 some n_
def z0g (m_ : z6) (states : Int) (cb : Int) (i_ : Int) : R6_ :=
 bif decide (i_ < (w64 (states * m_.Inputs))) then (
  bif decide (cb ≤ 65536) then (
   some (.next (w64 (cb * (w64 (states * m_.Outputs))), w64 (i_ + 1))))
  else (
   some (.done cb)))
 else (
  some (.done cb))
def VL (m_ : z6) (states : Int) : Option Int :=
 bif decide (states > 65536) then (
  some 65537)
 else (
  (loop (fun s => z0g m_ states s.1 s.2) (1, 0)).bind fun t2 =>
  WZ t2)
def VP (m_ : z6) (states : Int) : Option Int :=
 (wi m_).bind fun r_ =>
 bif r_ != 0 then (
  some r_)
 else (
  bif decide (states < 1) then (
   some 1)
  else (
   (VL m_ states).bind fun ai =>
   bif decide (ai > 65536) then (
    some 3)
   else (
    some 0)))
def xL (m_ : z6) (states : Int) : Option (Int × Int) :=
 (VP m_ states).bind fun r_ =>
 bif r_ != 0 then (
  some (0, r_))
 else (
  (VL m_ states).bind fun ai =>
  some (ai, 0))
def Wr (c_ : Int) (x1 : Int) : Option Bool :=
 bif decide (c_ < 0) then (
  some true)
 else (
  some (decide (c_ ≥ x1)))
def wr : Option Int :=
 some (-1)
def qJ (s_ : List Int) (f_ : Int) (x8 : Int) : R1_ :=
 bif decide (x8 < ((s_.length : Nat) : Int)) then (
  (idx s_ x8).bind fun d9 =>
  (Wr d9 f_).bind fun r_ =>
  bif r_ then (
   some (.done (.inr x8)))
  else (
   some (.next (w64 (x8 + 1)))))
 else (
  some (.done (.inl ())))
def vz (s_ : List Int) (f_ : Int) : Option Int :=
 (loop (fun s => qJ s_ f_ s) 0).bind fun t2 =>
 match t2 with
 | .inl p => wr
 | .inr p => some p
def ws (s_ : List Int) (f_ : Int) : Option Bool :=
 (vz s_ f_).bind fun r_ =>
 some (decide (r_ ≥ 0))
def XW (w_ : List Int) (inputs : Int) : Option Int :=
 bif decide (inputs > 16) then (
  some 3)
 else (
  bif decide (((w_.length : Nat) : Int) > 256) then (
   some 3)
  else (
   bif decide (inputs < 1) then (
    some 1)
   else (
    (ws w_ inputs).bind fun r_ =>
    bif r_ then (
     some 1)
    else (
     some 0))))
def XJ : Option Int :=
 some 0
def JH (l_ : List (List Int)) (inputs : Int) (gc : Int) : R1_ :=
 bif decide (gc < ((l_.length : Nat) : Int)) then (
  (idx l_ gc).bind fun cq =>
  (XW cq inputs).bind fun r_ =>
  bif r_ != 0 then (
   some (.done (.inr r_)))
  else (
   some (.next (w64 (gc + 1)))))
 else (
  some (.done (.inl ())))
def W3 (l_ : List (List Int)) (inputs : Int) : Option Int :=
 bif decide (inputs > 16) then (
  some 3)
 else (
  bif decide (((l_.length : Nat) : Int) > 4096) then (
   some 3)
  else (
   bif decide (inputs < 1) then (
    some 1)
   else (
    (loop (fun s => JH l_ inputs s) 0).bind fun t2 =>
    match t2 with
    | .inl p => XJ
    | .inr p => some p)))
def ZL (x_ : Int) : Option Bool :=
 some (x_ != x_)
def ju (x_ : Int) (y_ : Int) : Option Int :=
 (ZL x_).bind fun r_ =>
 (ZL y_).bind fun ai =>
 bif r_ then (
  bif ai then (
   some 0)
  else (
   some (-1)))
 else (
  bif ai then (
   some 1)
  else (
   bif decide (x_ < y_) then (
    some (-1))
   else (
    bif decide (x_ > y_) then (
     some 1)
    else (
     some 0))))
def wS (s1 : List Int) (s2 : List Int) : Option Int :=
 bif decide (((s1.length : Nat) : Int) < ((s2.length : Nat) : Int)) then (
  some (-1))
 else (
  some 0)
def kb (s1 : List Int) (s2 : List Int) (gn : Int) : R1_ :=
 bif decide (gn < ((s1.length : Nat) : Int)) then (
  (idx s1 gn).bind fun ow =>
  bif decide (gn ≥ ((s2.length : Nat) : Int)) then (
   some (.done (.inr 1)))
  else (
   (idx s2 gn).bind fun nh =>
   (ju ow nh).bind fun r_ =>
   bif r_ != 0 then (
    some (.done (.inr r_)))
   else (
    some (.next (w64 (gn + 1))))))
 else (
  some (.done (.inl ())))
def u9 (s1 : List Int) (s2 : List Int) : Option Int :=
 (loop (fun s => kb s1 s2 s) 0).bind fun t2 =>
 match t2 with
 | .inl p => wS s1 s2
 | .inr p => some p
def V4 : Option Int :=
 some 0
def z0l (vals : List Int) (x8 : Int) : R1_ :=
 bif decide (x8 < ((vals.length : Nat) : Int)) then (
  (idx vals x8).bind fun pn =>
  bif pn != 0 then (
   some (.done (.inr pn)))
  else (
   some (.next (w64 (x8 + 1)))))
 else (
  some (.done (.inl ())))
def Kj (vals : List Int) : Option Int :=
 (loop (fun s => z0l vals s) 0).bind fun t2 =>
 match t2 with
 | .inl p => V4
 | .inr p => some p
def wD (a_ : List Int) (b_ : List Int) : Option Int :=
 (ju ((a_.length : Nat) : Int) ((b_.length : Nat) : Int)).bind fun r_ =>
 (u9 a_ b_).bind fun ai =>
 (Kj ([r_, ai])).bind fun am =>
 some am
def XK : Option Bool :=
 some true
def JI (l_ : List (List Int)) (i_ : Int) : R5_ :=
 bif decide (i_ < ((l_.length : Nat) : Int)) then (
  (idx l_ (w64 (i_ - 1))).bind fun cq =>
  (idx l_ i_).bind fun iu =>
  (wD cq iu).bind fun r_ =>
  bif decide (r_ ≥ 0) then (
   some (.done (.inr false)))
  else (
   some (.next (w64 (i_ + 1)))))
 else (
  some (.done (.inl ())))
def Qi (l_ : List (List Int)) : Option Bool :=
 (loop (fun s => JI l_ s) 1).bind fun t2 =>
 match t2 with
 | .inl p => XK
 | .inr p => some p
def XI (n_ : Int) : Option Int :=
 some n_
def JG (l_ : List (List Int)) (cb : Int) (x7 : Int) : R6_ :=
 bif decide (x7 < ((l_.length : Nat) : Int)) then (
  (idx l_ x7).bind fun cq =>
  some (.next (w64 (cb + ((cq.length : Nat) : Int)), w64 (x7 + 1))))
 else (
  some (.done cb))
def W2 (l_ : List (List Int)) : Option Int :=
 (loop (fun s => JG l_ s.1 s.2) (0, 0)).bind fun t2 =>
 XI t2
def qE (l_ : List (List Int)) (inputs : Int) : Option Int :=
 (W3 l_ inputs).bind fun r_ =>
 bif r_ != 0 then (
  some r_)
 else (
  (Qi l_).bind fun ai =>
  bif !ai then (
   some 1)
  else (
   (W2 l_).bind fun am =>
   bif decide (am > 65536) then (
    some 3)
   else (
    some 0)))
def qq (m_ : z6) (l_ : List (List Int)) (states : Int) : Option Int :=
 (VP m_ states).bind fun r_ =>
 bif r_ != 0 then (
  some r_)
 else (
  (qE l_ m_.Inputs).bind fun ai =>
  some ai)
abbrev R7_ : Type := Option (z6 × Int)
def jd (m_ : z6) (states : Int) : R7_ :=
 some (m_, states)
def Ze (t_ : z6) (next : Int) : Option Bool :=
 some (next == ((t_.Rows.length : Nat) : Int))
abbrev R8_ : Type := Option (LR (Int × Int) (Int ⊕ Bool))
def Zd (s_ : Int) (fm : Int) : R8_ :=
 some (.next (fm, w64 (s_ + 1)))
def ul (fh : Int) (gv : Int) : R8_ :=
 some (.next (gv, w64 (fh + 1)))
def VN (al : List z7) (cm : Int) (fh : Int) : R8_ :=
 bif decide (fh < ((al.length : Nat) : Int)) then (
  (idx al fh).bind fun ak =>
  bif decide (ak.To > cm) then (
   some (.done (.inr false)))
  else (
   bif ak.To == cm then (
    ul fh (w64 (cm + 1)))
   else (
    ul fh cm)))
 else (
  some (.done (.inl cm)))
def VO (t_ : z6) (cr : Int) (s_ : Int) : R8_ :=
 bif decide (s_ < cr) then (
  (idx t_.Rows s_).bind fun al =>
  (loop (fun s => VN al s.1 s.2) (cr, 0)).bind fun t4 =>
  match t4 with
  | .inl p => Zd s_ p
  | .inr p => some (.done (.inr p)))
 else (
  some (.done (.inl cr)))
def XS (t_ : z6) : Option Bool :=
 (loop (fun s => VO t_ s.1 s.2) (1, 0)).bind fun t2 =>
 match t2 with
 | .inl p => Ze t_ p
 | .inr p => some p
def Ut : Option Int :=
 some (-1)
abbrev R9_ : Type := Option (LR (Int × Int × Int) (Unit ⊕ Int))
def X5 (gr : Int) (kj : Int) (jn : Int) (oy : Int) (oj : Int) : R9_ :=
 bif jn != oj then (
  some (.done (.inr gr)))
 else (
  some (.next (kj, oy, w64 (gr + 1))))
def X6 (other : z6) (t_ : Int) (gr : Int) (ge : Int) (kj : Int) (jn : Int) : R9_ :=
 bif t_ != (-1) then (
  (idx other.Rows t_).bind fun al =>
  (idx al ge).bind fun ak =>
  X5 gr kj jn ak.To ak.Out)
 else (
  X5 gr kj jn (-1) (-1))
def z1r (m_ : z6) (other : z6) (w_ : List Int) (s_ : Int) (t_ : Int) (gr : Int) : R9_ :=
 bif decide (gr < ((w_.length : Nat) : Int)) then (
  (idx w_ gr).bind fun ge =>
  bif s_ != (-1) then (
   (idx m_.Rows s_).bind fun dp =>
   (idx dp ge).bind fun ar =>
   X6 other t_ gr ge ar.To ar.Out)
  else (
   X6 other t_ gr ge (-1) (-1)))
 else (
  some (.done (.inl ())))
def Ja (m_ : z6) (other : z6) (w_ : List Int) : Option Int :=
 (loop (fun s => z1r m_ other w_ s.1 s.2.1 s.2.2) (0, 0, 0)).bind fun t2 =>
 match t2 with
 | .inl p => Ut
 | .inr p => some p
def WY : Option Bool :=
 some true
abbrev zfv : Type := Option (LR (List Bool × List (wC Int) × Int) ((List Bool × List (wC Int)) ⊕ Bool))
def ZF (jv : Int) (cw : List Bool) (ni : List (wC Int)) : zfv :=
 some (.next (cw, ni, w64 (jv + 1)))
def z0e (t_ : z6) (ic : wC Int) (al : List z7) (dg : List Bool) (jo : List (wC Int)) (jv : Int) : zfv :=
 bif decide (jv < ((al.length : Nat) : Int)) then (
  (idx al jv).bind fun ak =>
  (idx t_.Rows ic.e1).bind fun dp =>
  (idx dp jv).bind fun ar =>
  bif ak.Out != ar.Out then (
   some (.done (.inr false)))
  else (
   (idx dg (w64 ((w64 (ak.To * ((t_.Rows.length : Nat) : Int))) + ar.To))).bind fun mi =>
   bif !mi then (
    (idx dg (w64 ((w64 (ak.To * ((t_.Rows.length : Nat) : Int))) + ar.To))).bind fun oc =>
    gd (jo.length + [(wC.mk ak.To ar.To)].length ≤ 4294967296) <|
    ZF jv (dg.set (w64 ((w64 (ak.To * ((t_.Rows.length : Nat) : Int))) + ar.To)).toNat true) (jo ++ [(wC.mk ak.To ar.To)]))
   else (
    ZF jv dg jo)))
 else (
  some (.done (.inl (dg, jo))))
def z0f (m_ : z6) (t_ : z6) (ia : List Bool) (list : List (wC Int)) : Option (LR (List Bool × List (wC Int)) (Unit ⊕ Bool)) :=
 bif decide (((list.length : Nat) : Int) > 0) then (
  (idx list (w64 (((list.length : Nat) : Int) - 1))).bind fun ic =>
  gd ((0 : Int) ≤ w64 (((list.length : Nat) : Int) - 1) ∧ (w64 (((list.length : Nat) : Int) - 1) : Int) ≤ ((list.length : Nat) : Int)) <|
  (idx m_.Rows ic.e0).bind fun al =>
  (loop (fun s => z0e t_ ic al s.1 s.2.1 s.2.2) (ia, (list.take (w64 (((list.length : Nat) : Int) - 1)).toNat), 0)).bind fun t3 =>
  match t3 with
  | .inl p => some (.next p)
  | .inr p => some (.done (.inr p)))
 else (
  some (.done (.inl ())))
def Ke (m_ : z6) (t_ : z6) : Option Bool :=
 gd ((0 : Int) ≤ w64 (((m_.Rows.length : Nat) : Int) * ((t_.Rows.length : Nat) : Int)) ∧ (w64 (((m_.Rows.length : Nat) : Int) * ((t_.Rows.length : Nat) : Int)) : Int) ≤ 4294967296) <|
 (idx (List.replicate (w64 (((m_.Rows.length : Nat) : Int) * ((t_.Rows.length : Nat) : Int))).toNat false) 0).bind fun l5 =>
 (loop (fun s => z0f m_ t_ s.1 s.2) (((List.replicate (w64 (((m_.Rows.length : Nat) : Int) * ((t_.Rows.length : Nat) : Int))).toNat false).set (0 : Int).toNat true), ([(wC.mk 0 0)] : List (wC Int)))).bind fun t2 =>
 match t2 with
 | .inl p => WY
 | .inr p => some p
def jS (x_ : xo) (t_ : z6) : Option Bool :=
 (Ke x_.m_ t_).bind fun ai =>
 some (!ai)
def WW (x_ : xo) (t_ : z6) (em : Int) : R5_ :=
 bif decide (em < ((x_.l_.length : Nat) : Int)) then (
  (idx x_.l_ em).bind fun cq =>
  (Ja x_.m_ t_ cq).bind fun am =>
  bif am != (-1) then (
   some (.done (.inr false)))
  else (
   some (.next (w64 (em + 1)))))
 else (
  some (.done (.inl ())))
def zS (x_ : xo) (t_ : z6) : Option Bool :=
 (XS t_).bind fun r_ =>
 bif !r_ then (
  some false)
 else (
  (loop (fun s => WW x_ t_ s) 0).bind fun t2 =>
  match t2 with
  | .inl p => jS x_ t_
  | .inr p => some p)
def uR (yr : σ × Bool) (oz : List z7) (k_ : Int) : Option (LR (σ × List z7) σ) :=
 bif decide (k_ < 0) then (
  some (.done yr.1))
 else (
  some (.next (yr.1, oz)))
def xC (x0 : z6) (x1 : Int) (fp : List z7) (aq : Int) : Option (LR (List z7 × Int) ((List z7 × Int))) :=
 bif decide (aq ≥ 0) then (
  (idx fp aq).bind fun r9 =>
  (idx fp aq).bind fun bw =>
  (idx (fp.set aq.toNat (z7.mk bw.To (w64 (bw.Out + 1)))) aq).bind fun l5 =>
  bif decide (l5.Out < x0.Outputs) then (
   some (.done ((fp.set aq.toNat (z7.mk bw.To (w64 (bw.Out + 1)))), aq)))
  else (
   (idx (fp.set aq.toNat (z7.mk bw.To (w64 (bw.Out + 1)))) aq).bind fun j6 =>
   (idx ((fp.set aq.toNat (z7.mk bw.To (w64 (bw.Out + 1)))).set aq.toNat (z7.mk j6.To 0)) aq).bind fun ib =>
   (idx (((fp.set aq.toNat (z7.mk bw.To (w64 (bw.Out + 1)))).set aq.toNat (z7.mk j6.To 0)).set aq.toNat (z7.mk (w64 (ib.To + 1)) ib.Out)) aq).bind fun ra =>
   bif decide (ra.To < x1) then (
    some (.done ((((fp.set aq.toNat (z7.mk bw.To (w64 (bw.Out + 1)))).set aq.toNat (z7.mk j6.To 0)).set aq.toNat (z7.mk (w64 (ib.To + 1)) ib.Out)), aq)))
   else (
    (idx (((fp.set aq.toNat (z7.mk bw.To (w64 (bw.Out + 1)))).set aq.toNat (z7.mk j6.To 0)).set aq.toNat (z7.mk (w64 (ib.To + 1)) ib.Out)) aq).bind fun po =>
    some (.next (((((fp.set aq.toNat (z7.mk bw.To (w64 (bw.Out + 1)))).set aq.toNat (z7.mk j6.To 0)).set aq.toNat (z7.mk (w64 (ib.To + 1)) ib.Out)).set aq.toNat (z7.mk 0 po.Out)), w64 (aq - 1))))))
 else (
  some (.done (fp, aq)))
def y4 (x0 : z6) (x1 : Int) (yy : σ → z6 → Option (σ × Bool)) (eu : List (Option (Int × Int × Int))) (de : σ) (all : List z7) : Option (LR (σ × List z7) σ) :=
 (Qx all eu).bind fun rows =>
 (yy de (z6.mk x0.Inputs x0.Outputs rows)).bind fun yr =>
 bif yr.2 then (
  (loop (fun s => xC x0 x1 s.1 s.2) (all, w64 (((all.length : Nat) : Int) - 1))).bind fun t4 =>
  uR yr t4.1 t4.2)
 else (
  some (.done yr.1))
def uS (x0 : z6) (x1 : Int) (yy : σ → z6 → Option (σ × Bool)) (sg : σ) (eu : List (Option (Int × Int × Int))) : Option σ :=
 (loop (fun s => y4 x0 x1 yy eu s.1 s.2) (sg, (List.replicate (w64 (x1 * x0.Inputs)).toNat (z7.mk 0 0)))).bind fun t2 =>
 some t2
def yx (x0 : z6) (x1 : Int) (je : List (Option (Int × Int × Int))) (fj : Int) : Option (LR ((List (Option (Int × Int × Int))) × Int) ((List (Option (Int × Int × Int))))) :=
 bif decide (fj < x1) then (
  gd ((0 : Int) ≤ w64 (fj * x0.Inputs) ∧ (w64 (fj * x0.Inputs) : Int) ≤ w64 ((w64 (fj + 1)) * x0.Inputs) ∧ (w64 ((w64 (fj + 1)) * x0.Inputs) : Int) ≤ w64 ((w64 (fj + 1)) * x0.Inputs) ∧ (w64 ((w64 (fj + 1)) * x0.Inputs) : Int) ≤ (((List.replicate (w64 (x1 * x0.Inputs)).toNat (z7.mk 0 0)).length : Nat) : Int)) <|
  (idx je fj).bind fun ph =>
  gd (ph = none) <|
  some (.next ((je.set fj.toNat (some (w64 (fj * x0.Inputs), w64 ((w64 (fj + 1)) * x0.Inputs), w64 ((w64 (fj + 1)) * x0.Inputs)))), w64 (fj + 1))))
 else (
  some (.done je))
def xk (x0 : z6) (x1 : Int) {σ : Type} (yy : σ → z6 → Option (σ × Bool)) (sg : σ) : Option σ :=
 gd ((0 : Int) ≤ x1 ∧ (x1 : Int) ≤ 4294967296) <|
 gd ((0 : Int) ≤ w64 (x1 * x0.Inputs) ∧ (w64 (x1 * x0.Inputs) : Int) ≤ 4294967296) <|
 (loop (fun s => yx x0 x1 s.1 s.2) ((List.replicate x1.toNat none), 0)).bind fun t5 =>
 uS x0 x1 yy sg t5
variable {τ : Type}
def zX (y : τ → z6 → Option (τ × Bool)) (m_ : z6) (l_ : List (List Int)) (s_ : τ) (x_ : z6) : Option (LR τ τ) :=
 (zS (xo.mk m_ l_ ()) x_).bind fun r_ =>
 bif r_ then (
  (y s_ x_).bind fun ai =>
  bif ai.2 then (
   some (.next ai.1))
  else (
   some (.done ai.1)))
 else (
  some (.next s_))
def zQ (y : τ → z6 → Option (τ × Bool)) (m_ : z6) (l_ : List (List Int)) (states : Int) (i_ : Int) (s_ : τ) : Option (LR (Int × τ) τ) :=
 bif decide (i_ ≤ states) then (
  (jd m_ i_).bind fun r_ =>
  (xk r_.1 r_.2 (yOf fun s x => zX y m_ l_ s x) (.next s_)).bind fun t_ =>
  match t_ with
  | .next s_ => some (.next (w64 (i_ + 1), s_))
  | .done s_ => some (.done s_))
 else (
  some (.done s_))
def y8 (y : τ → z6 → Option (τ × Bool)) (m_ : z6) (l_ : List (List Int)) (states : Int) (s_ : τ) : Option τ :=
 loop (fun q => zQ y m_ l_ states q.1 q.2) (1, s_)
def xG (m_ : z6) (l_ : List (List Int)) (states : Int) : Option (Int × Int) :=
 (qq m_ l_ states).bind fun r_ =>
 bif r_ != 0 then (
  some (0, r_))
 else (
  (y8 (fun s _ => some (w64 (s + 1), true)) m_ l_ states 0).bind fun ai =>
  some (ai, 0))
def Ue (m_ : z6) (bound : Int) : Option Int :=
 (wi m_).bind fun r_ =>
 bif r_ != 0 then (
  some r_)
 else (
  bif decide (bound < ((m_.Rows.length : Nat) : Int)) then (
   some 1)
  else (
   bif decide (bound > (w64 (((m_.Rows.length : Nat) : Int) + 4))) then (
    some 1)
   else (
    some 0)))
def XF (m_ : z6) (from_ : Int) : R7_ :=
 some (m_, from_)
def w4 (iv : Int) (cw : List Bool) (mj : List zp) : Option (LR (List Bool × List zp × Int) ((σ × List Bool × List zp))) :=
 some (.next (cw, mj, w64 (iv + 1)))
def qt (cj : zp) (yr : σ × Bool) (al : List z7) (dg : List Bool) (ew : List zp) (iv : Int) : Option (LR (List Bool × List zp × Int) ((σ × List Bool × List zp))) :=
 bif decide (iv < ((al.length : Nat) : Int)) then (
  (idx al iv).bind fun ak =>
  bif ak.To != (-1) then (
   (idx dg ak.To).bind fun mi =>
   bif !mi then (
    (idx dg ak.To).bind fun oc =>
    gd (ew.length + [(zp.mk ak.To cj.state_ iv)].length ≤ 4294967296) <|
    w4 iv (dg.set ak.To.toNat true) (ew ++ [(zp.mk ak.To cj.state_ iv)]))
   else (
    w4 iv dg ew))
  else (
   w4 iv dg ew))
 else (
  some (.done (yr.1, dg, ew)))
def qz (x0 : z6) (yy : σ → zp → Option (σ × Bool)) (de : σ) (ia : List Bool) (dn : List zp) : Option (LR (σ × List Bool × List zp) σ) :=
 bif decide (((dn.length : Nat) : Int) > 0) then (
  (idx dn 0).bind fun cj =>
  gd ((0 : Int) ≤ 1 ∧ (1 : Int) ≤ ((dn.length : Nat) : Int)) <|
  (yy de cj).bind fun yr =>
  bif !yr.2 then (
   some (.done yr.1))
  else (
   (idx x0.Rows cj.state_).bind fun al =>
   (loop (fun s => qt cj yr al s.1 s.2.1 s.2.2) (ia, (dn.drop (1 : Int).toNat), 0)).bind fun t2 =>
   some (.next t2)))
 else (
  some (.done de))
def uI (x0 : z6) (x1 : Int) {σ : Type} (yy : σ → zp → Option (σ × Bool)) (sg : σ) : Option σ :=
 gd ((0 : Int) ≤ ((x0.Rows.length : Nat) : Int) ∧ (((x0.Rows.length : Nat) : Int) : Int) ≤ 4294967296) <|
 (idx (List.replicate ((x0.Rows.length : Nat) : Int).toNat false) x1).bind fun l5 =>
 (loop (fun s => qz x0 yy s.1 s.2.1 s.2.2) (sg, ((List.replicate ((x0.Rows.length : Nat) : Int).toNat false).set x1.toNat true), ([(zp.mk x1 (-1) (-1))] : List zp))).bind fun t1 =>
 some t1
def xN (s_ : List Int) : Option (List Int) :=
 gd (([] : List Int).length + s_.length ≤ 4294967296) <|
 some s_
def y3 (s_ : List Int) : Option (List Int) :=
 gd ((0 : Int) ≤ 0 ∧ (0 : Int) ≤ ((s_.length : Nat) : Int) ∧ (((s_.length : Nat) : Int) : Int) ≤ ((s_.length : Nat) : Int) ∧ (((s_.length : Nat) : Int) : Int) ≤ ((s_.length : Nat) : Int)) <|
 some ((s_.drop 0).take (((s_.length : Nat) : Int).toNat - 0))
abbrev zfu : Type := Option (List (List Int) × List Bool)
def XE (l_ : List (List Int)) (is : List Bool) : zfu :=
 some (l_, is)
def jV (fq : List (List Int)) (gp : List Bool) (iw : zp) : Option (LR (List (List Int) × List Bool) Empty) :=
 (idx gp iw.state_).bind fun pq =>
 bif iw.from_ != (-1) then (
  (idx fq iw.from_).bind fun cq =>
  (xN cq).bind fun ai =>
  gd (ai.length + [iw.input_].length ≤ 4294967296) <|
  (y3 (ai ++ [iw.input_])).bind fun am =>
  (idx fq iw.state_).bind fun iu =>
  some (.next ((fq.set iw.state_.toNat am), (gp.set iw.state_.toNat true))))
 else (
  some (.next (fq, (gp.set iw.state_.toNat true))))
def Q3 (m_ : z6) (from_ : Int) : zfu :=
 gd ((0 : Int) ≤ ((m_.Rows.length : Nat) : Int) ∧ (((m_.Rows.length : Nat) : Int) : Int) ≤ 4294967296) <|
 gd ((0 : Int) ≤ ((m_.Rows.length : Nat) : Int) ∧ (((m_.Rows.length : Nat) : Int) : Int) ≤ 4294967296) <|
 (XF m_ from_).bind fun r_ =>
 (uI r_.1 r_.2 (yOf (fun s x => jV s.1 s.2 x)) (.next ((List.replicate ((m_.Rows.length : Nat) : Int).toNat ([] : List Int)), (List.replicate ((m_.Rows.length : Nat) : Int).toNat false)))).bind fun t2 =>
 match t2 with
 | .next (fq, gp) => (
  XE fq gp)
 | .done z => nomatch z
def VY (m_ : z6) : Option (List (List Int) × List Bool × Int) :=
 (yR m_).bind fun r_ =>
 bif r_ != 0 then (
  some (([] : List (List Int)), ([] : List Bool), r_))
 else (
  (Q3 m_ 0).bind fun ai =>
  some (ai.1, ai.2, 0))
abbrev z5e : Type := Option (List (List Int))
def wu (s_ : List (List Int)) : z5e :=
 gd (([] : List (List Int)).length + s_.length ≤ 4294967296) <|
 some s_
def jY (a_ : List Int) (b_ : List Int) : Option Bool :=
 (wD a_ b_).bind fun r_ =>
 some (r_ == 0)
def xY (s_ : List (List Int)) : z5e :=
 some s_
abbrev ze4 : Type := Option (LR Int (Unit ⊕ List (List Int)))
def xX (k_ : Int) : ze4 :=
 some (.next (w64 (k_ + 1)))
def xW (bf : List (List Int)) (aq : Int) : ze4 :=
 gd ((0 : Int) ≤ aq ∧ (aq : Int) ≤ ((bf.length : Nat) : Int)) <|
 gd ((0 : Int) ≤ aq ∧ (aq : Int) ≤ ((bf.length : Nat) : Int)) <|
 gd ((0 : Int) ≤ aq ∧ (aq : Int) ≤ (((bf.take aq.toNat ++ List.replicate (bf.length - aq.toNat) []).length : Nat) : Int)) <|
 some (.done (.inr ((bf.take aq.toNat ++ List.replicate (bf.length - aq.toNat) []).take aq.toNat)))
abbrev zcD : Type := Option (LR (List (List Int) × Int × Int) ((List (List Int) × Int)))
def yT (k2 : Int) (ml : List (List Int)) (px : Int) : zcD :=
 some (.next (ml, px, w64 (k2 + 1)))
def uA (k_ : Int) (bl : List (List Int)) (jw : Int) (k2 : Int) : zcD :=
 bif decide (k2 < ((bl.length - k_.toNat : Nat) : Int)) then (
  gd ((0 : Int) ≤ k_ ∧ (0 : Int) ≤ k2) <|
  (idx bl (k_ + k2)).bind fun ol =>
  gd ((0 : Int) ≤ k_ ∧ (0 : Int) ≤ w64 (k2 - 1)) <|
  (idx bl (k_ + (w64 (k2 - 1)))).bind fun om =>
  (jY ol om).bind fun ai =>
  bif !ai then (
   gd ((0 : Int) ≤ k_ ∧ (0 : Int) ≤ k2) <|
   (idx bl (k_ + k2)).bind fun oq =>
   (idx bl jw).bind fun sa =>
   yT k2 (bl.set jw.toNat oq) (w64 (jw + 1)))
  else (
   yT k2 bl jw))
 else (
  some (.done (bl, jw)))
def uB (s_ : List (List Int)) (k_ : Int) : ze4 :=
 bif decide (k_ < ((s_.length : Nat) : Int)) then (
  (idx s_ k_).bind fun d9 =>
  (idx s_ (w64 (k_ - 1))).bind fun mz =>
  (jY d9 mz).bind fun r_ =>
  bif r_ then (
   gd ((0 : Int) ≤ k_ ∧ (k_ : Int) ≤ ((s_.length : Nat) : Int)) <|
   (loop (fun s => uA k_ s.1 s.2.1 s.2.2) (s_, k_, 1)).bind fun t5 =>
   xW t5.1 t5.2)
  else (
   xX k_))
 else (
  some (.done (.inl ())))
def wt (s_ : List (List Int)) (eq : Unit) : z5e :=
 bif decide (((s_.length : Nat) : Int) < 2) then (
  some s_)
 else (
  (loop (fun s => uB s_ s) 1).bind fun t2 =>
  match t2 with
  | .inl p => xY s_
  | .inr p => some p)
def wa (s_ : List (List Int)) : z5e :=
 some s_
abbrev Kq : Type := Option (List (List Int) × Int)
def YF (out : List (List Int × Bool)) : Kq :=
 gd (∀ q ∈ out, q.2 = true) <|
 some ((out.map (·.1)), 0)
def YE (am : List (List Int)) (ay : List (List Int × Bool)) (fe : Int) : Option (LR ((List (List Int × Bool)) × Int) ((List (List Int × Bool)))) :=
 bif decide (fe < ((am.length - (0 : Int).toNat : Nat) : Int)) then (
  gd ((0 : Int) ≤ 0 ∧ (0 : Int) ≤ fe) <|
  (idx ay (0 + fe)).bind fun fx =>
  (xN fx.1).bind fun cp =>
  (y3 cp).bind fun gh =>
  (idx ay fe).bind fun lc =>
  some (.next ((ay.set fe.toNat (gh, true)), w64 (fe + 1))))
 else (
  some (.done ay))
def ut (l_ : List (List Int)) : Kq :=
 (wu l_).bind fun r_ =>
 (z8K (fun x y => wD x y) r_).bind fun sorted =>
 (wt sorted ()).bind fun ai =>
 (wa ai).bind fun am =>
 bif decide (((am.length : Nat) : Int) > 4096) then (
  some (([] : List (List Int)), 3))
 else (
  (W2 am).bind fun az =>
  bif decide (az > 65536) then (
   some (([] : List (List Int)), 3))
  else (
   (loop (fun s => YE am s.1 s.2) ((am.map fun q => (q, false)), 0)).bind fun t2 =>
   YF t2))
def Xd (l_ : List (List Int)) (inputs : Int) : Kq :=
 (W3 l_ inputs).bind fun r_ =>
 bif r_ != 0 then (
  some (([] : List (List Int)), r_))
 else (
  (ut l_).bind fun ai =>
  some (ai.1, ai.2))
def ZK (m_ : z6) : Kq :=
 (vM m_).bind fun r_ =>
 bif r_.2 != 0 then (
  some (([] : List (List Int)), r_.2))
 else (
  bif !r_.1 then (
   some (([] : List (List Int)), 11))
  else (
   (VY m_).bind fun ai =>
   bif ai.2.2 != 0 then (
    some (([] : List (List Int)), ai.2.2))
   else (
    (Xd ai.1 m_.Inputs).bind fun am =>
    some (am.1, am.2))))
abbrev zck : Type := Option (LR (List (List Int) × List (List Int) × Int × Int) ((List (List Int) × Int)))
def Ub (k_ : Int) (aj : List (List Int)) (mp : List (List Int)) (cb : Int) (jv : Int) (rb : Bool) (o7 : Bool) : zck :=
 some (.next (aj, mp, cb, w64 (k_ + 1)))
def Ua (k_ : Int) (ay : List (List Int)) (bz : Int) (gt : Bool) (next : List (List Int)) : zck :=
 Ub k_ ay next bz bz (decide (bz > 65536)) gt
abbrev ze3 : Type := Option (LR (List (List Int) × Int) (List (List Int)))
def U0 (kq : Int) (fm : List (List Int)) : ze3 :=
 some (.next (fm, w64 (kq + 1)))
def z0H (inputs : Int) (bt : List Int) (cm : List (List Int)) (kr : Int) : ze3 :=
 bif decide (kr < inputs) then (
  (y3 bt).bind fun ai =>
  gd (ai.length + [kr].length ≤ 4294967296) <|
  gd (cm.length + [(ai ++ [kr])].length ≤ 4294967296) <|
  some (.next ((cm ++ [(ai ++ [kr])]), w64 (kr + 1))))
 else (
  some (.done cm))
def z0I (inputs : Int) (av : List (List Int)) (cr : List (List Int)) (kq : Int) : ze3 :=
 bif decide (kq < ((av.length : Nat) : Int)) then (
  (idx av kq).bind fun bt =>
  (loop (fun s => z0H inputs bt s.1 s.2) (cr, 0)).bind fun t8 =>
  U0 kq t8)
 else (
  some (.done cr))
def YG (inputs : Int) (to : Int) (av : List (List Int)) (k_ : Int) (ay : List (List Int)) (bz : Int) (gt : Bool) : zck :=
 bif k_ == to then (
  (ut ay).bind fun r_ =>
  some (.done (r_.1, r_.2)))
 else (
  (loop (fun s => z0I inputs av s.1 s.2) (([] : List (List Int)), 0)).bind fun t6 =>
  Ua k_ ay bz gt t6)
def YH (inputs : Int) (to : Int) (av : List (List Int)) (k_ : Int) (ay : List (List Int)) (bz : Int) : zck :=
 bif decide (((ay.length : Nat) : Int) > 4096) then (
  some (.done (([] : List (List Int)), 3)))
 else (
  bif decide (bz > 65536) then (
   some (.done (([] : List (List Int)), 3)))
  else (
   bif decide (k_ < to) then (
    bif decide ((w64 (((av.length : Nat) : Int) * inputs)) > 4096) then (
     some (.done (([] : List (List Int)), 3)))
    else (
     YG inputs to av k_ ay bz (decide ((w64 (((av.length : Nat) : Int) * inputs)) > 4096))))
   else (
    YG inputs to av k_ ay bz false)))
def z0J (inputs : Int) (from_ : Int) (to : Int) (out : List (List Int)) (av : List (List Int)) (n_ : Int) (k_ : Int) : zck :=
 bif decide (k_ ≥ from_) then (
  gd (out.length + av.length ≤ 4294967296) <|
  YH inputs to av k_ (out ++ av) (w64 (n_ + (w64 (k_ * ((av.length : Nat) : Int))))))
 else (
  YH inputs to av k_ out n_)
def Qh (inputs : Int) (from_ : Int) (to : Int) : Kq :=
 bif decide (inputs > 16) then (
  some (([] : List (List Int)), 3))
 else (
  bif decide (inputs < 1) then (
   some (([] : List (List Int)), 1))
  else (
   bif decide (to < 0) then (
    some (([] : List (List Int)), 1))
   else (
    bif decide (to > 256) then (
     some (([] : List (List Int)), 3))
    else (
     (loop (fun s => z0J inputs from_ to s.1 s.2.1 s.2.2.1 s.2.2.2) (([] : List (List Int)), ([[]] : List (List Int)), 0, 0)).bind fun t1 =>
     some t1))))
def Vp (inputs : Int) (k_ : Int) : Kq :=
 (Qh inputs 0 k_).bind fun r_ =>
 some (r_.1, r_.2)
def WB : Option Int :=
 some 0
def KM (inputs : Int) (l_ : List (List (List Int))) (fk : Int) : R1_ :=
 bif decide (fk < ((l_.length : Nat) : Int)) then (
  (idx l_ fk).bind fun cq =>
  (qE cq inputs).bind fun r_ =>
  bif r_ != 0 then (
   some (.done (.inr r_)))
  else (
   some (.next (w64 (fk + 1)))))
 else (
  some (.done (.inl ())))
def Vo (inputs : Int) (l_ : List (List (List Int))) : Option Int :=
 (loop (fun s => KM inputs l_ s) 0).bind fun t2 =>
 match t2 with
 | .inl p => WB
 | .inr p => some p
def VZ (b_ : List Int) : Option (List UInt8) :=
 some (u8s b_)
abbrev zft : Type := Option (LR (List Int × Int) (List Int))
def z0F (w_ : List Int) (j7 : List Int) (gn : Int) : zft :=
 bif decide (gn < ((w_.length : Nat) : Int)) then (
  (idx w_ gn).bind fun ge =>
  (idx j7 gn).bind fun gf =>
  some (.next ((j7.set gn.toNat (IntKind.u8.wrap (ge))), w64 (gn + 1))))
 else (
  some (.done j7))
def z0G (w_ : List Int) : Option (List UInt8) :=
 gd ((0 : Int) ≤ ((w_.length : Nat) : Int) ∧ (((w_.length : Nat) : Int) : Int) ≤ 4294967296) <|
 (loop (fun s => z0F w_ s.1 s.2) ((List.replicate ((w_.length : Nat) : Int).toNat (0 : Int)), 0)).bind fun t2 =>
 VZ t2
def YJ (out : List (List Int)) : Kq :=
 (ut out).bind fun ai =>
 some (ai.1, ai.2)
abbrev zfs : Type := Option (LR ((List ((List UInt8) × Bool)) × Int × List (List Int) × Int) (List (List Int) ⊕ (List (List Int) × Int)))
def YI (dz : Int) (dg : List ((List UInt8) × Bool)) (cb : Int) (ay : List (List Int)) : zfs :=
 some (.next (dg, cb, ay, w64 (dz + 1)))
abbrev zfr : Type := Option (LR ((List ((List UInt8) × Bool)) × Int × List (List Int) × Int) (((List ((List UInt8) × Bool)) × Int × List (List Int)) ⊕ (List (List Int) × Int)))
def qD (gk : Int) (nj : List ((List UInt8) × Bool)) (pi : Int) (im : List (List Int)) : zfr :=
 bif decide (((im.length : Nat) : Int) > 4096) then (
  some (.done (.inr (([] : List (List Int)), 3))))
 else (
  bif decide (pi > 65536) then (
   some (.done (.inr (([] : List (List Int)), 3))))
  else (
   some (.next (nj, pi, im, w64 (gk + 1)))))
def Ql (b_ : List (List Int)) (ie : List Int) (cw : List ((List UInt8) × Bool)) (bz : Int) (cu : List (List Int)) (gk : Int) : zfr :=
 bif decide (gk < ((b_.length : Nat) : Int)) then (
  (idx b_ gk).bind fun gf =>
  (y3 ie).bind fun am =>
  gd (am.length + gf.length ≤ 4294967296) <|
  bif decide ((((am ++ gf).length : Nat) : Int) > 256) then (
   some (.done (.inr (([] : List (List Int)), 3))))
  else (
   (z0G (am ++ gf)).bind fun az =>
   (some ((z1F cw az).getD false)).bind fun val =>
   bif !val then (
    gd (cu.length + [(am ++ gf)].length ≤ 4294967296) <|
    qD gk (z5j cw az true) (w64 (bz + (((am ++ gf).length : Nat) : Int))) (cu ++ [(am ++ gf)]))
   else (
    qD gk cw bz cu)))
 else (
  some (.done (.inl (cw, bz, cu))))
def Qm (a_ : List (List Int)) (b_ : List (List Int)) (ia : List ((List UInt8) × Bool)) (n_ : Int) (aj : List (List Int)) (dz : Int) : zfs :=
 bif decide (dz < ((a_.length : Nat) : Int)) then (
  (idx a_ dz).bind fun ie =>
  (loop (fun s => Ql b_ ie s.1 s.2.1 s.2.2.1 s.2.2.2) (ia, n_, aj, 0)).bind fun t4 =>
  match t4 with
  | .inl p => YI dz p.1 p.2.1 p.2.2
  | .inr p => some (.done (.inr p)))
 else (
  some (.done (.inl aj)))
def Uc (a_ : List (List Int)) (b_ : List (List Int)) (inputs : Int) : Kq :=
 (Vo inputs ([a_, b_])).bind fun r_ =>
 bif r_ != 0 then (
  some (([] : List (List Int)), r_))
 else (
  (loop (fun s => Qm a_ b_ s.1 s.2.1 s.2.2.1 s.2.2.2) (([] : List ((List UInt8) × Bool)), 0, ([] : List (List Int)), 0)).bind fun t2 =>
  match t2 with
  | .inl p => YJ p
  | .inr p => some p)
def X8 (m_ : z6) (k_ : Int) : Kq :=
 (ZK m_).bind fun r_ =>
 bif r_.2 != 0 then (
  some (([] : List (List Int)), r_.2))
 else (
  bif decide (k_ < 0) then (
   some (([] : List (List Int)), 1))
  else (
   (Vp m_.Inputs k_).bind fun ai =>
   bif ai.2 != 0 then (
    some (([] : List (List Int)), ai.2))
   else (
    (Uc r_.1 ai.1 m_.Inputs).bind fun am =>
    some (am.1, am.2))))
def jU (m_ : z6) : Kq :=
 (X8 m_ 1).bind fun r_ =>
 some (r_.1, r_.2)
def X2 (n_ : Int) : Option Int :=
 some n_
def Zc (x6 : Int) (kp : σ) : Option (LR (σ × Int) σ) :=
 some (.next (kp, w64 (x6 + 1)))
def Za (x0 : Int) (yy : σ → (Int × Int) → Option (σ × Bool)) (x6 : Int) (gx : σ) (b_ : Int) : Option (LR (σ × Int) (σ ⊕ σ)) :=
 bif decide (b_ < x0) then (
  (yy gx (x6, b_)).bind fun yr =>
  bif !yr.2 then (
   some (.done (.inr yr.1)))
  else (
   some (.next (yr.1, w64 (b_ + 1)))))
 else (
  some (.done (.inl gx)))
def Zb (x0 : Int) (yy : σ → (Int × Int) → Option (σ × Bool)) (de : σ) (x6 : Int) : Option (LR (σ × Int) σ) :=
 bif decide (x6 < x0) then (
  (loop (fun s => Za x0 yy x6 s.1 s.2) (de, w64 (x6 + 1))).bind fun t3 =>
  match t3 with
  | .inl p => Zc x6 p
  | .inr p => some (.done p))
 else (
  some (.done de))
def wV (x0 : Int) {σ : Type} (yy : σ → (Int × Int) → Option (σ × Bool)) (sg : σ) : Option σ :=
 (loop (fun s => Zb x0 yy s.1 s.2) (sg, 0)).bind fun t1 =>
 some t1
def Uq (a_ : Int) (b_ : Int) : Option Bool :=
 some true
def XM (s_ : Int) (x1 : z6) : Option Bool :=
 bif decide (s_ < 0) then (
  some true)
 else (
  some (decide (s_ ≥ ((x1.Rows.length : Nat) : Int))))
def xQ : Option Int :=
 some (-1)
def ug (s_ : List Int) (f_ : z6) (x8 : Int) : R1_ :=
 bif decide (x8 < ((s_.length : Nat) : Int)) then (
  (idx s_ x8).bind fun d9 =>
  (XM d9 f_).bind fun r_ =>
  bif r_ then (
   some (.done (.inr x8)))
  else (
   some (.next (w64 (x8 + 1)))))
 else (
  some (.done (.inl ())))
def wk (s_ : List Int) (f_ : z6) : Option Int :=
 (loop (fun s => ug s_ f_ s) 0).bind fun t2 =>
 match t2 with
 | .inl p => xQ
 | .inr p => some p
def xR (s_ : List Int) (f_ : z6) : Option Bool :=
 (wk s_ f_).bind fun r_ =>
 some (decide (r_ ≥ 0))
def Uf (m_ : z6) (l_ : List Int) : Option Int :=
 (yR m_).bind fun r_ =>
 bif r_ != 0 then (
  some r_)
 else (
  (xR l_ m_).bind fun ai =>
  bif ai then (
   some 1)
  else (
   some 0))
def Ug (m_ : z6) : Option z6 :=
 some m_
def kL (x8 : Int) (kp : σ) : Option (LR (σ × Int) σ) :=
 some (.next (kp, w64 (x8 + 1)))
def kJ (x0 : z6) (yy : σ → (Int × Int) → Option (σ × Bool)) (x8 : Int) (gx : σ) (t_ : Int) : Option (LR (σ × Int) (σ ⊕ σ)) :=
 bif decide (t_ < ((x0.Rows.length : Nat) : Int)) then (
  (yy gx (x8, t_)).bind fun yr =>
  bif !yr.2 then (
   some (.done (.inr yr.1)))
  else (
   some (.next (yr.1, w64 (t_ + 1)))))
 else (
  some (.done (.inl gx)))
def kK (x0 : z6) (yy : σ → (Int × Int) → Option (σ × Bool)) (de : σ) (x8 : Int) : Option (LR (σ × Int) σ) :=
 bif decide (x8 < ((x0.Rows.length : Nat) : Int)) then (
  (loop (fun s => kJ x0 yy x8 s.1 s.2) (de, w64 (x8 + 1))).bind fun t3 =>
  match t3 with
  | .inl p => kL x8 p
  | .inr p => some (.done p))
 else (
  some (.done de))
def jZ (x0 : z6) {σ : Type} (yy : σ → (Int × Int) → Option (σ × Bool)) (sg : σ) : Option σ :=
 (loop (fun s => kK x0 yy s.1 s.2) (sg, 0)).bind fun t1 =>
 some t1
def xj (l : List Int) (n : Int) : Option (List Int) := bif l.isEmpty && (decide (0 < n) && decide (n ≤ 1000000)) then some [] else none
def vA (md : List Int) : Option (List Int) :=
 some md
def kN (slices : List (List Int)) (gy : List Int) (o8 : Int) : zft :=
 bif decide (o8 < ((slices.length : Nat) : Int)) then (
  (idx slices o8).bind fun lb =>
  gd (gy.length + lb.length ≤ 4294967296) <|
  some (.next ((gy ++ lb), w64 (o8 + 1))))
 else (
  some (.done gy))
def vB (slices : List (List Int)) (size : Int) : Option (List Int) :=
 (xj [] size).bind fun r_ =>
 (loop (fun s => kN slices s.1 s.2) (r_, 0)).bind fun t3 =>
 vA t3
def kM (slices : List (List Int)) (lq : Int) (gn : Int) : R6_ :=
 bif decide (gn < ((slices.length : Nat) : Int)) then (
  (idx slices gn).bind fun ld =>
  bif decide ((w64 (lq + ((ld.length : Nat) : Int))) < 0) then (
   none)
  else (
   some (.next (w64 (lq + ((ld.length : Nat) : Int)), w64 (gn + 1)))))
 else (
  some (.done lq))
def uz (slices : List (List Int)) : Option (List Int) :=
 (loop (fun s => kM slices s.1 s.2) (0, 0)).bind fun t4 =>
 vB slices t4
abbrev zfq : Type := Option (List Int × ArN 64 (ArN 64 (List Int)))
def wL (n_ : Int) (f_ : ArN 64 (ArN 64 (List Int))) (out : List Int) : zfq :=
 bif ((out.length : Nat) : Int) != n_ then (
  some ([], f_))
 else (
  (y3 out).bind fun r_ =>
  gd (r_ ≠ []) <|
  some (r_, f_))
def xg (ig : Int) : Option (LR Int (List Int)) :=
 some (.next (w64 (ig + 1)))
def wK (m_ : z6) (t_ : Int) (n_ : Int) (f_ : ArN 64 (ArN 64 (List Int))) (al : List z7) (ig : Int) : Option (LR Int (List Int)) :=
 bif decide (ig < ((al.length : Nat) : Int)) then (
  (idx al ig).bind fun ak =>
  (idx m_.Rows t_).bind fun dp =>
  (idx dp ig).bind fun ar =>
  bif ak.Out != ar.Out then (
   some (.done [ig]))
  else (
   bif decide (n_ > 1) then (
    bif ak.To != (-1) then (
     (idx (f_.l) ak.To).bind fun cell =>
     (idx (cell.l) ar.To).bind fun ca =>
     bif ((ca.length : Nat) : Int) == (w64 (n_ - 1)) then (
      (idx (f_.l) ak.To).bind fun jf =>
      (idx (jf.l) ar.To).bind fun jp =>
      (uz ([[ig], jp])).bind fun ai =>
      some (.done ai))
     else (
      xg ig))
    else (
     xg ig))
   else (
    xg ig)))
 else (
  some (.done ([] : List Int)))
def uf (m_ : z6) (s_ : Int) (t_ : Int) (n_ : Int) (f_ : ArN 64 (ArN 64 (List Int))) : zfq :=
 (idx m_.Rows s_).bind fun al =>
 (loop (fun s => wK m_ t_ n_ f_ al s) 0).bind fun t2 =>
 wL n_ f_ t2
abbrev ze2 : Type := Option (ArN 64 (ArN 64 (List Int)))
def uM (s_ : Int) (t_ : Int) (w_ : List Int) (f_ : ArN 64 (ArN 64 (List Int))) : ze2 :=
 (idx (f_.l) s_).bind fun cell =>
 (idx (cell.l) t_).bind fun ca =>
 (some (ArN.setI cell t_ w_)).bind fun arr =>
 (some (ArN.setI f_ s_ arr)).bind fun arr1 =>
 (idx (arr1.l) t_).bind fun jf =>
 (idx (jf.l) s_).bind fun jp =>
 (some (ArN.setI jf s_ w_)).bind fun arr2 =>
 (some (ArN.setI arr1 t_ arr2)).bind fun pr =>
 some pr
def vo (f_ : ArN 64 (ArN 64 (List Int))) : ze2 :=
 some f_
abbrev zcC : Type := Option (LR (ArN 64 (ArN 64 (List Int)) × Int) (ArN 64 (ArN 64 (List Int))))
def vn (n_ : Int) (py : ArN 64 (ArN 64 (List Int))) : zcC :=
 some (.next (py, w64 (n_ + 1)))
def vh (now : List zT) (nk : ArN 64 (ArN 64 (List Int))) (o9 : Int) : zcC :=
 bif decide (o9 < ((now.length : Nat) : Int)) then (
  (idx now o9).bind fun gl =>
  (uM gl.S gl.T gl.Word nk).bind fun r_ =>
  some (.next (r_, w64 (o9 + 1))))
 else (
  some (.done nk))
def vm (n_ : Int) (pz : ArN 64 (ArN 64 (List Int))) (now : List zT) : zcC :=
 (loop (fun s => vh now s.1 s.2) (pz, 0)).bind fun t5 =>
 vn n_ t5
def w9 (m_ : z6) (n_ : Int) (jj : ArN 64 (ArN 64 (List Int))) (ir : List zT) (j8 : Int) (fe : Int) : Option (LR (ArN 64 (ArN 64 (List Int)) × List zT) Empty) :=
 (idx (jj.l) j8).bind fun cell =>
 (idx (cell.l) fe).bind fun ca =>
 bif !ca.isEmpty then (
  some (.next (jj, ir)))
 else (
  (uf m_ j8 fe n_ jj).bind fun am =>
  bif !am.1.isEmpty then (
   gd (ir.length + [(zT.mk j8 fe am.1 false)].length ≤ 4294967296) <|
   some (.next (am.2, (ir ++ [(zT.mk j8 fe am.1 false)]))))
  else (
   some (.next (am.2, ir))))
def vj (m_ : z6) (ng : ArN 64 (ArN 64 (List Int))) (n_ : Int) : zcC :=
 bif decide (n_ < (mx ((m_.Rows.length : Nat) : Int) 2)) then (
  (Ug m_).bind fun ai =>
  (jZ ai (yOf (fun s x => w9 m_ n_ s.1 s.2 x.1 x.2)) (.next (ng, ([] : List zT)))).bind fun t6 =>
  match t6 with
  | .next (jj, ir) => (
   vm n_ jj ir)
  | .done z => nomatch z)
 else (
  some (.done ng))
def uL (m_ : z6) : ze2 :=
 (loop (fun s => vj m_ s.1 s.2) ((ArN.rep 64 (ArN.rep 64 ([] : List Int))), 1)).bind fun t2 =>
 vo t2
def qH (m_ : z6) (s_ : Int) (t_ : Int) : Option (List Int × Bool × Int) :=
 (Uf m_ ([s_, t_])).bind fun r_ =>
 bif r_ != 0 then (
  some (([] : List Int), false, r_))
 else (
  (uL m_).bind fun ai =>
  (idx (ai.l) s_).bind fun cell =>
  (idx (cell.l) t_).bind fun ca =>
  (xN ca).bind fun am =>
  (y3 am).bind fun az =>
  some (az, decide (((az.length : Nat) : Int) > 0), 0))
def qY (m_ : z6) (x5 : Int) (out : List (List Int)) : Kq :=
 (Xd out m_.Inputs).bind fun r_ =>
 some (r_.1, r_.2)
abbrev zfp : Type := Option (LR (Int × List (List Int)) ((Int × List (List Int))))
def vO (m_ : z6) (fg : Int) (aj : List (List Int)) (ep : Int) (ba : Int) : zfp :=
 (Uq ep ba).bind fun am =>
 bif !am then (
  some (.next (fg, aj)))
 else (
  (qH m_ ep ba).bind fun az =>
  bif az.2.2 != 0 then (
   some (.done (az.2.2, aj)))
  else (
   gd (aj.length + [az.1].length ≤ 4294967296) <|
   some (.next (fg, (aj ++ [az.1])))))
def Up (m_ : z6) (is : Unit) : Kq :=
 (X2 ((m_.Rows.length : Nat) : Int)).bind fun ai =>
 (wV ai (yOf (fun s x => vO m_ s.1 s.2 x.1 x.2)) (.next (0, ([] : List (List Int))))).bind fun t2 =>
 match t2 with
 | .next (fg, aj) => (
  qY m_ fg aj)
 | .done (fg, aj) => (
  some (([] : List (List Int)), fg))
def Kb (m_ : z6) : Kq :=
 (wi m_).bind fun r_ =>
 bif r_ != 0 then (
  some (([] : List (List Int)), r_))
 else (
  (Up m_ ()).bind fun ai =>
  some (ai.1, ai.2))
def Qk (inputs : Int) (k_ : Int) : Kq :=
 (Qh inputs k_ k_).bind fun r_ =>
 some (r_.1, r_.2)
def W4 (l_ : List (List Int)) : z5e :=
 bif ((l_.length : Nat) : Int) == 0 then (
  some ([[]] : List (List Int)))
 else (
  some l_)
def QZ (a_ : Int) (b_ : Int) (x2 : Int) : Option Bool :=
 bif a_ == x2 then (
  some true)
 else (
  some (b_ == x2))
def vt (m_ : z6) (x5 : Int) (out : List (List Int)) : Kq :=
 (Xd out m_.Inputs).bind fun r_ =>
 some (r_.1, r_.2)
def wc (m_ : z6) (is : Int) (fg : Int) (aj : List (List Int)) (ep : Int) (ba : Int) : zfp :=
 (QZ ep ba is).bind fun am =>
 bif !am then (
  some (.next (fg, aj)))
 else (
  (qH m_ ep ba).bind fun az =>
  bif az.2.2 != 0 then (
   some (.done (az.2.2, aj)))
  else (
   gd (aj.length + [az.1].length ≤ 4294967296) <|
   some (.next (fg, (aj ++ [az.1])))))
def uQ (m_ : z6) (is : Int) : Kq :=
 (X2 ((m_.Rows.length : Nat) : Int)).bind fun ai =>
 (wV ai (yOf (fun s x => wc m_ is s.1 s.2 x.1 x.2)) (.next (0, ([] : List (List Int))))).bind fun t2 =>
 match t2 with
 | .next (fg, aj) => (
  vt m_ fg aj)
 | .done (fg, aj) => (
  some (([] : List (List Int)), fg))
def z1n (m_ : z6) (s_ : Int) : Kq :=
 (wi m_).bind fun r_ =>
 bif r_ != 0 then (
  some (([] : List (List Int)), r_))
 else (
  bif decide (s_ < 0) then (
   some (([] : List (List Int)), 1))
  else (
   bif decide (s_ ≥ ((m_.Rows.length : Nat) : Int)) then (
    some (([] : List (List Int)), 1))
   else (
    (uQ m_ s_).bind fun ai =>
    some (ai.1, ai.2))))
abbrev ze1 : Type := Option (Option zu × Int)
def kF (m_ : z6) (r_ : List (List Int) × Int) (ai : List (List Int) × Int) (az : List (List Int) × Int) (cp : List (List Int) × Int) (gh : List (List Int)) (ku : List (List (List Int))) : ze1 :=
 some ((some (zu.mk m_ r_.1 ai.1 gh ku az.1 cp.1)), 0)
def Vr (m_ : z6) (jg : List (List (List Int))) (nl : Int) : Option (LR (List (List (List Int)) × Int) (List (List (List Int)) ⊕ (Option zu × Int))) :=
 bif decide (nl < ((m_.Rows.length : Nat) : Int)) then (
  (z1n m_ nl).bind fun iz =>
  bif iz.2 != 0 then (
   some (.done (.inr ((none : Option zu), iz.2))))
  else (
   (W4 iz.1).bind fun jk =>
   gd (jg.length + [jk].length ≤ 4294967296) <|
   some (.next ((jg ++ [jk]), w64 (nl + 1)))))
 else (
  some (.done (.inl jg)))
def kG (m_ : z6) (r_ : List (List Int) × Int) (ai : List (List Int) × Int) (am : List (List Int) × Int) (az : List (List Int) × Int) (cp : List (List Int) × Int) : ze1 :=
 (W4 am.1).bind fun gh =>
 (loop (fun s => Vr m_ s.1 s.2) (([] : List (List (List Int))), 0)).bind fun t3 =>
 match t3 with
 | .inl p => kF m_ r_ ai az cp gh p
 | .inr p => some p
def XL (m_ : z6) (bound : Int) : ze1 :=
 (ZK m_).bind fun r_ =>
 (jU m_).bind fun ai =>
 (Kb m_).bind fun am =>
 (Vp m_.Inputs (w64 (bound - ((m_.Rows.length : Nat) : Int)))).bind fun az =>
 (Qk m_.Inputs (w64 (bound - ((m_.Rows.length : Nat) : Int)))).bind fun cp =>
 bif r_.2 != 0 then (
  some ((none : Option zu), r_.2))
 else (
  bif ai.2 != 0 then (
   some ((none : Option zu), ai.2))
  else (
   bif am.2 != 0 then (
    some ((none : Option zu), am.2))
   else (
    bif az.2 != 0 then (
     some ((none : Option zu), az.2))
    else (
     bif cp.2 != 0 then (
      some ((none : Option zu), cp.2))
     else (
      kG m_ r_ ai am az cp)))))
abbrev za3 : Type := Option (zk × Bool)
def kI (b_ : zk) (cn : List (zD Int)) (bu : Int) : za3 :=
 bif decide (bu > b_.most_) then (
  some (b_, true))
 else (
  some ((zk.mk cn bu b_.most_), false))
abbrev zfo : Type := Option (LR (List (zD Int) × Int × Int × Bool × Int) ((List (zD Int) × Int)))
def kH (em : Int) (cd : List (zD Int)) (bo : Int) (pa : Int) (mq : Bool) : zfo :=
 some (.next (cd, bo, pa, mq, w64 (em + 1)))
abbrev ze0 : Type := Option (LR (List (zD Int) × Int × Int × Bool × Int) ((List (zD Int) × Int × Int × Bool)))
def ue (gc : Int) (ce : List (zD Int)) (bp : Int) (mr : Bool) (next : Int) : ze0 :=
 some (.next (ce, bp, next, mr, w64 (gc + 1)))
def yO (ap : List (zD Int)) (ff : Int) (gc : Int) (da : Int) (dr : Int) : ze0 :=
 (idx ap ff).bind fun jx =>
 (idx (zD.toL jx) da).bind fun ca =>
 (some (zD.setI jx da (IntKind.i32.wrap (((ap.length : Nat) : Int))))).bind fun arr =>
 gd ((ap.set ff.toNat arr).length + ([(zD.mk 0 0 0 0 0 0 0 0 0 0 0 0 0 0 0 0)] : List (zD Int)).length ≤ 4294967296) <|
 ue gc ((ap.set ff.toNat arr) ++ ([(zD.mk 0 0 0 0 0 0 0 0 0 0 0 0 0 0 0 0)] : List (zD Int))) dr true (IntKind.i32.wrap (((ap.length : Nat) : Int)))
def Vs (eb : List Int) (ap : List (zD Int)) (bc : Int) (ff : Int) (jl : Bool) (gc : Int) : ze0 :=
 bif decide (gc < ((eb.length : Nat) : Int)) then (
  (idx eb gc).bind fun da =>
  (idx ap ff).bind fun me =>
  (idx (zD.toL me) da).bind fun cell =>
  bif cell == 0 then (
   bif !jl then (
    bif ff == 0 then (
     bif ((ap.length : Nat) : Int) == 1 then (
      yO ap ff gc da (w64 (bc + 1)))
     else (
      (idx ap ff).bind fun dt =>
      bif !((dt.e0 == 0) && ((dt.e1 == 0) && ((dt.e2 == 0) && ((dt.e3 == 0) && ((dt.e4 == 0) && ((dt.e5 == 0) && ((dt.e6 == 0) && ((dt.e7 == 0) && ((dt.e8 == 0) && ((dt.e9 == 0) && ((dt.e10 == 0) && ((dt.e11 == 0) && ((dt.e12 == 0) && ((dt.e13 == 0) && ((dt.e14 == 0) && ((dt.e15 == 0) && true)))))))))))))))) then (
       yO ap ff gc da (w64 (bc + 1)))
      else (
       yO ap ff gc da bc)))
    else (
     (idx ap ff).bind fun du =>
     bif !((du.e0 == 0) && ((du.e1 == 0) && ((du.e2 == 0) && ((du.e3 == 0) && ((du.e4 == 0) && ((du.e5 == 0) && ((du.e6 == 0) && ((du.e7 == 0) && ((du.e8 == 0) && ((du.e9 == 0) && ((du.e10 == 0) && ((du.e11 == 0) && ((du.e12 == 0) && ((du.e13 == 0) && ((du.e14 == 0) && ((du.e15 == 0) && true)))))))))))))))) then (
      yO ap ff gc da (w64 (bc + 1)))
     else (
      yO ap ff gc da bc)))
   else (
    yO ap ff gc da bc))
  else (
   ue gc ap bc jl cell))
 else (
  some (.done (ap, bc, ff, jl)))
def Vt (parts : List (List Int)) (cg : List (zD Int)) (bq : Int) (at_ : Int) (m0 : Bool) (em : Int) : zfo :=
 bif decide (em < ((parts.length : Nat) : Int)) then (
  (idx parts em).bind fun eb =>
  (loop (fun s => Vs eb s.1 s.2.1 s.2.2.1 s.2.2.2.1 s.2.2.2.2) (cg, bq, at_, m0, 0)).bind fun t4 =>
  kH em t4.1 t4.2.1 t4.2.2.1 t4.2.2.2)
 else (
  some (.done (cg, bq)))
def wO (parts : List (List Int)) (b_ : zk) : za3 :=
 (loop (fun s => Vt parts s.1 s.2.1 s.2.2.1 s.2.2.2.1 s.2.2.2.2) (b_.nodes_, b_.leaves_, 0, false, 0)).bind fun t2 =>
 kI b_ t2.1 t2.2
abbrev za2 : Type := Option (LR (List (zD Int) × Int × Int × Int) ((zk × Bool)))
def uv (ba : Int) (cg : List (zD Int)) (bq : Int) (d0 : Int) : za2 :=
 some (.next (cg, bq, d0, w64 (ba + 1)))
abbrev z3d : Type := Option (LR (List (zD Int) × Int × Int × Int) ((List (zD Int) × Int × Int) ⊕ (zk × Bool)))
def uu (fy : Int) (ap : List (zD Int)) (bc : Int) (d8 : Int) : z3d :=
 some (.next (ap, bc, d8, w64 (fy + 1)))
def YK (x_ : zu) (b_ : zk) (bg : List Int) (a7 : List Int) (ce : List (zD Int)) (bp : Int) (dj : Int) (gk : Int) : z3d :=
 bif decide (gk < ((x_.all_.length : Nat) : Int)) then (
  (idx x_.all_ gk).bind fun ez =>
  (wO [bg, a7, ez] (zk.mk ce bp dj)).bind fun r_ =>
  bif r_.2 then (
   some (.done (.inr (b_, true))))
  else (
   some (.next (r_.1.nodes_, r_.1.leaves_, r_.1.most_, w64 (gk + 1)))))
 else (
  some (.done (.inl (ce, bp, dj))))
def YL (x_ : zu) (b_ : zk) (bg : List Int) (cd : List (zD Int)) (bo : Int) (dm : Int) (fy : Int) : z3d :=
 bif decide (fy < ((x_.short_.length : Nat) : Int)) then (
  (idx x_.short_ fy).bind fun a7 =>
  (loop (fun s => YK x_ b_ bg a7 s.1 s.2.1 s.2.2.1 s.2.2.2) (cd, bo, dm, 0)).bind fun t5 =>
  match t5 with
  | .inl p => uu fy p.1 p.2.1 p.2.2
  | .inr p => some (.done (.inr p)))
 else (
  some (.done (.inl (cd, bo, dm))))
def YM (x_ : zu) (b_ : zk) (cn : List (zD Int)) (bu : Int) (ee : Int) (ba : Int) : za2 :=
 bif decide (ba < ((x_.p_.length : Nat) : Int)) then (
  (idx x_.p_ ba).bind fun bg =>
  (loop (fun s => YL x_ b_ bg s.1 s.2.1 s.2.2.1 s.2.2.2) (cn, bu, ee, 0)).bind fun t3 =>
  match t3 with
  | .inl p => uv ba p.1 p.2.1 p.2.2
  | .inr p => some (.done p))
 else (
  some (.done ((zk.mk cn bu ee), false)))
def jJ (x0 : Xc) (x_ : zu) (b_ : zk) : za3 :=
 (loop (fun s => YM x_ b_ s.1 s.2.1 s.2.2.1 s.2.2.2) (b_.nodes_, b_.leaves_, b_.most_, 0)).bind fun t1 =>
 some t1
def yU (x_ : List (List Int)) (target : List Int) (i_ : Int) : Option (Int × Bool) :=
 bif decide (i_ < ((x_.length : Nat) : Int)) then (
  (idx x_ i_).bind fun mc =>
  (wD mc target).bind fun r_ =>
  some (i_, r_ == 0))
 else (
  some (i_, false))
def wv (x_ : List (List Int)) (target : List Int) (fw : Int) (j_ : Int) : R6_ :=
 bif decide (fw < j_) then (
  (idx x_ (w64 (Int.fdiv (IntKind.u64.wrap (w64 (fw + j_))) (2 ^ 1)))).bind fun lp =>
  (wD lp target).bind fun ai =>
  bif decide (ai < 0) then (
   some (.next (w64 ((w64 (Int.fdiv (IntKind.u64.wrap (w64 (fw + j_))) (2 ^ 1))) + 1), j_)))
  else (
   some (.next (fw, w64 (Int.fdiv (IntKind.u64.wrap (w64 (fw + j_))) (2 ^ 1))))))
 else (
  some (.done fw))
def xp (x_ : List (List Int)) (target : List Int) (cmp : Unit) : Option (Int × Bool) :=
 (loop (fun s => wv x_ target s.1 s.2) (0, ((x_.length : Nat) : Int))).bind fun t2 =>
 yU x_ target t2
def z2p (l_ : List (List Int)) (w_ : List Int) : Option Bool :=
 (xp l_ w_ ()).bind fun r_ =>
 some r_.2
def Zn (w_ : List Int) (x1 : List (List Int)) : Option Bool :=
 (z2p x1 w_).bind fun r_ =>
 some r_
def wl : Option Int :=
 some (-1)
def uZ (s_ : List (List Int)) (f_ : List (List Int)) (x8 : Int) : R1_ :=
 bif decide (x8 < ((s_.length : Nat) : Int)) then (
  (idx s_ x8).bind fun d9 =>
  (Zn d9 f_).bind fun r_ =>
  bif r_ then (
   some (.done (.inr x8)))
  else (
   some (.next (w64 (x8 + 1)))))
 else (
  some (.done (.inl ())))
def wQ (s_ : List (List Int)) (f_ : List (List Int)) : Option Int :=
 (loop (fun s => uZ s_ f_ s) 0).bind fun t2 =>
 match t2 with
 | .inl p => wl
 | .inr p => some p
def we (bf : List (List Int)) (i_ : Int) : z5e :=
 gd ((0 : Int) ≤ i_ ∧ (i_ : Int) ≤ ((bf.length : Nat) : Int)) <|
 gd ((0 : Int) ≤ i_ ∧ (i_ : Int) ≤ ((bf.length : Nat) : Int)) <|
 gd ((0 : Int) ≤ i_ ∧ (i_ : Int) ≤ (((bf.take i_.toNat ++ List.replicate (bf.length - i_.toNat) []).length : Nat) : Int)) <|
 some ((bf.take i_.toNat ++ List.replicate (bf.length - i_.toNat) []).take i_.toNat)
def yZ (j_ : Int) (ml : List (List Int)) (p0 : Int) : zcD :=
 some (.next (ml, p0, w64 (j_ + 1)))
def uN (kc : List (List Int)) (bl : List (List Int)) (fw : Int) (j_ : Int) : zcD :=
 bif decide (j_ < ((bl.length : Nat) : Int)) then (
  (idx bl j_).bind fun d9 =>
  (Zn d9 kc).bind fun ai =>
  bif !ai then (
   (idx bl fw).bind fun mz =>
   yZ j_ (bl.set fw.toNat d9) (w64 (fw + 1)))
  else (
   yZ j_ bl fw))
 else (
  some (.done (bl, fw)))
def wJ (s_ : List (List Int)) (kc : List (List Int)) : z5e :=
 (wQ s_ kc).bind fun r_ =>
 bif r_ == (-1) then (
  some s_)
 else (
  (loop (fun s => uN kc s.1 s.2.1 s.2.2) (s_, r_, w64 (r_ + 1))).bind fun t2 =>
  we t2.1 t2.2)
def Qj (a_ : List (List Int)) (b_ : List (List Int)) (inputs : Int) : Kq :=
 (Vo inputs ([a_, b_])).bind fun r_ =>
 bif r_ != 0 then (
  some (([] : List (List Int)), r_))
 else (
  (wu a_).bind fun ai =>
  (wJ ai b_).bind fun am =>
  (ut am).bind fun az =>
  some (az.1, az.2))
def XQ (m_ : z6) (s_ : Int) : Option Int :=
 (yR m_).bind fun r_ =>
 bif r_ != 0 then (
  some r_)
 else (
  bif decide (s_ < 0) then (
   some 1)
  else (
   bif decide (s_ ≥ ((m_.Rows.length : Nat) : Int)) then (
    some 1)
   else (
    some 0)))
def X1 (bf : Int) (out : List Int) : Option (List Int × Int) :=
 some (out, bf)
abbrev zfn : Type := Option (LR (Int × List Int × Int) ((Int × List Int)))
def qR (aj : List Int) (ba : Int) (gj : Int) (nb : Int) : zfn :=
 (idx aj ba).bind fun fx =>
 some (.next (gj, (aj.set ba.toNat nb), w64 (ba + 1)))
def QO (m_ : z6) (w_ : List Int) (bl : Int) (aj : List Int) (ba : Int) : zfn :=
 bif decide (ba < ((w_.length : Nat) : Int)) then (
  (idx w_ ba).bind fun ge =>
  (qg).bind fun r_ =>
  bif bl != (-1) then (
   (idx m_.Rows bl).bind fun al =>
   (idx al ge).bind fun ak =>
   qR aj ba ak.To ak.Out)
  else (
   qR aj ba r_.To r_.Out))
 else (
  some (.done (bl, aj)))
def Um (m_ : z6) (s_ : Int) (w_ : List Int) : Option (List Int × Int) :=
 gd ((0 : Int) ≤ ((w_.length : Nat) : Int) ∧ (((w_.length : Nat) : Int) : Int) ≤ 4294967296) <|
 (loop (fun s => QO m_ w_ s.1 s.2.1 s.2.2) (s_, (List.replicate ((w_.length : Nat) : Int).toNat (0 : Int)), 0)).bind fun t2 =>
 X1 t2.1 t2.2
def km (m_ : z6) (s_ : Int) (w_ : List Int) : Option (Int × Int) :=
 (XQ m_ s_).bind fun r_ =>
 bif r_ != 0 then (
  some (0, r_))
 else (
  (XW w_ m_.Inputs).bind fun ai =>
  bif ai != 0 then (
   some (0, ai))
  else (
   (Um m_ s_ w_).bind fun am =>
   some (am.2, 0)))
def ud (x_ : zu) (u_ : List Int) (v_ : List Int) : z5e :=
 (km x_.m_ 0 u_).bind fun r_ =>
 (km x_.m_ r_.1 v_).bind fun ai =>
 (idx x_.each_ ai.1).bind fun pj =>
 some pj
def vZ (ip : Int) (cd : List (zD Int)) (bo : Int) (dm : Int) : za2 :=
 some (.next (cd, bo, dm, w64 (ip + 1)))
def vY (ji : Int) (ce : List (zD Int)) (bp : Int) (dj : Int) : z3d :=
 some (.next (ce, bp, dj, w64 (ji + 1)))
def Y8 (b_ : zk) (u_ : List Int) (dw : List Int) (ai : List (List Int)) (i6 : List (zD Int)) (dr : Int) (jy : Int) (og : Int) : z3d :=
 bif decide (og < ((ai.length : Nat) : Int)) then (
  (idx ai og).bind fun dx =>
  (wO [u_, dw, dx] (zk.mk i6 dr jy)).bind fun am =>
  bif am.2 then (
   some (.done (.inr (b_, true))))
  else (
   some (.next (am.1.nodes_, am.1.leaves_, am.1.most_, w64 (og + 1)))))
 else (
  some (.done (.inl (i6, dr, jy))))
def Y9 (x_ : zu) (b_ : zk) (u_ : List Int) (ap : List (zD Int)) (bc : Int) (d8 : Int) (ji : Int) : z3d :=
 bif decide (ji < ((x_.exact_.length : Nat) : Int)) then (
  (idx x_.exact_ ji).bind fun dw =>
  (ud x_ u_ dw).bind fun ai =>
  (loop (fun s => Y8 b_ u_ dw ai s.1 s.2.1 s.2.2.1 s.2.2.2) (ap, bc, d8, 0)).bind fun t6 =>
  match t6 with
  | .inl p => vY ji p.1 p.2.1 p.2.2
  | .inr p => some (.done (.inr p)))
 else (
  some (.done (.inl (ap, bc, d8))))
def Ya (x_ : zu) (b_ : zk) (r_ : List (List Int) × Int) (cg : List (zD Int)) (bq : Int) (d0 : Int) (ip : Int) : za2 :=
 bif decide (ip < ((r_.1.length : Nat) : Int)) then (
  (idx r_.1 ip).bind fun u_ =>
  (loop (fun s => Y9 x_ b_ u_ s.1 s.2.1 s.2.2.1 s.2.2.2) (cg, bq, d0, 0)).bind fun t4 =>
  match t4 with
  | .inl p => vZ ip p.1 p.2.1 p.2.2
  | .inr p => some (.done p))
 else (
  some (.done ((zk.mk cg bq d0), false)))
def u0 (x_ : zu) (b_ : zk) (cn : List (zD Int)) (bu : Int) (ee : Int) : za3 :=
 (Qj x_.p_ x_.q_ x_.m_.Inputs).bind fun r_ =>
 (loop (fun s => Ya x_ b_ r_ s.1 s.2.1 s.2.2.1 s.2.2.2) (cn, bu, ee, 0)).bind fun t2 =>
 some t2
def vX (iq : Int) (lf : List (zD Int)) (kw : Int) (l6 : Int) : z3d :=
 some (.next (lf, kw, l6, w64 (iq + 1)))
def vF (ke : Int) (lh : List (zD Int)) (kx : Int) (l7 : Int) : z3d :=
 some (.next (lh, kx, l7, w64 (ke + 1)))
def Zq (x_ : zu) (b_ : zk) (gg : List Int) (a7 : List Int) (ii : List (zD Int)) (gz : Int) (i7 : Int) (mh : Int) : z3d :=
 bif decide (mh < ((x_.all_.length : Nat) : Int)) then (
  (idx x_.all_ mh).bind fun ez =>
  (wO [gg, a7, ez] (zk.mk ii gz i7)).bind fun az =>
  bif az.2 then (
   some (.done (.inr (b_, true))))
  else (
   some (.next (az.1.nodes_, az.1.leaves_, az.1.most_, w64 (mh + 1)))))
 else (
  some (.done (.inl (ii, gz, i7))))
def Y6 (x_ : zu) (b_ : zk) (gg : List Int) (i8 : List (zD Int)) (ij : Int) (jz : Int) (ke : Int) : z3d :=
 bif decide (ke < ((x_.short_.length : Nat) : Int)) then (
  (idx x_.short_ ke).bind fun a7 =>
  (loop (fun s => Zq x_ b_ gg a7 s.1 s.2.1 s.2.2.1 s.2.2.2) (i8, ij, jz, 0)).bind fun sf =>
  match sf with
  | .inl p => vF ke p.1 p.2.1 p.2.2
  | .inr p => some (.done (.inr p)))
 else (
  some (.done (.inl (i8, ij, jz))))
def Y7 (x_ : zu) (b_ : zk) (ja : List (zD Int)) (ik : Int) (j4 : Int) (iq : Int) : z3d :=
 bif decide (iq < ((x_.q_.length : Nat) : Int)) then (
  (idx x_.q_ iq).bind fun gg =>
  (loop (fun s => Y6 x_ b_ gg s.1 s.2.1 s.2.2.1 s.2.2.2) (ja, ik, j4, 0)).bind fun t9 =>
  match t9 with
  | .inl p => vX iq p.1 p.2.1 p.2.2
  | .inr p => some (.done (.inr p)))
 else (
  some (.done (.inl (ja, ik, j4))))
def qG (x0 : Y1) (x_ : zu) (b_ : zk) : za3 :=
 (loop (fun s => Y7 x_ b_ s.1 s.2.1 s.2.2.1 s.2.2.2) (b_.nodes_, b_.leaves_, b_.most_, 0)).bind fun t7 =>
 match t7 with
 | .inl p => u0 x_ b_ p.1 p.2.1 p.2.2
 | .inr p => some p
def vH (ba : Int) (cg : List (zD Int)) (bq : Int) (d0 : Int) : za2 :=
 some (.next (cg, bq, d0, w64 (ba + 1)))
def vG (fy : Int) (ap : List (zD Int)) (bc : Int) (d8 : Int) : z3d :=
 some (.next (ap, bc, d8, w64 (fy + 1)))
def Zr (b_ : zk) (bg : List Int) (a7 : List Int) (r_ : List (List Int)) (ce : List (zD Int)) (bp : Int) (dj : Int) (gk : Int) : z3d :=
 bif decide (gk < ((r_.length : Nat) : Int)) then (
  (idx r_ gk).bind fun dx =>
  (wO [bg, a7, dx] (zk.mk ce bp dj)).bind fun ai =>
  bif ai.2 then (
   some (.done (.inr (b_, true))))
  else (
   some (.next (ai.1.nodes_, ai.1.leaves_, ai.1.most_, w64 (gk + 1)))))
 else (
  some (.done (.inl (ce, bp, dj))))
def Zs (x_ : zu) (b_ : zk) (bg : List Int) (cd : List (zD Int)) (bo : Int) (dm : Int) (fy : Int) : z3d :=
 bif decide (fy < ((x_.short_.length : Nat) : Int)) then (
  (idx x_.short_ fy).bind fun a7 =>
  (ud x_ bg a7).bind fun r_ =>
  (loop (fun s => Zr b_ bg a7 r_ s.1 s.2.1 s.2.2.1 s.2.2.2) (cd, bo, dm, 0)).bind fun t5 =>
  match t5 with
  | .inl p => vG fy p.1 p.2.1 p.2.2
  | .inr p => some (.done (.inr p)))
 else (
  some (.done (.inl (cd, bo, dm))))
def Zt (x_ : zu) (b_ : zk) (cn : List (zD Int)) (bu : Int) (ee : Int) (ba : Int) : za2 :=
 bif decide (ba < ((x_.p_.length : Nat) : Int)) then (
  (idx x_.p_ ba).bind fun bg =>
  (loop (fun s => Zs x_ b_ bg s.1 s.2.1 s.2.2.1 s.2.2.2) (cn, bu, ee, 0)).bind fun t3 =>
  match t3 with
  | .inl p => vH ba p.1 p.2.1 p.2.2
  | .inr p => some (.done p))
 else (
  some (.done ((zk.mk cn bu ee), false)))
def uU (x0 : Zh) (x_ : zu) (b_ : zk) : za3 :=
 (loop (fun s => Zt x_ b_ s.1 s.2.1 s.2.2.1 s.2.2.2) (b_.nodes_, b_.leaves_, b_.most_, 0)).bind fun t1 =>
 some t1
def WD (x : zu) (s : Nat) (most : Int) : Option (Option zk × Bool) :=
 (match s with | 0 => jJ ⟨⟩ x (zk.mk [zD.mk 0 0 0 0 0 0 0 0 0 0 0 0 0 0 0 0] 0 most) | 1 => qG ⟨⟩ x (zk.mk [zD.mk 0 0 0 0 0 0 0 0 0 0 0 0 0 0 0 0] 0 most) | 2 => uU ⟨⟩ x (zk.mk [zD.mk 0 0 0 0 0 0 0 0 0 0 0 0 0 0 0 0] 0 most) | _ => none).bind fun r =>
 some (bif r.2 then none else some r.1, !r.2)
def xS (s_ : List (List Int)) : z5e :=
 some s_
def vg (out : List (List Int)) : z5e :=
 (xS out).bind fun r_ =>
 some r_
abbrev zfm : Type := Option (LR (List (List Int) × List zh) (List (List Int)))
def ve (ay : List (List Int)) (next : List zh) : zfm :=
 some (.next (ay, next))
abbrev zdZ : Type := Option (LR (List (List Int) × List zh × Int) ((List (List Int) × List zh)))
def w8 (ba : Int) (im : List (List Int)) (fm : List zh) : zdZ :=
 some (.next (im, fm, w64 (ba + 1)))
def vd (cu : List (List Int)) (ba : Int) (bt : zh) (cm : List zh) (pt : Bool) : zdZ :=
 bif pt then (
  (y3 bt.w_).bind fun ai =>
  gd (cu.length + [ai].length ≤ 4294967296) <|
  w8 ba (cu ++ [ai]) cm)
 else (
  w8 ba cu cm)
abbrev zfl : Type := Option (LR (List zh × Bool × Int) ((List zh × Bool)))
def w7 (dz : Int) (nn : List zh) (nq : Bool) : zfl :=
 some (.next (nn, nq, w64 (dz + 1)))
def v6 (bt : zh) (bh : zD Int) (gv : List zh) (lu : Bool) (dz : Int) : zfl :=
 bif decide (dz < 16) then (
  (idx [bh.e0, bh.e1, bh.e2, bh.e3, bh.e4, bh.e5, bh.e6, bh.e7, bh.e8, bh.e9, bh.e10, bh.e11, bh.e12, bh.e13, bh.e14, bh.e15] dz).bind fun cell =>
  bif decide (cell > 0) then (
   (y3 bt.w_).bind fun am =>
   gd (am.length + [dz].length ≤ 4294967296) <|
   gd (gv.length + [(zh.mk cell (am ++ [dz]))].length ≤ 4294967296) <|
   w7 dz (gv ++ [(zh.mk cell (am ++ [dz]))]) false)
  else (
   w7 dz gv lu))
 else (
  some (.done (gv, lu)))
def v7 (b_ : zk) (av : List zh) (cu : List (List Int)) (cr : List zh) (ba : Int) : zdZ :=
 bif decide (ba < ((av.length : Nat) : Int)) then (
  (idx av ba).bind fun bt =>
  (idx b_.nodes_ bt.at_).bind fun bh =>
  (loop (fun s => v6 bt bh s.1 s.2.1 s.2.2) (cr, true, 0)).bind fun t7 =>
  vd cu ba bt t7.1 t7.2)
 else (
  some (.done (cu, cr)))
def v8 (b_ : zk) (aj : List (List Int)) (av : List zh) : zfm :=
 bif decide (((av.length : Nat) : Int) > 0) then (
  (loop (fun s => v7 b_ av s.1 s.2.1 s.2.2) (aj, ([] : List zh), 0)).bind fun t4 =>
  ve t4.1 t4.2)
 else (
  some (.done aj))
def ZT (b_ : zk) : z5e :=
 (loop (fun s => v8 b_ s.1 s.2) (([] : List (List Int)), ([(zh.mk 0 [])] : List zh))).bind fun t2 =>
 vg t2
def Ud (s_ : Nat) (m_ : z6) (bound : Int) (fc : Int) : Kq :=
 (Ue m_ bound).bind fun r_ =>
 bif r_ != 0 then (
  some (([] : List (List Int)), r_))
 else (
  bif decide (fc < 1) then (
   some (([] : List (List Int)), 1))
  else (
   bif decide (fc > 4096) then (
    some (([] : List (List Int)), 1))
   else (
    (XL m_ bound).bind fun ai =>
    bif ai.2 != 0 then (
     some (([] : List (List Int)), 13))
    else (
     (ai.1).bind fun there =>
     (WD there s_ fc).bind fun am =>
     bif !am.2 then (
      some (([] : List (List Int)), 13))
     else (
      (am.1).bind fun ft =>
      (ZT ft).bind fun az =>
      (qE az m_.Inputs).bind fun cp =>
      bif cp != 0 then (
       some (([] : List (List Int)), cp))
      else (
       some (az, 0)))))))
def KP (m_ : z6) (bound : Int) (fc : Int) : Kq :=
 (Ud 0 m_ bound fc).bind fun r_ =>
 some (r_.1, r_.2)
def xZ (s_ : List z7) : Option (List z7) :=
 gd (([] : List z7).length + s_.length ≤ 4294967296) <|
 some s_
def wf (s_ : List z7) : Option (List z7) :=
 gd ((0 : Int) ≤ 0 ∧ (0 : Int) ≤ ((s_.length : Nat) : Int) ∧ (((s_.length : Nat) : Int) : Int) ≤ ((s_.length : Nat) : Int) ∧ (((s_.length : Nat) : Int) : Int) ≤ ((s_.length : Nat) : Int)) <|
 some ((s_.drop 0).take (((s_.length : Nat) : Int).toNat - 0))
def Jc (ai : z6) (gu : List (List z7)) : R7_ :=
 some ((z6.mk ai.Inputs ai.Outputs gu), 0)
def z2b (ai : z6) (bj : List (List z7)) (lk : Int) : R0_ :=
 bif decide (lk < ((ai.Rows.length : Nat) : Int)) then (
  (idx ai.Rows lk).bind fun al =>
  (xZ al).bind fun am =>
  (wf am).bind fun az =>
  (idx bj lk).bind fun p8 =>
  some (.next ((bj.set lk.toNat az), w64 (lk + 1))))
 else (
  some (.done bj))
def vQ (m_ : z6) (l_ : List (List Int)) (states : Int) : R7_ :=
 (qq m_ l_ states).bind fun r_ =>
 bif r_ != 0 then (
  some ((z6.mk 0 0 []), r_))
 else (
  (y8 (fun _ x => some (x, false)) m_ l_ states (z6.mk 0 0 [])).bind fun ai =>
  bif ((ai.Rows.length : Nat) : Int) == 0 then (
   some ((z6.mk 0 0 []), 7))
  else (
   gd ((0 : Int) ≤ ((ai.Rows.length : Nat) : Int) ∧ (((ai.Rows.length : Nat) : Int) : Int) ≤ 4294967296) <|
   (loop (fun s => z2b ai s.1 s.2) ((List.replicate ((ai.Rows.length : Nat) : Int).toNat ([] : List z7)), 0)).bind fun t2 =>
   Jc ai t2))
def WP : Option Bool :=
 some true
def WO (s_ : Int) : R5_ :=
 some (.next (w64 (s_ + 1)))
def KZ (a_ : z6) (b_ : z6) (s_ : Int) (i_ : Int) : R5_ :=
 (idx a_.Rows s_).bind fun pb =>
 bif decide (i_ < ((pb.length : Nat) : Int)) then (
  (idx a_.Rows s_).bind fun p9 =>
  (idx p9 i_).bind fun ak =>
  (idx b_.Rows s_).bind fun qd =>
  (idx qd i_).bind fun ar =>
  bif !((ak.To == ar.To) && ((ak.Out == ar.Out) && true)) then (
   some (.done (.inr false)))
  else (
   some (.next (w64 (i_ + 1)))))
 else (
  some (.done (.inl ())))
def z00 (a_ : z6) (b_ : z6) (s_ : Int) : R5_ :=
 bif decide (s_ < ((a_.Rows.length : Nat) : Int)) then (
  (idx a_.Rows s_).bind fun al =>
  (idx b_.Rows s_).bind fun dp =>
  bif ((al.length : Nat) : Int) != ((dp.length : Nat) : Int) then (
   some (.done (.inr false)))
  else (
   (loop (fun s => KZ a_ b_ s_ s) 0).bind fun t4 =>
   match t4 with
   | .inl p => WO s_
   | .inr p => some (.done (.inr p))))
 else (
  some (.done (.inl ())))
def qm (a_ : z6) (b_ : z6) : Option Bool :=
 bif a_.Inputs != b_.Inputs then (
  some false)
 else (
  bif a_.Outputs != b_.Outputs then (
   some false)
  else (
   bif ((a_.Rows.length : Nat) : Int) != ((b_.Rows.length : Nat) : Int) then (
    some false)
   else (
    (loop (fun s => z00 a_ b_ s) 0).bind fun t2 =>
    match t2 with
    | .inl p => WP
    | .inr p => some p)))
def vq (n_ : Int) : Option (List Int) :=
 gd ((0 : Int) ≤ n_ ∧ (n_ : Int) ≤ 4294967296) <|
 some (List.replicate n_.toNat (0 : Int))
def WX (m_ : z6) (other : z6) (l_ : List (List Int)) : Option Int :=
 bif m_.Inputs != other.Inputs then (
  some 5)
 else (
  (qE l_ m_.Inputs).bind fun r_ =>
  some r_)
def z0d (m_ : z6) (other : z6) (k9 : Int) : R1_ :=
 bif decide (k9 < (([m_, other].length : Nat) : Int)) then (
  (idx ([m_, other]) k9).bind fun l5 =>
  (yR l5).bind fun ai =>
  bif ai != 0 then (
   some (.done (.inr ai)))
  else (
   some (.next (w64 (k9 + 1)))))
 else (
  some (.done (.inl ())))
def Kd (m_ : z6) (other : z6) (l_ : List (List Int)) : Option Int :=
 (loop (fun s => z0d m_ other s) 0).bind fun t2 =>
 match t2 with
 | .inl p => WX m_ other l_
 | .inr p => some p
def XT : Option (Int × Int × Int) :=
 some ((-1), (-1), 0)
def JP (m_ : z6) (other : z6) (l_ : List (List Int)) (fj : Int) : Option (LR Int (Unit ⊕ (Int × Int × Int))) :=
 bif decide (fj < ((l_.length : Nat) : Int)) then (
  (idx l_ fj).bind fun cq =>
  (Ja m_ other cq).bind fun ai =>
  bif ai != (-1) then (
   some (.done (.inr (fj, ai, 0))))
  else (
   some (.next (w64 (fj + 1)))))
 else (
  some (.done (.inl ())))
def Jb (m_ : z6) (other : z6) (l_ : List (List Int)) : Option (Int × Int × Int) :=
 (Kd m_ other l_).bind fun r_ =>
 bif r_ != 0 then (
  some (0, 0, r_))
 else (
  (loop (fun s => JP m_ other l_ s) 0).bind fun t2 =>
  match t2 with
  | .inl p => XT
  | .inr p => some p)
def Wc : Option Bool :=
 (xF ([(z7.mk 1 0), (z7.mk 0 1)])).bind fun r_ =>
 (xL r_ 1).bind fun ai =>
 (xL r_ 2).bind fun am =>
 (xL r_ 5).bind fun az =>
 (xG r_ [] 1).bind fun cp =>
 (xG r_ [] 2).bind fun gh =>
 bif ai.2 != 0 then (
  some false)
 else (
  bif am.2 != 0 then (
   some false)
  else (
   bif az.2 != 3 then (
    some false)
   else (
    bif cp.2 != 0 then (
     some false)
    else (
     bif gh.2 != 0 then (
      some false)
     else (
      bif ai.1 != 2 then (
       some false)
      else (
       bif am.1 != 16 then (
        some false)
       else (
        bif cp.1 != 2 then (
         some false)
        else (
         bif gh.1 != 9 then (
          some false)
         else (
          (vQ r_ [] 2).bind fun iz =>
          (vq 1).bind fun jk =>
          (vQ r_ ([jk]) 2).bind fun kg =>
          (vq 3).bind fun kh =>
          (vQ r_ ([kh]) 2).bind fun js =>
          (vq 4).bind fun gm =>
          (vQ r_ ([gm]) 2).bind fun od =>
          (vq 2).bind fun mf =>
          (vQ r_ ([mf]) 2).bind fun l4 =>
          (xF ([(z7.mk 0 0)])).bind fun k0 =>
          (xF ([(z7.mk 1 0), (z7.mk 1 1)])).bind fun j9 =>
          bif iz.2 != 0 then (
           some false)
          else (
           bif kg.2 != 0 then (
            some false)
           else (
            bif js.2 != 7 then (
             some false)
            else (
             bif od.2 != 7 then (
              some false)
             else (
              bif l4.2 != 0 then (
               some false)
              else (
               (qm iz.1 k0).bind fun mv =>
               bif !mv then (
                some false)
               else (
                (qm kg.1 k0).bind fun mw =>
                bif !mw then (
                 some false)
                else (
                 (qm l4.1 j9).bind fun rc =>
                 bif !rc then (
                  some false)
                 else (
                  (vq 1).bind fun pc =>
                  (vq 3).bind fun pd =>
                  (Jb r_ j9 ([pc, pd])).bind fun pu =>
                  bif pu.2.2 == 0 then (
                   bif pu.1 == 1 then (
                    some (pu.2.1 == 2))
                   else (
                    some false))
                  else (
                   some false))))))))))))))))))
def wm (r_ : z6) : Option Bool :=
 (KP r_ 3 9).bind fun ai =>
 (xG r_ ai.1 3).bind fun am =>
 (vQ r_ ai.1 4).bind fun az =>
 (xF ([(z7.mk 1 0), (z7.mk 2 0), (z7.mk 3 0), (z7.mk 0 1)])).bind fun cp =>
 (xL r_ 4611686018427387904).bind fun gh =>
 (xL r_ 0).bind fun iz =>
 (vQ r_ ([[1]]) 2).bind fun jk =>
 bif ai.2 == 0 then (
  bif am.2 == 0 then (
   bif am.1 == 0 then (
    bif az.2 == 0 then (
     (qm az.1 cp).bind fun kg =>
     bif kg then (
      bif gh.2 == 3 then (
       bif iz.2 == 1 then (
        bif jk.2 == 1 then (
         (Wc).bind fun kh =>
         some kh)
        else (
         some false))
       else (
        some false))
      else (
       some false))
     else (
      some false))
    else (
     some false))
   else (
    some false))
  else (
   some false))
 else (
  some false)
abbrev zdY : Type := Option (LR (Int × Int) (Unit ⊕ Bool))
def jR (total : Int) (s_ : Int) (re : Int) (rf : Bool) (rh : Int) (ri : Int) (rj : Bool) (rk : Int) (rl : Bool) : zdY :=
 some (.next (w64 (total + (w64 ((z0N .i64 s_ s_) - s_))), w64 (s_ + 1)))
def vN (r_ : z6) (total : Int) (s_ : Int) (tables : Int) : zdY :=
 (xL r_ s_).bind fun js =>
 (xG r_ [] s_).bind fun gm =>
 gd ((0 : Int) ≤ s_) <|
 bif js.2 != 0 then (
  some (.done (.inr false)))
 else (
  bif gm.2 != 0 then (
   some (.done (.inr false)))
  else (
   bif js.1 != tables then (
    some (.done (.inr false)))
   else (
    bif gm.1 != (w64 (total + (w64 ((z0N .i64 s_ s_) - s_)))) then (
     some (.done (.inr false)))
    else (
     jR total s_ gm.2 (gm.2 != 0) js.1 tables (js.1 != tables) gm.1 (gm.1 != (w64 (total + (w64 ((z0N .i64 s_ s_) - s_)))))))))
def jQ (s_ : Int) (kl : Int) (i_ : Int) : R6_ :=
 bif decide (i_ < s_) then (
  some (.next (w64 (kl * (w64 (2 * s_))), w64 (i_ + 1))))
 else (
  some (.done kl))
def zZ (r_ : z6) (total : Int) (s_ : Int) : zdY :=
 bif decide (s_ < 5) then (
  (loop (fun s => jQ s_ s.1 s.2) (1, 0)).bind fun t5 =>
  vN r_ total s_ t5)
 else (
  some (.done (.inl ())))
def qX : Option Bool :=
 (xF ([(z7.mk 0 0)])).bind fun r_ =>
 (loop (fun s => zZ r_ s.1 s.2) (0, 1)).bind fun t2 =>
 match t2 with
 | .inl p => wm r_
 | .inr p => some p
abbrev F0_ := V1 (eI .i64)
abbrev F1_ := jr (eI .i32)
abbrev F2_ := eOs 1 true (eI .i64)
abbrev F3_ := eSl 1 true (eI .i64)
abbrev F5_ := eSl 1 false (eI .i64)
abbrev F6_ := eOs 1 false (eI .i64)
abbrev F8_ := jr F0_
abbrev F9_ := xD (eI .i64) (eI .i64)
abbrev zfz := eOs 16 false F1_
abbrev zcH := eSl 16 false F1_
abbrev XV := eSl 1 true F3_
abbrev zcG := eOs 1 true F3_
abbrev z0s := eSl 1 true F5_
abbrev yS := eSl 1 false F5_
abbrev z9O := eOs 1 false F5_
abbrev zcF := eSp yS
abbrev zfy := eOs 2 true F9_
abbrev z1H := eSl 2 true F9_
abbrev yj := eSl 2 false F9_
abbrev zgb := eOs 2 false F9_
abbrev vW := jq (eI .i64) (eI .i64) (eI .i64)
abbrev Yz := yh (eI .i32) F5_
abbrev zfx := eSl 1 false yS
abbrev Ux := ZJ (eI .i64) F8_
abbrev zga := eSl 1 true z1H
abbrev zg9 := eSl 1 false yj
abbrev Wp := y9 zcH (eI .i64) (eI .i64)
abbrev z9N := yb (eI .i64) (eI .i64) zga
abbrev zO := yb (eI .i64) (eI .i64) zg9
abbrev JS := eSp zO
abbrev Kr := wI zO yS yS yS zfx yS yS
abbrev zcE := eSp Kr
def rpN {α : Type _} (n : Nat) (a : α) (l : List α) : List α := Nat.rec l (fun _ r => a :: r) n
abbrev aLn (n : Nat) : H := .a (.atom (.int .i64 ((n : Nat) : Int)))
end Go.Own

namespace Go.Proofs
open Go.Shelf
def Tryz.so66_ren : Go.Shelf.Ren := ⟨fun | 6 => 66 | 15 => 99 | 14 => 98 | 28 => 133 | 29 => 134 | 20 => 125 | 21 => 126 | 22 => 127 | 23 => 128 | 24 => 129 | 25 => 130 | 26 => 131 | 27 => 132 | 46 => 147 | 47 => 148 | 48 => 149 | 49 => 150 | 50 => 151 | 57 => 164 | n => n, fun | 22 => 37 | 24 => 57 | 25 => 115 | 3 => 3 | 39 => 153 | 0 => 0 | 53 => 185 | 55 => 187 | 4 => 4 | 46 => 178 | 45 => 177 | 50 => 182 | 5 => 5 | 9 => 9 | 66 => 201 | 70 => 205 | 76 => 226 | 77 => 76 | n => n, fun | n => n⟩
theorem Tryz.so66 : Go.Proofs.SlLaysF0.n6 Tryz.prog Tryz.so66_ren := {
 mixed := by kernel_rfl
 f6 := ⟨Tryz.f66.name, by decide, Tryz.func66.trans (congrArg some (by kernel_rfl))⟩
 f14 := ⟨Tryz.f98.name, by decide, Tryz.func98.trans (congrArg some (by kernel_rfl))⟩
 f15 := Tryz.func99.trans (congrArg some (by kernel_rfl))
 f20 := ⟨Tryz.f125.name, by decide, Tryz.func125.trans (congrArg some (by kernel_rfl))⟩
 f21 := ⟨Tryz.f126.name, by decide, Tryz.func126.trans (congrArg some (by kernel_rfl))⟩
 f22 := ⟨Tryz.f127.name, by decide, Tryz.func127.trans (congrArg some (by kernel_rfl))⟩
 f23 := ⟨Tryz.f128.name, by decide, Tryz.func128.trans (congrArg some (by kernel_rfl))⟩
 f24 := ⟨Tryz.f129.name, by decide, Tryz.func129.trans (congrArg some (by kernel_rfl))⟩
 f25 := ⟨Tryz.f130.name, by decide, Tryz.func130.trans (congrArg some (by kernel_rfl))⟩
 f26 := ⟨Tryz.f131.name, by decide, Tryz.func131.trans (congrArg some (by kernel_rfl))⟩
 f27 := ⟨Tryz.f132.name, by decide, Tryz.func132.trans (congrArg some (by kernel_rfl))⟩
 f28 := Tryz.func133.trans (congrArg some (by kernel_rfl))
 f29 := Tryz.func134.trans (congrArg some (by kernel_rfl))
 f46 := ⟨Tryz.f147.name, by decide, Tryz.func147.trans (congrArg some (by kernel_rfl))⟩
 f47 := Tryz.func148.trans (congrArg some (by kernel_rfl))
 f48 := Tryz.func149.trans (congrArg some (by kernel_rfl))
 f49 := ⟨Tryz.f150.name, by decide, Tryz.func150.trans (congrArg some (by kernel_rfl))⟩
 f50 := ⟨Tryz.f151.name, by decide, Tryz.func151.trans (congrArg some (by kernel_rfl))⟩
 f57 := ⟨Tryz.f164.name, by decide, Tryz.func164.trans (congrArg some (by kernel_rfl))⟩
 t0 := Tryz.underlying0
 a0 := Tryz.isAgg0
 z0 := Tryz.sizeOf0
 v0 := Tryz.zeroValue0
 t3 := Tryz.underlying3
 a3 := Tryz.isAgg3
 z3 := Tryz.sizeOf3
 v3 := Tryz.zeroValue3
 t4 := Tryz.underlying4
 a4 := Tryz.isAgg4
 z4 := Tryz.sizeOf4
 v4 := Tryz.zeroValue4
 t5 := Tryz.underlying5
 a5 := Tryz.isAgg5
 z5 := Tryz.sizeOf5
 v5 := Tryz.zeroValue5
 t9 := Tryz.underlying9
 a9 := Tryz.isAgg9
 z9 := Tryz.sizeOf9
 v9 := Tryz.zeroValue9
 t22 := Tryz.underlying37
 a22 := Tryz.isAgg37
 z22 := Tryz.sizeOf37
 v22 := Tryz.zeroValue37
 t25 := Tryz.underlying115
 a25 := Tryz.isAgg115
 z25 := Tryz.sizeOf115
 v25 := Tryz.zeroValue115
 t39 := Tryz.underlying153
 a39 := Tryz.isAgg153
 z39 := Tryz.sizeOf153
 v39 := Tryz.zeroValue153
 t45 := Tryz.underlying177
 a45 := Tryz.isAgg177
 z45 := Tryz.sizeOf177
 v45 := Tryz.zeroValue177
 t46 := Tryz.underlying178
 a46 := Tryz.isAgg178
 z46 := Tryz.sizeOf178
 v46 := Tryz.zeroValue178
 t50 := Tryz.underlying182
 a50 := Tryz.isAgg182
 z50 := Tryz.sizeOf182
 v50 := Tryz.zeroValue182
 t53 := Tryz.underlying185
 a53 := Tryz.isAgg185
 z53 := Tryz.sizeOf185
 v53 := Tryz.zeroValue185
 t55 := Tryz.underlying187
 a55 := Tryz.isAgg187
 z55 := Tryz.sizeOf187
 v55 := Tryz.zeroValue187
 t66 := Tryz.underlying201
 a66 := Tryz.isAgg201
 z66 := Tryz.sizeOf201
 v66 := Tryz.zeroValue201
 t70 := Tryz.underlying205
 a70 := Tryz.isAgg205
 z70 := Tryz.sizeOf205
 v70 := Tryz.zeroValue205
 t76 := Tryz.underlying226
 a76 := Tryz.isAgg226
 z76 := Tryz.sizeOf226
 v76 := Tryz.zeroValue226
 t77 := Tryz.underlying76
 a77 := Tryz.isAgg76
 z77 := Tryz.sizeOf76
 v77 := Tryz.zeroValue76 }
end Go.Proofs
