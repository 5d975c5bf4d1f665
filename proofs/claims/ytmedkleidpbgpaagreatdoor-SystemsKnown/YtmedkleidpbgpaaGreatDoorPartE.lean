/- -/
import Derived.Test.YtmedkleidpbgpaaGreatDoorPartB
import Derived.Test.YtmedkleidpbgpaaGreatDoorProg
import Derived.Test.YtmedkleidpbgpaaGreatDoorPartD
import Derived.Test.YtmedkleidpbgpaaGreatDoorChecked
import Derived.LaidEql
import Derived.Stop.Asserts
import Derived.RowKitTokens
import Derived.Test.YtmedkleidpbgpaaGreatDoorPartC
import Derived.Shelf.SlSortCmp.NoneTotal
import Derived.Ground.SlsfProg
set_option linter.unusedVariables false
set_option linter.unusedSimpArgs false
namespace Go.Ex
open Go.Proofs
theorem q3 : EqP Tryz.prog 3 [.int .i64 0] false 1 := z4d (k := .int .i64) Tryz.underlying3 ⟨_, (by kernel_rfl : Tryz.prog.info? 3 = some Tryz.t3), rfl⟩ rfl
theorem q57 : EqP Tryz.prog 57 (z6M 4 [.int .i64 0]) true 2 := z2G Tryz.underlying57 q3 ⟨_, (by kernel_rfl : Tryz.prog.info? 57 = some Tryz.t57), rfl⟩
theorem q58 : EqP Tryz.prog 58 (kW [([.int .i64 0], false), ([.int .i64 0, .int .i64 0, .int .i64 0, .int .i64 0], true)]) true 3 := wC Tryz.underlying58 (by kernel_rfl) ⟨_, (by kernel_rfl : Tryz.prog.info? 58 = some Tryz.t58), rfl⟩ (by decide) (zy.cons (by decide) rfl (q3.mono (by decide)) (zy.cons (by decide) rfl (q57.mono (by decide)) (zy.nil)))
theorem q59 : EqP Tryz.prog 59 (kW [([.int .i64 0], false), ([.int .i64 0, .int .i64 0, .int .i64 0, .int .i64 0], true)]) true 3 := wC Tryz.underlying59 (by kernel_rfl) ⟨_, (by kernel_rfl : Tryz.prog.info? 59 = some Tryz.t59), rfl⟩ (by decide) (zy.cons (by decide) rfl (q3.mono (by decide)) (zy.cons (by decide) rfl (q57.mono (by decide)) (zy.nil)))
theorem q60 : EqP Tryz.prog 60 (z6M 4 [.int .i64 0, .int .i64 0, .int .i64 0, .int .i64 0, .int .i64 0]) true 4 := z2G Tryz.underlying60 q59 ⟨_, (by kernel_rfl : Tryz.prog.info? 60 = some Tryz.t60), rfl⟩
theorem q61 : EqP Tryz.prog 61 (kW [([.int .i64 0, .int .i64 0, .int .i64 0, .int .i64 0], true), ([.int .i64 0, .int .i64 0, .int .i64 0, .int .i64 0, .int .i64 0, .int .i64 0, .int .i64 0, .int .i64 0, .int .i64 0, .int .i64 0, .int .i64 0, .int .i64 0, .int .i64 0, .int .i64 0, .int .i64 0, .int .i64 0, .int .i64 0, .int .i64 0, .int .i64 0, .int .i64 0], true)]) true 5 := wC Tryz.underlying61 (by kernel_rfl) ⟨_, (by kernel_rfl : Tryz.prog.info? 61 = some Tryz.t61), rfl⟩ (by decide) (zy.cons (by decide) rfl (q57.mono (by decide)) (zy.cons (by decide) rfl (q60.mono (by decide)) (zy.nil)))
theorem q62 : EqP Tryz.prog 62 (kW [([.int .i64 0, .int .i64 0, .int .i64 0, .int .i64 0], true), ([.int .i64 0, .int .i64 0, .int .i64 0, .int .i64 0, .int .i64 0, .int .i64 0, .int .i64 0, .int .i64 0, .int .i64 0, .int .i64 0, .int .i64 0, .int .i64 0, .int .i64 0, .int .i64 0, .int .i64 0, .int .i64 0, .int .i64 0, .int .i64 0, .int .i64 0, .int .i64 0], true)]) true 5 := wC Tryz.underlying62 (by kernel_rfl) ⟨_, (by kernel_rfl : Tryz.prog.info? 62 = some Tryz.t62), rfl⟩ (by decide) (zy.cons (by decide) rfl (q57.mono (by decide)) (zy.cons (by decide) rfl (q60.mono (by decide)) (zy.nil)))
def i64 : EI := ⟨.func, 1, 8, some [.nilFunc], false⟩
theorem q5 : EqP Tryz.prog 5 [.int .u8 0] false 1 := z4d (k := .int .u8) Tryz.underlying5 ⟨_, (by kernel_rfl : Tryz.prog.info? 5 = some Tryz.t5), rfl⟩ rfl
theorem q65 : EqP Tryz.prog 65 (kW [([.int .i64 0], false), ([.int .u8 0], false), ([.int .i64 0], false), ([.int .i64 0], false), ([.int .i64 0], false)]) true 2 := wC Tryz.underlying65 (by kernel_rfl) ⟨_, (by kernel_rfl : Tryz.prog.info? 65 = some Tryz.t65), rfl⟩ (by decide) (zy.cons (by decide) rfl (q3.mono (by decide)) (zy.cons (by decide) rfl (q5.mono (by decide)) (zy.cons (by decide) rfl (q3.mono (by decide)) (zy.cons (by decide) rfl (q3.mono (by decide)) (zy.cons (by decide) rfl (q3.mono (by decide)) (zy.nil))))))
theorem q66 : EqP Tryz.prog 66 (kW [([.int .i64 0], false), ([.int .u8 0], false), ([.int .i64 0], false), ([.int .i64 0], false), ([.int .i64 0], false)]) true 2 := wC Tryz.underlying66 (by kernel_rfl) ⟨_, (by kernel_rfl : Tryz.prog.info? 66 = some Tryz.t66), rfl⟩ (by decide) (zy.cons (by decide) rfl (q3.mono (by decide)) (zy.cons (by decide) rfl (q5.mono (by decide)) (zy.cons (by decide) rfl (q3.mono (by decide)) (zy.cons (by decide) rfl (q3.mono (by decide)) (zy.cons (by decide) rfl (q3.mono (by decide)) (zy.nil))))))
theorem q70 : EqP Tryz.prog 70 (kW [([.int .i64 0], false), ([.int .i64 0], false), ([.int .i64 0], false), ([.int .i64 0], false)]) true 2 := wC Tryz.underlying70 (by kernel_rfl) ⟨_, (by kernel_rfl : Tryz.prog.info? 70 = some Tryz.t70), rfl⟩ (by decide) (zy.cons (by decide) rfl (q3.mono (by decide)) (zy.cons (by decide) rfl (q3.mono (by decide)) (zy.cons (by decide) rfl (q3.mono (by decide)) (zy.cons (by decide) rfl (q3.mono (by decide)) (zy.nil)))))
theorem q71 : EqP Tryz.prog 71 (kW [([.int .i64 0], false), ([.int .i64 0], false), ([.int .i64 0], false), ([.int .i64 0], false)]) true 2 := wC Tryz.underlying71 (by kernel_rfl) ⟨_, (by kernel_rfl : Tryz.prog.info? 71 = some Tryz.t71), rfl⟩ (by decide) (zy.cons (by decide) rfl (q3.mono (by decide)) (zy.cons (by decide) rfl (q3.mono (by decide)) (zy.cons (by decide) rfl (q3.mono (by decide)) (zy.cons (by decide) rfl (q3.mono (by decide)) (zy.nil)))))
theorem q72 : EqP Tryz.prog 72 (kW [([.int .i64 0, .int .i64 0, .int .i64 0, .int .i64 0], true), ([.int .i64 0], false)]) true 3 := wC Tryz.underlying72 (by kernel_rfl) ⟨_, (by kernel_rfl : Tryz.prog.info? 72 = some Tryz.t72), rfl⟩ (by decide) (zy.cons (by decide) rfl (q71.mono (by decide)) (zy.cons (by decide) rfl (q3.mono (by decide)) (zy.nil)))
theorem q73 : EqP Tryz.prog 73 (kW [([.int .i64 0, .int .i64 0, .int .i64 0, .int .i64 0], true), ([.int .i64 0], false)]) true 3 := wC Tryz.underlying73 (by kernel_rfl) ⟨_, (by kernel_rfl : Tryz.prog.info? 73 = some Tryz.t73), rfl⟩ (by decide) (zy.cons (by decide) rfl (q71.mono (by decide)) (zy.cons (by decide) rfl (q3.mono (by decide)) (zy.nil)))
theorem q74 : EqP Tryz.prog 74 (kW [([.int .u8 0], false), ([.int .i64 0], false), ([.int .i64 0], false)]) true 2 := wC Tryz.underlying74 (by kernel_rfl) ⟨_, (by kernel_rfl : Tryz.prog.info? 74 = some Tryz.t74), rfl⟩ (by decide) (zy.cons (by decide) rfl (q5.mono (by decide)) (zy.cons (by decide) rfl (q3.mono (by decide)) (zy.cons (by decide) rfl (q3.mono (by decide)) (zy.nil))))
theorem q75 : EqP Tryz.prog 75 (kW [([.int .u8 0], false), ([.int .i64 0], false), ([.int .i64 0], false)]) true 2 := wC Tryz.underlying75 (by kernel_rfl) ⟨_, (by kernel_rfl : Tryz.prog.info? 75 = some Tryz.t75), rfl⟩ (by decide) (zy.cons (by decide) rfl (q5.mono (by decide)) (zy.cons (by decide) rfl (q3.mono (by decide)) (zy.cons (by decide) rfl (q3.mono (by decide)) (zy.nil))))
theorem q86 : EqP Tryz.prog 86 (kW [([.int .i64 0], false), ([.int .i64 0, .int .i64 0, .int .i64 0, .int .i64 0], true)]) true 3 := wC Tryz.underlying86 (by kernel_rfl) ⟨_, (by kernel_rfl : Tryz.prog.info? 86 = some Tryz.t86), rfl⟩ (by decide) (zy.cons (by decide) rfl (q3.mono (by decide)) (zy.cons (by decide) rfl (q71.mono (by decide)) (zy.nil)))
theorem q87 : EqP Tryz.prog 87 (kW [([.int .i64 0], false), ([.int .i64 0, .int .i64 0, .int .i64 0, .int .i64 0], true)]) true 3 := wC Tryz.underlying87 (by kernel_rfl) ⟨_, (by kernel_rfl : Tryz.prog.info? 87 = some Tryz.t87), rfl⟩ (by decide) (zy.cons (by decide) rfl (q3.mono (by decide)) (zy.cons (by decide) rfl (q71.mono (by decide)) (zy.nil)))
end Go.Ex

namespace Go.Own
open Go.Proofs
def zcm : Value → Bool
 | .int _ _ => true
 | _ => false
theorem z2D : ∀ {z vs us : List Value} {r : Bool}, z.all zcm = true → z.length = vs.length → xF vs us = some r → Go.Ex.z1v z vs = true ∧ Go.Ex.xF vs us = some r
 | [], [], us, r, _, _, h => by
  cases us with
  | nil => simp only [xF, Option.some.injEq] at h; subst h; exact ⟨rfl, rfl⟩
  | cons u us => simp [xF] at h
 | a :: z, v :: vs, us, r, hz, hl, h => by
  have q : ∃ k x u' k' y, v = .int k x ∧ us = .int k' y :: u' ∧ k = k' := by
   cases us with
   | nil => cases v <;> simp [xF] at h
   | cons u us =>
    cases v <;> cases u <;> simp [xF] at h
    exact ⟨_, _, _, _, _, rfl, rfl, h.1⟩
  obtain ⟨k, x, u', k', y, rfl, rfl, hk⟩ := q
  simp only [xF, hk, if_true, Option.map_eq_some_iff] at h
  obtain ⟨r', e1, rfl⟩ := h
  simp only [List.all_cons, Bool.and_eq_true] at hz
  obtain ⟨q1, q2⟩ := z2D hz.2 (by simpa using hl) e1
  refine ⟨?_, by simp [Go.Ex.xF, hk, q2]⟩
  cases a <;> first | (simp [zcm] at hz; done) | simpa [Go.Ex.z1v] using q1
 | [], _ :: _, _, _, _, hl, _ => by simp at hl
 | _ :: _, [], _, _, _, hl, _ => by simp at hl
variable {P : Program}{z : List Value}
theorem zao {t n : Nat} {i : Go.Ex.EI} (h : Go.Ex.z6S P t i)  (hz : i.zero = some z) (hi : z.all zcm = true) (hs : i.size = n) (hn : z.length = n) : z6S P t n := {
 guard := h.guard
 run := fun vs us r w hv hu he => by
  obtain ⟨q1, q2⟩ := z2D hi (by rw [hn, hv]) he
  exact h.run vs us r w (by rw [hs]; exact hv) (by rw [hs]; exact hu) (by simpa only [Go.Ex.zd1, hz] using q1) q2 }
theorem exq {t dep : Nat}  (q : Go.Ex.EqP P t z true dep) (h1 : Nat.ble dep P.depth = true := by kernel_rfl) (h2 : dep ≤ 10000 := by decide) : Go.Ex.z6S P t ⟨.func, z.length, 0, some z, true⟩ := Go.Ex.zan q rfl rfl (Nat.le_of_ble_eq_true h1) h2
theorem VA {t n dep : Nat}  (q : Go.Ex.EqP P t z true dep) (hi : z.all zcm = true) (hn : z.length = n) (h1 : Nat.ble dep P.depth = true := by kernel_rfl) (h2 : dep ≤ 10000 := by decide) : z6S P t n := zao (exq q h1 h2) rfl hi hn hn
variable {h : Array Obj}{S : zn}
theorem z6p {v : Value} (hv : v.oneCell' = true) : zH S h (.atom v) [v] [] := by simp only [zH, Rep]; exact ⟨⟨trivial, hv⟩, trivial⟩
theorem z8a (sz : Nat) : zH S h (.osl sz true []) [.slice none 0 0] [] := by
 simp only [zH]
 exact ⟨none, 0, rfl, (fun _ => rfl), Nat.le_refl _, Nat.zero_le _, by simp, .inl ⟨trivial, rfl, rfl, trivial⟩⟩
variable {fs : List A}
theorem z8b {cs : List Value} (q : zL S h fs cs []) : zH S h (.agg fs) cs [] := by simpa only [zH] using q
theorem z6n : zL S h [] [] [] := by simp [zL]
theorem z6o {a : A}  {c1 c2 : List Value} (q1 : zH S h a c1 []) (q2 : zL S h fs c2 []) : zL S h (a :: fs) (c1 ++ c2) [] := by simp only [zL]; exact ⟨c1, c2, [], [], rfl, rfl, q1, q2⟩
def zc : A → Option (List Value)
 | .atom v => if v.oneCell' = true then some [v] else none
 | .osl _ true [] => some [.slice none 0 0]
 | .agg fs => zcs fs
 | _ => none
where zcs : List A → Option (List Value)
 | [] => some []
 | a :: l => match zc a, zcs l with | some c, some d => some (c ++ d) | _, _ => none
mutual
theorem zaT : ∀ {a : A} {c : List Value}, zc a = some c → zH S h a c []
 | .atom v, c, e => by
  simp only [zc] at e
  split at e
  ·rename_i q; cases e; exact z6p q
  ·cases e
 | .osl sz true [], c, e => by simp only [zc] at e; cases e; exact z8a sz
 | .agg fs, c, e => z8b (z8E (by simpa only [zc] using e))
theorem z8E : ∀ {l : List A} {c : List Value}, zc.zcs l = some c → zL S h l c []
 | [], c, e => by simp only [zc.zcs] at e; cases e; exact z6n
 | a :: l, c, e => by
  simp only [zc.zcs] at e
  split at e
  ·rename_i c d e1 e2; cases e; exact z6o (zaT e1) (z8E e2)
  ·cases e
end
def zq (z : Option A) (v : Option Value) (n : Nat) : Prop := match z, v with | some z, some v => z.size = n ∧ zc z = some v.cells.toList | none, _ => True | _, _ => False
theorem tiq {t : Nat} {i : TI} (f : TypeInfo) (k : KP P t i.kind) (e : i.eqn = true → z6S P t i.size := by intro h; cases h) (h : P.info? t = some f := by kernel_rfl) (h2 : f.size = i.size := by rfl) (h3 : f.bytes = i.bytes := by rfl) (h4 : zq i.zero f.zero i.size := by exact And.intro rfl rfl) : ZJ P t i :=
 ⟨⟨f, h, h2, h3, fun z hz => by
  rw [hz] at h4
  cases hv : f.zero with
  | none => rw [hv] at h4; exact h4.elim
  | some v => rw [hv] at h4; exact ⟨v, rfl, h4.1, fun S h => zaT h4.2⟩⟩, k, e⟩
def ti1 : TI := ⟨.other, 1, 8, some (.atom .nilFunc), false⟩
theorem zb2 : ZJ Tryz.prog 1 ti1 := tiq Tryz.t1 ⟨_, Tryz.underlying1, rfl⟩
def ti2 : TI := ⟨.int .i64, 1, 8, some (.atom (.int .i64 0)), false⟩
theorem zb1 : ZJ Tryz.prog 2 ti2 := tiq Tryz.t2 Tryz.underlying2
def ti3 : TI := ⟨.int .i64, 1, 8, some (.atom (.int .i64 0)), false⟩
theorem zb0 : ZJ Tryz.prog 3 ti3 := tiq Tryz.t3 Tryz.underlying3
def ti4 : TI := ⟨.bool, 1, 1, some (.atom (.bool false)), false⟩
theorem zaZ : ZJ Tryz.prog 4 ti4 := tiq Tryz.t4 Tryz.underlying4
def ti5 : TI := ⟨.int .u8, 1, 1, some (.atom (.int .u8 0)), false⟩
theorem zaY : ZJ Tryz.prog 5 ti5 := tiq Tryz.t5 Tryz.underlying5
def zdT : TI := ⟨.slice 45, 1, 24, some (.osl 2 true []), false⟩
theorem z9E : ZJ Tryz.prog 22 zdT := tiq Tryz.t22 Tryz.underlying22
def zdS : TI := ⟨.slice 68, 1, 24, some (.osl 1 true []), false⟩
theorem z9D : ZJ Tryz.prog 23 zdS := tiq Tryz.t23 Tryz.underlying23
def zdR : TI := ⟨.int .i64, 1, 8, some (.atom (.int .i64 0)), false⟩
theorem z9C : ZJ Tryz.prog 24 zdR := tiq Tryz.t24 Tryz.underlying24
def zdQ : TI := ⟨.slice 3, 1, 24, some (.osl 1 true []), false⟩
theorem z9B : ZJ Tryz.prog 27 zdQ := tiq Tryz.t27 Tryz.underlying27
def zdP : TI := ⟨.slice 39, 1, 24, some (.osl 3 true []), false⟩
theorem z9A : ZJ Tryz.prog 28 zdP := tiq Tryz.t28 Tryz.underlying28
def zdO : TI := ⟨.struct [(0, 1), (1, 1), (2, 1), (3, 1)], 4, 64, some (.agg [.atom (.int .i64 0), .atom (.int .i64 0), .osl 1 true [], .osl 3 true []]), false⟩
theorem z9z : ZJ Tryz.prog 30 zdO := tiq Tryz.t30 ⟨_, Tryz.underlying30, by kernel_rfl, by
  intro f hf
  simp only [List.mem_cons, List.not_mem_nil, or_false] at hf
  rcases hf with rfl | rfl | rfl | rfl
  ·exact ⟨Tryz.t3, by kernel_rfl⟩
  ·exact ⟨Tryz.t3, by kernel_rfl⟩
  ·exact ⟨Tryz.t27, by kernel_rfl⟩
  ·exact ⟨Tryz.t28, by kernel_rfl⟩⟩
def zdN : TI := ⟨.slice 69, 1, 24, some (.osl 1 true []), false⟩
theorem z9y : ZJ Tryz.prog 32 zdN := tiq Tryz.t32 Tryz.underlying32
def zdM : TI := ⟨.struct [(0, 1), (1, 1), (2, 1)], 3, 40, some (.agg [.atom (.int .i64 0), .atom (.int .i64 0), .osl 1 true []]), false⟩
theorem z9x : ZJ Tryz.prog 34 zdM := tiq Tryz.t34 ⟨_, Tryz.underlying34, by kernel_rfl, by
  intro f hf
  simp only [List.mem_cons, List.not_mem_nil, or_false] at hf
  rcases hf with rfl | rfl | rfl
  ·exact ⟨Tryz.t3, by kernel_rfl⟩
  ·exact ⟨Tryz.t3, by kernel_rfl⟩
  ·exact ⟨Tryz.t32, by kernel_rfl⟩⟩
def zdL : TI := ⟨.slice 66, 1, 24, some (.osl 5 true []), false⟩
theorem z9w : ZJ Tryz.prog 37 zdL := tiq Tryz.t37 Tryz.underlying37
def zdK : TI := ⟨.struct [(0, 1), (1, 1), (2, 1)], 3, 56, some (.agg [.atom (.int .i64 0), .osl 5 true [], .osl 1 true []]), false⟩
theorem z9v : ZJ Tryz.prog 39 zdK := tiq Tryz.t39 ⟨_, Tryz.underlying39, by kernel_rfl, by
  intro f hf
  simp only [List.mem_cons, List.not_mem_nil, or_false] at hf
  rcases hf with rfl | rfl | rfl
  ·exact ⟨Tryz.t3, by kernel_rfl⟩
  ·exact ⟨Tryz.t37, by kernel_rfl⟩
  ·exact ⟨Tryz.t27, by kernel_rfl⟩⟩
def zdJ : TI := ⟨.slice 71, 1, 24, some (.osl 4 true []), false⟩
theorem z9u : ZJ Tryz.prog 42 zdJ := tiq Tryz.t42 Tryz.underlying42
def zdI : TI := ⟨.slice 27, 1, 24, some (.osl 1 true []), false⟩
theorem z9t : ZJ Tryz.prog 43 zdI := tiq Tryz.t43 Tryz.underlying43
def zdH : TI := ⟨.struct [(0, 1), (1, 1)], 2, 48, some (.agg [.osl 1 true [], .osl 1 true []]), false⟩
theorem z9s : ZJ Tryz.prog 45 zdH := tiq Tryz.t45 ⟨_, Tryz.underlying45, by kernel_rfl, by
  intro f hf
  simp only [List.mem_cons, List.not_mem_nil, or_false] at hf
  rcases hf with rfl | rfl
  ·exact ⟨Tryz.t27, by kernel_rfl⟩
  ·exact ⟨Tryz.t43, by kernel_rfl⟩⟩
def zdG : TI := ⟨.other, 1, 8, some (.atom .nilFunc), false⟩
theorem z9r : ZJ Tryz.prog 49 zdG := tiq Tryz.t49 ⟨_, Tryz.underlying49, rfl⟩
def zdF : TI := ⟨.slice 62, 1, 24, some (.osl 24 true []), false⟩
theorem z9q : ZJ Tryz.prog 54 zdF := tiq Tryz.t54 Tryz.underlying54
def zdE : TI := ⟨.array 4 3, 4, 32, some (.agg [.atom (.int .i64 0), .atom (.int .i64 0), .atom (.int .i64 0), .atom (.int .i64 0)]), true⟩
theorem z9p : ZJ Tryz.prog 57 zdE := tiq Tryz.t57 Tryz.underlying57 (fun _ => VA Go.Ex.q57 rfl rfl)
def zdD : TI := ⟨.struct [(0, 1), (1, 4)], 5, 40, some (.agg [.atom (.int .i64 0), .agg [.atom (.int .i64 0), .atom (.int .i64 0), .atom (.int .i64 0), .atom (.int .i64 0)]]), true⟩
theorem z9o : ZJ Tryz.prog 59 zdD := tiq Tryz.t59 ⟨_, Tryz.underlying59, by kernel_rfl, by
  intro f hf
  simp only [List.mem_cons, List.not_mem_nil, or_false] at hf
  rcases hf with rfl | rfl
  ·exact ⟨Tryz.t3, by kernel_rfl⟩
  ·exact ⟨Tryz.t57, by kernel_rfl⟩⟩ (fun _ => VA Go.Ex.q59 rfl rfl)
def zdC : TI := ⟨.array 4 59, 20, 160, some (.agg [.agg [.atom (.int .i64 0), .agg [.atom (.int .i64 0), .atom (.int .i64 0), .atom (.int .i64 0), .atom (.int .i64 0)]], .agg [.atom (.int .i64 0), .agg [.atom (.int .i64 0), .atom (.int .i64 0), .atom (.int .i64 0), .atom (.int .i64 0)]], .agg [.atom (.int .i64 0), .agg [.atom (.int .i64 0), .atom (.int .i64 0), .atom (.int .i64 0), .atom (.int .i64 0)]], .agg [.atom (.int .i64 0), .agg [.atom (.int .i64 0), .atom (.int .i64 0), .atom (.int .i64 0), .atom (.int .i64 0)]]]), true⟩
theorem z9n : ZJ Tryz.prog 60 zdC := tiq Tryz.t60 Tryz.underlying60 (fun _ => VA Go.Ex.q60 rfl rfl)
def zdB : TI := ⟨.struct [(0, 4), (4, 20)], 24, 192, some (.agg [.agg [.atom (.int .i64 0), .atom (.int .i64 0), .atom (.int .i64 0), .atom (.int .i64 0)], .agg [.agg [.atom (.int .i64 0), .agg [.atom (.int .i64 0), .atom (.int .i64 0), .atom (.int .i64 0), .atom (.int .i64 0)]], .agg [.atom (.int .i64 0), .agg [.atom (.int .i64 0), .atom (.int .i64 0), .atom (.int .i64 0), .atom (.int .i64 0)]], .agg [.atom (.int .i64 0), .agg [.atom (.int .i64 0), .atom (.int .i64 0), .atom (.int .i64 0), .atom (.int .i64 0)]], .agg [.atom (.int .i64 0), .agg [.atom (.int .i64 0), .atom (.int .i64 0), .atom (.int .i64 0), .atom (.int .i64 0)]]]]), true⟩
theorem z4R : ZJ Tryz.prog 62 zdB := tiq Tryz.t62 ⟨_, Tryz.underlying62, by kernel_rfl, by
  intro f hf
  simp only [List.mem_cons, List.not_mem_nil, or_false] at hf
  rcases hf with rfl | rfl
  ·exact ⟨Tryz.t57, by kernel_rfl⟩
  ·exact ⟨Tryz.t60, by kernel_rfl⟩⟩ (fun _ => VA Go.Ex.q62 rfl rfl)
def zdA : TI := ⟨.struct [(0, 1), (1, 1), (2, 1), (3, 1), (4, 1)], 5, 40, some (.agg [.atom (.int .i64 0), .atom (.int .u8 0), .atom (.int .i64 0), .atom (.int .i64 0), .atom (.int .i64 0)]), true⟩
theorem z9m : ZJ Tryz.prog 66 zdA := tiq Tryz.t66 ⟨_, Tryz.underlying66, by kernel_rfl, by
  intro f hf
  simp only [List.mem_cons, List.not_mem_nil, or_false] at hf
  rcases hf with rfl | rfl | rfl | rfl | rfl
  ·exact ⟨Tryz.t3, by kernel_rfl⟩
  ·exact ⟨Tryz.t5, by kernel_rfl⟩
  ·exact ⟨Tryz.t3, by kernel_rfl⟩
  ·exact ⟨Tryz.t3, by kernel_rfl⟩
  ·exact ⟨Tryz.t3, by kernel_rfl⟩⟩ (fun _ => VA Go.Ex.q66 rfl rfl)
def zdz : TI := ⟨.slice 73, 1, 24, some (.osl 5 true []), false⟩
theorem z9l : ZJ Tryz.prog 68 zdz := tiq Tryz.t68 Tryz.underlying68
def zdy : TI := ⟨.slice 75, 1, 24, some (.osl 3 true []), false⟩
theorem z9k : ZJ Tryz.prog 69 zdy := tiq Tryz.t69 Tryz.underlying69
def zdx : TI := ⟨.struct [(0, 1), (1, 1), (2, 1), (3, 1)], 4, 32, some (.agg [.atom (.int .i64 0), .atom (.int .i64 0), .atom (.int .i64 0), .atom (.int .i64 0)]), true⟩
theorem z9j : ZJ Tryz.prog 71 zdx := tiq Tryz.t71 ⟨_, Tryz.underlying71, by kernel_rfl, by
  intro f hf
  simp only [List.mem_cons, List.not_mem_nil, or_false] at hf
  rcases hf with rfl | rfl | rfl | rfl
  ·exact ⟨Tryz.t3, by kernel_rfl⟩
  ·exact ⟨Tryz.t3, by kernel_rfl⟩
  ·exact ⟨Tryz.t3, by kernel_rfl⟩
  ·exact ⟨Tryz.t3, by kernel_rfl⟩⟩ (fun _ => VA Go.Ex.q71 rfl rfl)
def zdw : TI := ⟨.struct [(0, 4), (4, 1)], 5, 40, some (.agg [.agg [.atom (.int .i64 0), .atom (.int .i64 0), .atom (.int .i64 0), .atom (.int .i64 0)], .atom (.int .i64 0)]), true⟩
theorem z9i : ZJ Tryz.prog 72 zdw := tiq Tryz.t72 ⟨_, Tryz.underlying72, by kernel_rfl, by
  intro f hf
  simp only [List.mem_cons, List.not_mem_nil, or_false] at hf
  rcases hf with rfl | rfl
  ·exact ⟨Tryz.t71, by kernel_rfl⟩
  ·exact ⟨Tryz.t3, by kernel_rfl⟩⟩ (fun _ => VA Go.Ex.q72 rfl rfl)
def zdv : TI := ⟨.struct [(0, 4), (4, 1)], 5, 40, some (.agg [.agg [.atom (.int .i64 0), .atom (.int .i64 0), .atom (.int .i64 0), .atom (.int .i64 0)], .atom (.int .i64 0)]), true⟩
theorem z9h : ZJ Tryz.prog 73 zdv := tiq Tryz.t73 ⟨_, Tryz.underlying73, by kernel_rfl, by
  intro f hf
  simp only [List.mem_cons, List.not_mem_nil, or_false] at hf
  rcases hf with rfl | rfl
  ·exact ⟨Tryz.t71, by kernel_rfl⟩
  ·exact ⟨Tryz.t3, by kernel_rfl⟩⟩ (fun _ => VA Go.Ex.q73 rfl rfl)
def zdu : TI := ⟨.struct [(0, 1), (1, 1), (2, 1)], 3, 24, some (.agg [.atom (.int .u8 0), .atom (.int .i64 0), .atom (.int .i64 0)]), true⟩
theorem z9g : ZJ Tryz.prog 75 zdu := tiq Tryz.t75 ⟨_, Tryz.underlying75, by kernel_rfl, by
  intro f hf
  simp only [List.mem_cons, List.not_mem_nil, or_false] at hf
  rcases hf with rfl | rfl | rfl
  ·exact ⟨Tryz.t5, by kernel_rfl⟩
  ·exact ⟨Tryz.t3, by kernel_rfl⟩
  ·exact ⟨Tryz.t3, by kernel_rfl⟩⟩ (fun _ => VA Go.Ex.q75 rfl rfl)
def zdt : TI := ⟨.slice 87, 1, 24, some (.osl 5 true []), false⟩
theorem z9f : ZJ Tryz.prog 85 zdt := tiq Tryz.t85 Tryz.underlying85
def zds : TI := ⟨.struct [(0, 1), (1, 4)], 5, 40, some (.agg [.atom (.int .i64 0), .agg [.atom (.int .i64 0), .atom (.int .i64 0), .atom (.int .i64 0), .atom (.int .i64 0)]]), true⟩
theorem z9e : ZJ Tryz.prog 87 zds := tiq Tryz.t87 ⟨_, Tryz.underlying87, by kernel_rfl, by
  intro f hf
  simp only [List.mem_cons, List.not_mem_nil, or_false] at hf
  rcases hf with rfl | rfl
  ·exact ⟨Tryz.t3, by kernel_rfl⟩
  ·exact ⟨Tryz.t71, by kernel_rfl⟩⟩ (fun _ => VA Go.Ex.q87 rfl rfl)
def zdr : TI := ⟨.other, 1, 8, some (.atom .nilFunc), false⟩
theorem z9d : ZJ Tryz.prog 89 zdr := tiq Tryz.t89 ⟨_, Tryz.underlying89, rfl⟩
def zbe : TI := ⟨.other, 1, 8, some (.atom .nilFunc), false⟩
theorem z7b : ZJ Tryz.prog 106 zbe := tiq Tryz.t106 ⟨_, Tryz.underlying106, rfl⟩
def zbd : TI := ⟨.other, 1, 8, some (.atom .nilFunc), false⟩
theorem z7a : ZJ Tryz.prog 109 zbd := tiq Tryz.t109 ⟨_, Tryz.underlying109, rfl⟩
def zbc : TI := ⟨.other, 1, 8, some (.atom (.map none)), false⟩
theorem z79 : ZJ Tryz.prog 110 zbc := tiq Tryz.t110 ⟨_, Tryz.underlying110, rfl⟩
def zbb : TI := ⟨.other, 1, 8, some (.atom .nilFunc), false⟩
theorem z78 : ZJ Tryz.prog 111 zbb := tiq Tryz.t111 ⟨_, Tryz.underlying111, rfl⟩
def zba : TI := ⟨.other, 1, 8, some (.atom .nilFunc), false⟩
theorem z75 : ZJ Tryz.prog 112 zba := tiq Tryz.t112 ⟨_, Tryz.underlying112, rfl⟩
def zb9 : TI := ⟨.int .u64, 1, 8, some (.atom (.int .u64 0)), false⟩
theorem z74 : ZJ Tryz.prog 118 zb9 := tiq Tryz.t118 Tryz.underlying118
def zb8 : TI := ⟨.other, 1, 8, some (.atom .nilFunc), false⟩
theorem z73 : ZJ Tryz.prog 124 zb8 := tiq Tryz.t124 ⟨_, Tryz.underlying124, rfl⟩
def zb7 : TI := ⟨.other, 1, 8, some (.atom .nilFunc), false⟩
theorem z72 : ZJ Tryz.prog 127 zb7 := tiq Tryz.t127 ⟨_, Tryz.underlying127, rfl⟩
def zb6 : TI := ⟨.other, 1, 8, some (.atom .nilFunc), false⟩
theorem z71 : ZJ Tryz.prog 128 zb6 := tiq Tryz.t128 ⟨_, Tryz.underlying128, rfl⟩
def zb5 : TI := ⟨.other, 1, 8, some (.atom .nilFunc), false⟩
theorem z6Z : ZJ Tryz.prog 129 zb5 := tiq Tryz.t129 ⟨_, Tryz.underlying129, rfl⟩
def zb4 : TI := ⟨.other, 1, 16, some (.atom .nilIface), false⟩
theorem z6Y : ZJ Tryz.prog 132 zb4 := tiq Tryz.t132 ⟨_, Tryz.underlying132, rfl⟩
def zb3 : TI := ⟨.other, 1, 8, some (.atom .nilFunc), false⟩
theorem z6X : ZJ Tryz.prog 149 zb3 := tiq Tryz.t149 ⟨_, Tryz.underlying149, rfl⟩
def tiL : List (Nat × TI) := [(1, ti1), (2, ti2), (3, ti3), (4, ti4), (5, ti5), (22, zdT), (23, zdS), (24, zdR), (27, zdQ), (28, zdP), (30, zdO), (32, zdN), (34, zdM), (37, zdL), (39, zdK), (42, zdJ), (43, zdI), (45, zdH), (49, zdG), (54, zdF), (57, zdE), (59, zdD), (60, zdC), (62, zdB), (66, zdA), (68, zdz), (69, zdy), (71, zdx), (72, zdw), (73, zdv), (75, zdu), (85, zdt), (87, zds), (89, zdr), (106, zbe), (109, zbd), (110, zbc), (111, zbb), (112, zba), (118, zb9), (124, zb8), (127, zb7), (128, zb6), (129, zb5), (132, zb4), (149, zb3)]
def qd : TT := fun t => (tiL.find? fun p => p.1 == t).map (·.2)
def z6K (P : Program) : List (Nat × TI) → Prop
 | [] => True
 | p :: l => ZJ P p.1 p.2 ∧ z6K P l
theorem z6K.mem : ∀ {l : List (Nat × TI)}, z6K P l → ∀ p ∈ l, ZJ P p.1 p.2
 | p :: _, h, q, hq => by
  rcases List.mem_cons.1 hq with rfl | hq
  ·exact h.1
  ·exact z6K.mem h.2 q hq
 | [], _, _, hq => by cases hq
theorem zaX : z6K Tryz.prog tiL := ⟨zb2, zb1, zb0, zaZ, zaY, z9E, z9D, z9C, z9B, z9A, z9z, z9y, z9x, z9w, z9v, z9u, z9t, z9s, z9r, z9q, z9p, z9o, z9n, z4R, z9m, z9l, z9k, z9j, z9i, z9h, z9g, z9f, z9e, z9d, z7b, z7a, z79, z78, z75, z74, z73, z72, z71, z6Z, z6Y, z6X, trivial⟩
theorem zC : wG Tryz.prog qd := by
 intro t i h
 unfold qd at h
 rw [Option.map_eq_some_iff] at h
 obtain ⟨p, h1, rfl⟩ := h
 have h2 := List.find?_some h1
 have h3 := zaX.mem p (List.mem_of_find?_eq_some h1)
 rw [beq_iff_eq.1 h2] at h3
 exact h3
end Go.Own

namespace Go.Proofs
open Go.RowKit Go.Extern.Stop Go.Stop Go.Extern
set_option maxRecDepth 100000
theorem Tryz.isTypeOf (v : Value) (w : World) : (Extern.ReflectliteType.typeOf #[.iface 175 v]).run Tryz.prog w = .ok (.iface 162 (.agg #[.pointer (some ⟨1, 175, none⟩)])) w := by kernel_rfl
theorem Tryz.isComparable (w : World) : (callFunc 117 #[.agg #[.pointer (some ⟨1, 175, none⟩)]]).run Tryz.prog w = .ok (.value (.bool true)) w := by
 rw [@run_callFunc_extern Tryz.prog 117 _ (Extern.ReflectliteType.method fun t => do Extern.Rtype.noPackHeld "Comparable" t; pure (.bool (← typeInfo t).comparable)) Tryz.func117 (by kernel_rfl) (by kernel_rfl) (by kernel_rfl) (by kernel_rfl)]
 kernel_rfl
theorem Tryz.isMethodComparable (v : Value) (w : World) : (Go.method 312 162 v "Comparable").run Tryz.prog w = .ok (117, v) w := by kernel_rfl
theorem Tryz.isComp : (Tryz.prog.info? 175).map (·.comparable) = some true := by kernel_rfl
theorem Tryz.isSize : (Tryz.prog.info? 200).map (·.size) = some 1 := by kernel_rfl
theorem Tryz.is_same (a : Addr) (w : World) :
  Calls Tryz.prog 75 #[.iface 175 (.pointer (some a)), .iface 175 (.pointer (some a))] w fun e w' => e = .returned (.bool true) ∧ w' = w := by
 obtain ⟨i, hi, hcmp⟩ := Option.map_eq_some_iff.1 Tryz.isComp
 obtain ⟨j, hj, hjs⟩ := Option.map_eq_some_iff.1 Tryz.isSize
 have h8 := @run_callFunc_extern Tryz.prog 91 _ Extern.ReflectliteType.typeOf Tryz.func91 (by kernel_rfl) (by kernel_rfl) (by kernel_rfl) (by kernel_rfl)
 have tT := Tryz.isTypeOf
 have cT := Tryz.isComparable
 have mR := Tryz.isMethodComparable
 have heq := run_eql_iface_ptr_same (P := Tryz.prog) w a Tryz.underlying132 Tryz.underlying175 hi hcmp hj
 go_enter Tryz.func75, Tryz.ntmps75
 go_wp2
 refine wp_loop_rounds 1 ?_
 rw [rounds_succ]
 go_wp2
 go_ret
 exact ⟨rfl, rfl⟩
theorem Tryz.is_nil (b : Addr) (w : World) :
  Calls Tryz.prog 75 #[.nilIface, .iface 175 (.pointer (some b))] w fun e w' => e = .returned (.bool false) ∧ w' = w := by
 have hn := run_eql_iface_nil_left (P := Tryz.prog) w 175 (.pointer (some b)) Tryz.underlying132
 go_enter Tryz.func75, Tryz.ntmps75
 go_wp2
 go_ret
 exact ⟨rfl, rfl⟩
end Go.Proofs
namespace Go.Own
open Go.Proofs
theorem z7Y {S : zn} {h : Array Obj} {x y : A} {vs : List Value} {F : List Nat} (hx : x.isD = true) (hy : y.isD = true) (q : YO S h [x, y] vs F) : ∃ u v, vs = [u, v] ∧ u6 S x u ∧ u6 S y v ∧ F = [] := by
 match vs, q with
 | [u, v], q =>
  obtain ⟨F1, F2, rfl, q1, F3, F4, rfl, q2, q3⟩ := q
  have e3 : F4 = [] := q3
  subst e3
  have d : ∀ {x : A} {u : Value} {F : List Nat}, x.isD = true → Has S h x u F → u6 S x u ∧ F = [] := by
   intro x u F hx q
   rcases q with ⟨q, rfl⟩ | ⟨cs, q1, q2, q3⟩
   ·exact ⟨q.rep1 hx, rfl⟩
   ·obtain ⟨r, rfl⟩ := q1.isD hx
    exact ⟨⟨cs, r, q3⟩, rfl⟩
  obtain ⟨r1, rfl⟩ := d hx q1
  obtain ⟨r2, rfl⟩ := d hy q2
  exact ⟨u, v, rfl, r1, r2, rfl⟩
theorem zaf (e : Bool) : XJ Tryz.prog 75 [eEr 0 175 e, eEr 0 175 true] (eB e) := by
 refine ⟨⟨_, Tryz.func75, by kernel_rfl, by kernel_rfl⟩, ?_⟩
 intro S w vs F hS hq hF
 obtain ⟨u, v, rfl, r1, r2, rfl⟩ := z7Y rfl rfl hq
 obtain ⟨g1, g2⟩ := z90 r1
 obtain ⟨⟨s1, a, rfl⟩, _⟩ : (S 0 0 = some v ∧ ∃ a, v = .iface 175 (.pointer (some a))) ∧ True := ⟨(z90 r2).1 rfl, trivial⟩
 have fin : ∀ (b : Bool) {e' : Ending} {w' : World}, e' = .returned (.bool b) ∧ w' = w → b = e → ∃ v S' F', e' = .returned v ∧ Xr (fun k => w.heap.size ≤ k ∨ k ∈ ([] : List Nat)) w w' ∧ (∀ b o u, S b o = some u → S' b o = some u) ∧ (∀ b o, b < w.heap.size → b ∉ ([] : List Nat) → S' b o = S b o) ∧ wN S' w' ∧ Has S' w'.heap (eB e) v F' ∧ F'.Nodup ∧ ∀ k ∈ F', w.heap.size ≤ k ∨ k ∈ ([] : List Nat) := by
  rintro b e' w' ⟨rfl, rfl⟩ rfl
  exact ⟨_, S, [], rfl, Xr.refl _ _, fun _ _ _ h => h, fun _ _ _ _ => rfl, hS, .inl ⟨zw.2 ⟨rfl, rfl⟩, rfl⟩, by simp, by simp⟩
 cases e with
 | true =>
  obtain ⟨s2, b, rfl⟩ := g1 rfl
  rw [s1] at s2
  cases s2
  exact (Tryz.is_same _ w).mono fun e' w' h => fin true h rfl
 | false =>
  have := g2 rfl
  subst this
  exact (Tryz.is_nil _ w).mono fun e' w' h => fin false h rfl
structure zI (α : Type) where
 e0 : α
 e1 : α
 e2 : α
 e3 : α
 deriving DecidableEq
instance {α : Type} [BEq α] : BEq (zI α) := ⟨fun x y => (x.e0 == y.e0) && (x.e1 == y.e1) && (x.e2 == y.e2) && (x.e3 == y.e3)⟩
section
variable {α : Type}
def WY (f : α → A) (x : zI α) : A := .agg [f x.e0, f x.e1, f x.e2, f x.e3]
instance (f : α → A) [h : Uo f] : Uo (WY f) := ⟨fun x => by simp [WY, A.isD, A.areD, h.isD]⟩
instance (f g : α → A) [h : kX f g] : kX (WY f) (WY g) := ⟨fun x => by simp [WY, A.loose, A.looses, h.lo]⟩
instance (f g : α → A) [h : Wp f g] : Wp (WY f) (WY g) := ⟨fun x => by simp [WY, A.live, A.lives, h.live], fun x => by simp [WY, A.shut, A.shuts, h.sh]⟩
instance (f : α → A) [h : vD f] : vD (WY f) := ⟨fun x y q => by
 simp only [WY, A.agg.injEq, List.cons.injEq, and_true] at q
 cases x; cases y
 simp only [zI.mk.injEq]
 exact ⟨h.inj _ _ q.1, h.inj _ _ q.2.1, h.inj _ _ q.2.2.1, h.inj _ _ q.2.2.2⟩⟩
end
section
variable {α : Type}
def zI.toL (x : zI α) : List α := [x.e0, x.e1, x.e2, x.e3]
def zI.ofL : List α → zI α → zI α
 | [x0, x1, x2, x3], _ => ⟨x0, x1, x2, x3⟩
 | _, d => d
theorem zI.toL_ofL (l : List α) (d : zI α) (h : l.length = 4) : (zI.ofL l d).toL = l := by
 match l, h with
 | [x0, x1, x2, x3], _ => rfl
def zI.setI (x : zI α) (i : Int) (v : α) : zI α := zI.ofL (x.toL.set i.toNat v) x
theorem zI.setL (f : α → A) (x : zI α) (i : Int) (v : α) : (x.toL.map f).set i.toNat (f v) = ((zI.setI x i v).toL).map f := by
 unfold zI.setI
 rw [zI.toL_ofL _ _ (by simp [zI.toL]), List.map_set]
end
structure zb where
 From : Int
 Kind : Int
 Channel : Int
 Message : Int
 To : Int
def xJ (f0 : Int → A) (f1 : Int → A) (f2 : Int → A) (f3 : Int → A) (f4 : Int → A) (x : zb) : A := .agg [f0 x.From, f1 x.Kind, f2 x.Channel, f3 x.Message, f4 x.To]
instance (f0 : Int → A) (f1 : Int → A) (f2 : Int → A) (f3 : Int → A) (f4 : Int → A) [h0 : Uo f0] [h1 : Uo f1] [h2 : Uo f2] [h3 : Uo f3] [h4 : Uo f4] : Uo (xJ f0 f1 f2 f3 f4) := ⟨fun x => by simp [xJ, A.isD, A.areD, h0.isD, h1.isD, h2.isD, h3.isD, h4.isD]⟩
instance (f0 : Int → A) (f1 : Int → A) (f2 : Int → A) (f3 : Int → A) (f4 : Int → A) (g0 : Int → A) (g1 : Int → A) (g2 : Int → A) (g3 : Int → A) (g4 : Int → A) [h0 : kX f0 g0] [h1 : kX f1 g1] [h2 : kX f2 g2] [h3 : kX f3 g3] [h4 : kX f4 g4] : kX (xJ f0 f1 f2 f3 f4) (xJ g0 g1 g2 g3 g4) := ⟨fun x => by simp [xJ, A.loose, A.looses, h0.lo, h1.lo, h2.lo, h3.lo, h4.lo]⟩
instance (f0 : Int → A) (f1 : Int → A) (f2 : Int → A) (f3 : Int → A) (f4 : Int → A) (g0 : Int → A) (g1 : Int → A) (g2 : Int → A) (g3 : Int → A) (g4 : Int → A) [h0 : Wp f0 g0] [h1 : Wp f1 g1] [h2 : Wp f2 g2] [h3 : Wp f3 g3] [h4 : Wp f4 g4] : Wp (xJ f0 f1 f2 f3 f4) (xJ g0 g1 g2 g3 g4) := ⟨fun x => by simp [xJ, A.live, A.lives, h0.live, h1.live, h2.live, h3.live, h4.live], fun x => by simp [xJ, A.shut, A.shuts, h0.sh, h1.sh, h2.sh, h3.sh, h4.sh]⟩
instance (f0 : Int → A) (f1 : Int → A) (f2 : Int → A) (f3 : Int → A) (f4 : Int → A) [h0 : vD f0] [h1 : vD f1] [h2 : vD f2] [h3 : vD f3] [h4 : vD f4] : vD (xJ f0 f1 f2 f3 f4) := ⟨fun x y h => by
 simp only [xJ, A.agg.injEq, List.cons.injEq, and_true] at h
 cases x; cases y
 simp only [zb.mk.injEq]
 exact ⟨h0.inj _ _ h.1, h1.inj _ _ h.2.1, h2.inj _ _ h.2.2.1, h3.inj _ _ h.2.2.2.1, h4.inj _ _ h.2.2.2.2⟩⟩
structure zh where
 States : Int
 Arcs : List zb
 Final : List Int
def zQ (f0 : Int → A) (f1 : List zb → A) (f2 : List Int → A) (x : zh) : A := .agg [f0 x.States, f1 x.Arcs, f2 x.Final]
instance (f0 : Int → A) (f1 : List zb → A) (f2 : List Int → A) [h : zaE f2] : zaE (zQ f0 f1 f2) := ⟨fun x => by simp [zQ, A.isD, A.areD, h.no]⟩
instance (f0 : Int → A) (f1 : List zb → A) (f2 : List Int → A) (g0 : Int → A) (g1 : List zb → A) (g2 : List Int → A) [h0 : kX f0 g0] [h1 : kX f1 g1] [h2 : kX f2 g2] : kX (zQ f0 f1 f2) (zQ g0 g1 g2) := ⟨fun x => by simp [zQ, A.loose, A.looses, h0.lo, h1.lo, h2.lo]⟩
instance (f0 : Int → A) (f1 : List zb → A) (f2 : List Int → A) (g0 : Int → A) (g1 : List zb → A) (g2 : List Int → A) [h0 : Wp f0 g0] [h1 : Wp f1 g1] [h2 : Wp f2 g2] : Wp (zQ f0 f1 f2) (zQ g0 g1 g2) := ⟨fun x => by simp [zQ, A.live, A.lives, h0.live, h1.live, h2.live], fun x => by simp [zQ, A.shut, A.shuts, h0.sh, h1.sh, h2.sh]⟩
instance (f0 : Int → A) (f1 : List zb → A) (f2 : List Int → A) [h0 : vD f0] [h1 : vD f1] [h2 : vD f2] : vD (zQ f0 f1 f2) := ⟨fun x y h => by
 simp only [zQ, A.agg.injEq, List.cons.injEq, and_true] at h
 cases x; cases y
 simp only [zh.mk.injEq]
 exact ⟨h0.inj _ _ h.1, h1.inj _ _ h.2.1, h2.inj _ _ h.2.2⟩⟩
instance (f0 : Int → A) (f1 : List zb → A) (f2 : List Int → A) (g0 : Int → A) (g1 : List zb → A) (g2 : List Int → A) (x : zh) [∀ y, LeA (f0 y) (g0 y)] [∀ y, LeA (f1 y) (g1 y)] [∀ y, LeA (f2 y) (g2 y)] [∀ y, SzA (f0 y) (g0 y)] [∀ y, SzA (f1 y) (g1 y)] [∀ y, SzA (f2 y) (g2 y)] : LeA (zQ f0 f1 f2 x) (zQ g0 g1 g2 x) := by unfold zQ; infer_instance
instance (f0 : Int → A) (f1 : List zb → A) (f2 : List Int → A) (g0 : Int → A) (g1 : List zb → A) (g2 : List Int → A) (x y : zh) [∀ y z, SzA (f0 y) (g0 z)] [∀ y z, SzA (f1 y) (g1 z)] [∀ y z, SzA (f2 y) (g2 z)] : SzA (zQ f0 f1 f2 x) (zQ g0 g1 g2 y) := by unfold zQ; infer_instance
structure z6 where
 Messages : Int
 Labels : Int
 Channels : List Int
 Parts : List zh
def yz (f0 : Int → A) (f1 : Int → A) (f2 : List Int → A) (f3 : List zh → A) (x : z6) : A := .agg [f0 x.Messages, f1 x.Labels, f2 x.Channels, f3 x.Parts]
instance (f0 : Int → A) (f1 : Int → A) (f2 : List Int → A) (f3 : List zh → A) (g0 : Int → A) (g1 : Int → A) (g2 : List Int → A) (g3 : List zh → A) [h0 : kX f0 g0] [h1 : kX f1 g1] [h2 : kX f2 g2] [h3 : kX f3 g3] : kX (yz f0 f1 f2 f3) (yz g0 g1 g2 g3) := ⟨fun x => by simp [yz, A.loose, A.looses, h0.lo, h1.lo, h2.lo, h3.lo]⟩
instance (f0 : Int → A) (f1 : Int → A) (f2 : List Int → A) (f3 : List zh → A) [h0 : vD f0] [h1 : vD f1] [h2 : vD f2] [h3 : vD f3] : vD (yz f0 f1 f2 f3) := ⟨fun x y h => by
 simp only [yz, A.agg.injEq, List.cons.injEq, and_true] at h
 cases x; cases y
 simp only [z6.mk.injEq]
 exact ⟨h0.inj _ _ h.1, h1.inj _ _ h.2.1, h2.inj _ _ h.2.2.1, h3.inj _ _ h.2.2.2⟩⟩
instance (f0 : Int → A) (f1 : Int → A) (f2 : List Int → A) (f3 : List zh → A) (g0 : Int → A) (g1 : Int → A) (g2 : List Int → A) (g3 : List zh → A) (x : z6) [∀ y, LeA (f0 y) (g0 y)] [∀ y, LeA (f1 y) (g1 y)] [∀ y, LeA (f2 y) (g2 y)] [∀ y, LeA (f3 y) (g3 y)] [∀ y, SzA (f0 y) (g0 y)] [∀ y, SzA (f1 y) (g1 y)] [∀ y, SzA (f2 y) (g2 y)] [∀ y, SzA (f3 y) (g3 y)] : LeA (yz f0 f1 f2 f3 x) (yz g0 g1 g2 g3 x) := by unfold yz; infer_instance
structure zg where
 many_ : Int
 l_ : zI Int
instance : BEq zg := ⟨fun x y => (x.many_ == y.many_) && (x.l_ == y.l_)⟩
def yn (f0 : Int → A) (f1 : zI Int → A) (x : zg) : A := .agg [f0 x.many_, f1 x.l_]
instance (f0 : Int → A) (f1 : zI Int → A) [h0 : Uo f0] [h1 : Uo f1] : Uo (yn f0 f1) := ⟨fun x => by simp [yn, A.isD, A.areD, h0.isD, h1.isD]⟩
instance (f0 : Int → A) (f1 : zI Int → A) (g0 : Int → A) (g1 : zI Int → A) [h0 : kX f0 g0] [h1 : kX f1 g1] : kX (yn f0 f1) (yn g0 g1) := ⟨fun x => by simp [yn, A.loose, A.looses, h0.lo, h1.lo]⟩
instance (f0 : Int → A) (f1 : zI Int → A) (g0 : Int → A) (g1 : zI Int → A) [h0 : Wp f0 g0] [h1 : Wp f1 g1] : Wp (yn f0 f1) (yn g0 g1) := ⟨fun x => by simp [yn, A.live, A.lives, h0.live, h1.live], fun x => by simp [yn, A.shut, A.shuts, h0.sh, h1.sh]⟩
instance (f0 : Int → A) (f1 : zI Int → A) [h0 : vD f0] [h1 : vD f1] : vD (yn f0 f1) := ⟨fun x y h => by
 simp only [yn, A.agg.injEq, List.cons.injEq, and_true] at h
 cases x; cases y
 simp only [zg.mk.injEq]
 exact ⟨h0.inj _ _ h.1, h1.inj _ _ h.2⟩⟩
structure za where
 states_ : zI Int
 queues_ : zI zg
instance : BEq za := ⟨fun x y => (x.states_ == y.states_) && (x.queues_ == y.queues_)⟩
def yS (f0 : zI Int → A) (f1 : zI zg → A) (x : za) : A := .agg [f0 x.states_, f1 x.queues_]
instance (f0 : zI Int → A) (f1 : zI zg → A) [h0 : Uo f0] [h1 : Uo f1] : Uo (yS f0 f1) := ⟨fun x => by simp [yS, A.isD, A.areD, h0.isD, h1.isD]⟩
instance (f0 : zI Int → A) (f1 : zI zg → A) (g0 : zI Int → A) (g1 : zI zg → A) [h0 : kX f0 g0] [h1 : kX f1 g1] : kX (yS f0 f1) (yS g0 g1) := ⟨fun x => by simp [yS, A.loose, A.looses, h0.lo, h1.lo]⟩
instance (f0 : zI Int → A) (f1 : zI zg → A) (g0 : zI Int → A) (g1 : zI zg → A) [h0 : Wp f0 g0] [h1 : Wp f1 g1] : Wp (yS f0 f1) (yS g0 g1) := ⟨fun x => by simp [yS, A.live, A.lives, h0.live, h1.live], fun x => by simp [yS, A.shut, A.shuts, h0.sh, h1.sh]⟩
instance (f0 : zI Int → A) (f1 : zI zg → A) [h0 : vD f0] [h1 : vD f1] : vD (yS f0 f1) := ⟨fun x y h => by
 simp only [yS, A.agg.injEq, List.cons.injEq, and_true] at h
 cases x; cases y
 simp only [za.mk.injEq]
 exact ⟨h0.inj _ _ h.1, h1.inj _ _ h.2⟩⟩
structure ze where
 Part : Int
 Arc : Int
 Other : Int
 With : Int
def yT (f0 : Int → A) (f1 : Int → A) (f2 : Int → A) (f3 : Int → A) (x : ze) : A := .agg [f0 x.Part, f1 x.Arc, f2 x.Other, f3 x.With]
instance (f0 : Int → A) (f1 : Int → A) (f2 : Int → A) (f3 : Int → A) [h0 : Uo f0] [h1 : Uo f1] [h2 : Uo f2] [h3 : Uo f3] : Uo (yT f0 f1 f2 f3) := ⟨fun x => by simp [yT, A.isD, A.areD, h0.isD, h1.isD, h2.isD, h3.isD]⟩
instance (f0 : Int → A) (f1 : Int → A) (f2 : Int → A) (f3 : Int → A) (g0 : Int → A) (g1 : Int → A) (g2 : Int → A) (g3 : Int → A) [h0 : kX f0 g0] [h1 : kX f1 g1] [h2 : kX f2 g2] [h3 : kX f3 g3] : kX (yT f0 f1 f2 f3) (yT g0 g1 g2 g3) := ⟨fun x => by simp [yT, A.loose, A.looses, h0.lo, h1.lo, h2.lo, h3.lo]⟩
instance (f0 : Int → A) (f1 : Int → A) (f2 : Int → A) (f3 : Int → A) (g0 : Int → A) (g1 : Int → A) (g2 : Int → A) (g3 : Int → A) [h0 : Wp f0 g0] [h1 : Wp f1 g1] [h2 : Wp f2 g2] [h3 : Wp f3 g3] : Wp (yT f0 f1 f2 f3) (yT g0 g1 g2 g3) := ⟨fun x => by simp [yT, A.live, A.lives, h0.live, h1.live, h2.live, h3.live], fun x => by simp [yT, A.shut, A.shuts, h0.sh, h1.sh, h2.sh, h3.sh]⟩
instance (f0 : Int → A) (f1 : Int → A) (f2 : Int → A) (f3 : Int → A) [h0 : vD f0] [h1 : vD f1] [h2 : vD f2] [h3 : vD f3] : vD (yT f0 f1 f2 f3) := ⟨fun x y h => by
 simp only [yT, A.agg.injEq, List.cons.injEq, and_true] at h
 cases x; cases y
 simp only [ze.mk.injEq]
 exact ⟨h0.inj _ _ h.1, h1.inj _ _ h.2.1, h2.inj _ _ h.2.2.1, h3.inj _ _ h.2.2.2⟩⟩
instance (f0 : Int → A) (f1 : Int → A) (f2 : Int → A) (f3 : Int → A) [h0 : z4O f0] [h1 : z4O f1] [h2 : z4O f2] [h3 : z4O f3] : z4O (yT f0 f1 f2 f3) := ⟨fun x => by simp [yT, A.indep, A.indeps, h0.ind, h1.ind, h2.ind, h3.ind]⟩
structure z7 where
 Move : ze
 To : Int
def xp (f0 : ze → A) (f1 : Int → A) (x : z7) : A := .agg [f0 x.Move, f1 x.To]
instance (f0 : ze → A) (f1 : Int → A) [h0 : Uo f0] [h1 : Uo f1] : Uo (xp f0 f1) := ⟨fun x => by simp [xp, A.isD, A.areD, h0.isD, h1.isD]⟩
instance (f0 : ze → A) (f1 : Int → A) (g0 : ze → A) (g1 : Int → A) [h0 : kX f0 g0] [h1 : kX f1 g1] : kX (xp f0 f1) (xp g0 g1) := ⟨fun x => by simp [xp, A.loose, A.looses, h0.lo, h1.lo]⟩
instance (f0 : ze → A) (f1 : Int → A) (g0 : ze → A) (g1 : Int → A) [h0 : Wp f0 g0] [h1 : Wp f1 g1] : Wp (xp f0 f1) (xp g0 g1) := ⟨fun x => by simp [xp, A.live, A.lives, h0.live, h1.live], fun x => by simp [xp, A.shut, A.shuts, h0.sh, h1.sh]⟩
instance (f0 : ze → A) (f1 : Int → A) [h0 : vD f0] [h1 : vD f1] : vD (xp f0 f1) := ⟨fun x y h => by
 simp only [xp, A.agg.injEq, List.cons.injEq, and_true] at h
 cases x; cases y
 simp only [z7.mk.injEq]
 exact ⟨h0.inj _ _ h.1, h1.inj _ _ h.2⟩⟩
structure z8 where
 States : List Int
 Queues : List (List Int)
def zA (f0 : List Int → A) (f1 : List (List Int) → A) (x : z8) : A := .agg [f0 x.States, f1 x.Queues]
instance (f0 : List Int → A) (f1 : List (List Int) → A) [h : zaE f1] : zaE (zA f0 f1) := ⟨fun x => by simp [zA, A.isD, A.areD, h.no]⟩
instance (f0 : List Int → A) (f1 : List (List Int) → A) (g0 : List Int → A) (g1 : List (List Int) → A) [h0 : kX f0 g0] [h1 : kX f1 g1] : kX (zA f0 f1) (zA g0 g1) := ⟨fun x => by simp [zA, A.loose, A.looses, h0.lo, h1.lo]⟩
instance (f0 : List Int → A) (f1 : List (List Int) → A) (g0 : List Int → A) (g1 : List (List Int) → A) [h0 : Wp f0 g0] [h1 : Wp f1 g1] : Wp (zA f0 f1) (zA g0 g1) := ⟨fun x => by simp [zA, A.live, A.lives, h0.live, h1.live], fun x => by simp [zA, A.shut, A.shuts, h0.sh, h1.sh]⟩
instance (f0 : List Int → A) (f1 : List (List Int) → A) [h0 : vD f0] [h1 : vD f1] : vD (zA f0 f1) := ⟨fun x y h => by
 simp only [zA, A.agg.injEq, List.cons.injEq, and_true] at h
 cases x; cases y
 simp only [z8.mk.injEq]
 exact ⟨h0.inj _ _ h.1, h1.inj _ _ h.2⟩⟩
instance (f0 : List Int → A) (f1 : List (List Int) → A) (g0 : List Int → A) (g1 : List (List Int) → A) (x : z8) [∀ y, LeA (f0 y) (g0 y)] [∀ y, LeA (f1 y) (g1 y)] [∀ y, SzA (f0 y) (g0 y)] [∀ y, SzA (f1 y) (g1 y)] : LeA (zA f0 f1 x) (zA g0 g1 x) := by unfold zA; infer_instance
instance (f0 : List Int → A) (f1 : List (List Int) → A) (g0 : List Int → A) (g1 : List (List Int) → A) (x y : z8) [∀ y z, SzA (f0 y) (g0 z)] [∀ y z, SzA (f1 y) (g1 z)] : SzA (zA f0 f1 x) (zA g0 g1 y) := by unfold zA; infer_instance
instance (f0 : List Int → A) (f1 : List (List Int) → A) [h0 : z4O f0] [h1 : z4O f1] : z4O (zA f0 f1) := ⟨fun x => by simp [zA, A.indep, A.indeps, h0.ind, h1.ind]⟩
structure zf where
 Kind : Int
 Label : Int
 To : Int
 deriving DecidableEq
def wE (f0 : Int → A) (f1 : Int → A) (f2 : Int → A) (x : zf) : A := .agg [f0 x.Kind, f1 x.Label, f2 x.To]
instance (f0 : Int → A) (f1 : Int → A) (f2 : Int → A) [h0 : Uo f0] [h1 : Uo f1] [h2 : Uo f2] : Uo (wE f0 f1 f2) := ⟨fun x => by simp [wE, A.isD, A.areD, h0.isD, h1.isD, h2.isD]⟩
instance (f0 : Int → A) (f1 : Int → A) (f2 : Int → A) (g0 : Int → A) (g1 : Int → A) (g2 : Int → A) [h0 : kX f0 g0] [h1 : kX f1 g1] [h2 : kX f2 g2] : kX (wE f0 f1 f2) (wE g0 g1 g2) := ⟨fun x => by simp [wE, A.loose, A.looses, h0.lo, h1.lo, h2.lo]⟩
instance (f0 : Int → A) (f1 : Int → A) (f2 : Int → A) (g0 : Int → A) (g1 : Int → A) (g2 : Int → A) [h0 : Wp f0 g0] [h1 : Wp f1 g1] [h2 : Wp f2 g2] : Wp (wE f0 f1 f2) (wE g0 g1 g2) := ⟨fun x => by simp [wE, A.live, A.lives, h0.live, h1.live, h2.live], fun x => by simp [wE, A.shut, A.shuts, h0.sh, h1.sh, h2.sh]⟩
instance (f0 : Int → A) (f1 : Int → A) (f2 : Int → A) [h0 : vD f0] [h1 : vD f1] [h2 : vD f2] : vD (wE f0 f1 f2) := ⟨fun x y h => by
 simp only [wE, A.agg.injEq, List.cons.injEq, and_true] at h
 cases x; cases y
 simp only [zf.mk.injEq]
 exact ⟨h0.inj _ _ h.1, h1.inj _ _ h.2.1, h2.inj _ _ h.2.2⟩⟩
structure zB where
 Inputs : Int
 Outputs : Int
 Rows : List (List zf)
def ut (f0 : Int → A) (f1 : Int → A) (f2 : List (List zf) → A) (x : zB) : A := .agg [f0 x.Inputs, f1 x.Outputs, f2 x.Rows]
instance (f0 : Int → A) (f1 : Int → A) (f2 : List (List zf) → A) (g0 : Int → A) (g1 : Int → A) (g2 : List (List zf) → A) [h0 : kX f0 g0] [h1 : kX f1 g1] [h2 : kX f2 g2] : kX (ut f0 f1 f2) (ut g0 g1 g2) := ⟨fun x => by simp [ut, A.loose, A.looses, h0.lo, h1.lo, h2.lo]⟩
instance (f0 : Int → A) (f1 : Int → A) (f2 : List (List zf) → A) [h0 : vD f0] [h1 : vD f1] [h2 : vD f2] : vD (ut f0 f1 f2) := ⟨fun x y h => by
 simp only [ut, A.agg.injEq, List.cons.injEq, and_true] at h
 cases x; cases y
 simp only [zB.mk.injEq]
 exact ⟨h0.inj _ _ h.1, h1.inj _ _ h.2.1, h2.inj _ _ h.2.2⟩⟩
structure zu where
 from_ : Int
 move_ : ze
def Ji (f0 : Int → A) (f1 : ze → A) (x : zu) : A := .agg [f0 x.from_, f1 x.move_]
instance : zer (K := za) (yS (WY (eI .i64)) (WY (yn (eI .i64) (WY (eI .i64))))) := ⟨fun x y => by
 obtain ⟨⟨_, _, _, _⟩, ⟨⟨_, ⟨_, _, _, _⟩⟩, ⟨_, ⟨_, _, _, _⟩⟩, ⟨_, ⟨_, _, _, _⟩⟩, ⟨_, ⟨_, _, _, _⟩⟩⟩⟩ := x
 obtain ⟨⟨_, _, _, _⟩, ⟨⟨_, ⟨_, _, _, _⟩⟩, ⟨_, ⟨_, _, _, _⟩⟩, ⟨_, ⟨_, _, _, _⟩⟩, ⟨_, ⟨_, _, _, _⟩⟩⟩⟩ := y
 simp only [WY, yn, yS, eI, Jh, z0q, z0q.keyLs, yc, BEq.beq, Option.map_some, Option.some.injEq, Value.agg.injEq, List.cons_append, List.nil_append, List.append_nil, Array.mk.injEq, List.cons.injEq, Value.int.injEq, true_and, and_true, Bool.and_eq_true, decide_eq_true_eq, and_assoc]⟩
def W7 (gt : List zh) : Option z6 :=
 some (z6.mk 0 1 [] gt)
abbrev R0_ : Type := Option (LR (List zh × Int) (List zh))
def W6 (i_ : Int) (gk : List zh) : R0_ :=
 some (.next (gk, w64 (i_ + 1)))
def W5 (bn : List zh) (i_ : Int) (ck : Int) (fu : List zb) : R0_ :=
 gd (bn.length + [(zh.mk ck fu [])].length ≤ 4294967296) <|
 W6 i_ (bn ++ [(zh.mk ck fu [])])
def W3 (states : List Int) (i_ : Int) (eg : List zb) (s_ : Int) : Option (LR (List zb × Int) (List zb)) :=
 (idx states i_).bind fun jz =>
 bif decide (s_ < jz) then (
  (idx states i_).bind fun d9 =>
  gd ((d9 : Int) ≠ 0) <|
  gd (eg.length + ([(zb.mk s_ 0 0 0 (Int.tmod (w64 (s_ + 1)) d9))] : List zb).length ≤ 4294967296) <|
  some (.next ((eg ++ ([(zb.mk s_ 0 0 0 (Int.tmod (w64 (s_ + 1)) d9))] : List zb)), w64 (s_ + 1))))
 else (
  some (.done eg))
def W4 (states : List Int) (bn : List zh) (i_ : Int) : R0_ :=
 bif decide (i_ < ((states.length : Nat) : Int)) then (
  (idx states i_).bind fun ck =>
  (loop (fun s => W3 states i_ s.1 s.2) (([] : List zb), 0)).bind fun t5 =>
  W5 bn i_ ck t5)
 else (
  some (.done bn))
def uI (states : List Int) : Option z6 :=
 (loop (fun s => W4 states s.1 s.2) (([] : List zh), 0)).bind fun t2 =>
 W7 t2
def kF (n_ : Int) : Option Bool :=
 some (decide (n_ > 4))
def wk : Option Int :=
 some (-1)
abbrev R1_ : Type := Option (LR Int (Unit ⊕ Int))
def yI (s_ : List Int) (x8 : Int) : R1_ :=
 bif decide (x8 < ((s_.length : Nat) : Int)) then (
  (idx s_ x8).bind fun bo =>
  (kF bo).bind fun r_ =>
  bif r_ then (
   some (.done (.inr x8)))
  else (
   some (.next (w64 (x8 + 1)))))
 else (
  some (.done (.inl ())))
def xT (s_ : List Int) (f_ : Unit) : Option Int :=
 (loop (fun s => yI s_ s) 0).bind fun t2 =>
 match t2 with
 | .inl p => wk
 | .inr p => some p
def yM (s_ : List Int) (f_ : Unit) : Option Bool :=
 (xT s_ ()).bind fun r_ =>
 some (decide (r_ ≥ 0))
def kE (p_ : zh) : Option Bool :=
 bif decide (p_.States > 64) then (
  some true)
 else (
  some (decide (((p_.Arcs.length : Nat) : Int) > 256)))
def yG : Option Int :=
 some (-1)
def zM (s_ : List zh) (x8 : Int) : R1_ :=
 bif decide (x8 < ((s_.length : Nat) : Int)) then (
  (idx s_ x8).bind fun bo =>
  (kE bo).bind fun r_ =>
  bif r_ then (
   some (.done (.inr x8)))
  else (
   some (.next (w64 (x8 + 1)))))
 else (
  some (.done (.inl ())))
def ye (s_ : List zh) (f_ : Unit) : Option Int :=
 (loop (fun s => zM s_ s) 0).bind fun t2 =>
 match t2 with
 | .inl p => yG
 | .inr p => some p
def zN (s_ : List zh) (f_ : Unit) : Option Bool :=
 (ye s_ ()).bind fun r_ =>
 some (decide (r_ ≥ 0))
def kG (x_ : z6) : Option Bool :=
 bif decide (x_.Messages > 16) then (
  some true)
 else (
  bif decide (x_.Labels > 16) then (
   some true)
  else (
   bif decide (((x_.Channels.length : Nat) : Int) > 4) then (
    some true)
   else (
    bif decide (((x_.Parts.length : Nat) : Int) > 4) then (
     some true)
    else (
     (yM x_.Channels ()).bind fun r_ =>
     bif r_ then (
      some true)
     else (
      (zN x_.Parts ()).bind fun al =>
      some al)))))
def kI (n_ : Int) : Option Bool :=
 some (decide (n_ < 0))
def wj : Option Int :=
 some (-1)
def yH (s_ : List Int) (x8 : Int) : R1_ :=
 bif decide (x8 < ((s_.length : Nat) : Int)) then (
  (idx s_ x8).bind fun bo =>
  (kI bo).bind fun r_ =>
  bif r_ then (
   some (.done (.inr x8)))
  else (
   some (.next (w64 (x8 + 1)))))
 else (
  some (.done (.inl ())))
def xS (s_ : List Int) (f_ : Unit) : Option Int :=
 (loop (fun s => yH s_ s) 0).bind fun t2 =>
 match t2 with
 | .inl p => wj
 | .inr p => some p
def yK (s_ : List Int) (f_ : Unit) : Option Bool :=
 (xS s_ ()).bind fun r_ =>
 some (decide (r_ ≥ 0))
def v8 (n_ : Int) (many : Int) : Option Bool :=
 bif decide (n_ ≥ 0) then (
  some (decide (n_ < many)))
 else (
  some false)
def kZ : Option Bool :=
 some true
abbrev R2_ : Type := Option (LR Int (Unit ⊕ Bool))
def vP (x9 : Int) (ic : Bool) : R2_ :=
 some (.next (w64 (x9 + 1)))
def wf (l_ : List Int) (many : Int) (x9 : Int) : R2_ :=
 bif decide (x9 < ((l_.length : Nat) : Int)) then (
  (idx l_ x9).bind fun gc =>
  (v8 gc many).bind fun r_ =>
  bif !r_ then (
   some (.done (.inr false)))
  else (
   bif decide (x9 > 0) then (
    (idx l_ (w64 (x9 - 1))).bind fun gj =>
    bif decide (gc ≤ gj) then (
     some (.done (.inr false)))
    else (
     vP x9 (decide (gc ≤ gj))))
   else (
    vP x9 false)))
 else (
  some (.done (.inl ())))
def wO (l_ : List Int) (many : Int) : Option Bool :=
 (loop (fun s => wf l_ many s) 0).bind fun t2 =>
 match t2 with
 | .inl p => kZ
 | .inr p => some p
def wH (x_ : z6) (p_ : zh) (a_ : zb) : Option Bool :=
 (v8 a_.From p_.States).bind fun r_ =>
 bif !r_ then (
  some false)
 else (
  (v8 a_.To p_.States).bind fun al =>
  bif !al then (
   some false)
  else (
   bif decide (a_.Kind > 2) then (
    some false)
   else (
    bif a_.Kind == 0 then (
     bif a_.Channel == 0 then (
      (v8 a_.Message x_.Labels).bind fun ai =>
      some ai)
     else (
      some false))
    else (
     (v8 a_.Channel ((x_.Channels.length : Nat) : Int)).bind fun aj =>
     bif aj then (
      (v8 a_.Message x_.Messages).bind fun cg =>
      some cg)
     else (
      some false)))))
def kH (a_ : zb) (x1 : z6) (x2 : zh) : Option Bool :=
 (wH x1 x2 a_).bind fun r_ =>
 some (!r_)
def x7 : Option Int :=
 some (-1)
def zR (s_ : List zb) (f_ : z6 × zh) (x8 : Int) : R1_ :=
 bif decide (x8 < ((s_.length : Nat) : Int)) then (
  (idx s_ x8).bind fun bo =>
  (kH bo f_.1 f_.2).bind fun r_ =>
  bif r_ then (
   some (.done (.inr x8)))
  else (
   some (.next (w64 (x8 + 1)))))
 else (
  some (.done (.inl ())))
def yi (s_ : List zb) (f_ : z6 × zh) : Option Int :=
 (loop (fun s => zR s_ f_ s) 0).bind fun t2 =>
 match t2 with
 | .inl p => x7
 | .inr p => some p
def zS (s_ : List zb) (f_ : z6 × zh) : Option Bool :=
 (yi s_ (f_.1, f_.2)).bind fun r_ =>
 some (decide (r_ ≥ 0))
def Zx : Option Int :=
 some 0
def uA (x_ : z6) (ic : Int) : R1_ :=
 bif decide (ic < ((x_.Parts.length : Nat) : Int)) then (
  (idx x_.Parts ic).bind fun am =>
  bif decide (am.States < 1) then (
   some (.done (.inr 1)))
  else (
   (wO am.Final am.States).bind fun ai =>
   bif !ai then (
    some (.done (.inr 1)))
   else (
    (zS am.Arcs (x_, am)).bind fun aj =>
    bif aj then (
     some (.done (.inr 1)))
    else (
     some (.next (w64 (ic + 1)))))))
 else (
  some (.done (.inl ())))
def wL (x_ : z6) : Option Int :=
 (kG x_).bind fun r_ =>
 bif r_ then (
  some 3)
 else (
  bif decide (x_.Messages < 0) then (
   some 1)
  else (
   bif decide (x_.Labels < 0) then (
    some 1)
   else (
    bif decide (((x_.Parts.length : Nat) : Int) < 1) then (
     some 1)
    else (
     (yK x_.Channels ()).bind fun al =>
     bif al then (
      some 1)
     else (
      (loop (fun s => uA x_ s) 0).bind fun t2 =>
      match t2 with
      | .inl p => Zx
      | .inr p => some p)))))
def w5 (x_ : z6) (s_ : za) : Option (z6 × za) :=
 some (x_, s_)
def wg (x_ : z6) (s_ : za) (part : Int) : Option (z6 × Int × za) :=
 some (x_, part, s_)
variable {σ : Type}
def wx (eu : Int) (ie : σ) : Option (LR (σ × Int) σ) :=
 some (.next (ie, w64 (eu + 1)))
def xM (x1 : Int) (x2 : za) (yy : σ → (Int × zb) → Option (σ × Bool)) (am : zh) (ew : σ) (eu : Int) : Option (LR (σ × Int) σ) :=
 bif decide (eu < ((am.Arcs.length : Nat) : Int)) then (
  (idx am.Arcs eu).bind fun az =>
  (idx (zI.toL x2.states_) x1).bind fun cell =>
  bif az.From == cell then (
   (yy ew (eu, az)).bind fun yr =>
   bif !yr.2 then (
    some (.done yr.1))
   else (
    wx eu yr.1))
  else (
   wx eu ew))
 else (
  some (.done ew))
def yl (x0 : z6) (x1 : Int) (x2 : za) {σ : Type} (yy : σ → (Int × zb) → Option (σ × Bool)) (sg : σ) : Option σ :=
 (idx x0.Parts x1).bind fun am =>
 (loop (fun s => xM x1 x2 yy am s.1 s.2) (sg, 0)).bind fun t1 =>
 some t1
def vQ (q_ : zg) (m_ : Int) : Option zg :=
 (idx (zI.toL q_.l_) q_.many_).bind fun cell =>
 (some (zI.setI q_.l_ q_.many_ m_)).bind fun arr =>
 some (zg.mk (w64 (q_.many_ + 1)) arr)
def uT (q_ : zg) : Option zg :=
 (some (zI.ofL (cpA (zI.toL q_.l_) 0 ((zI.toL q_.l_).drop 1)) q_.l_)).bind fun arr =>
 some (zg.mk (w64 (q_.many_ - 1)) (zI.mk arr.e0 arr.e1 arr.e2 0))
abbrev R3_ : Type := Option (za × Bool)
def wV (arr : zI Int) (dw : zI zg) : R3_ :=
 some ((za.mk arr dw), false)
def zP (s_ : za) (a_ : zb) (arr : zI Int) (bl : zg) (jr : Bool) : R3_ :=
 bif jr then (
  some ((za.mk arr s_.queues_), true))
 else (
  bif a_.Kind == 1 then (
   (vQ bl a_.Message).bind fun r_ =>
   (idx (zI.toL s_.queues_) a_.Channel).bind fun l7 =>
   (some (zI.setI s_.queues_ a_.Channel r_)).bind fun arr1 =>
   wV arr arr1)
  else (
   (uT bl).bind fun al =>
   (idx (zI.toL s_.queues_) a_.Channel).bind fun l8 =>
   (some (zI.setI s_.queues_ a_.Channel al)).bind fun arr2 =>
   wV arr arr2))
def xK (x_ : z6) (s_ : za) (part : Int) (a_ : zb) : R3_ :=
 (idx (zI.toL s_.states_) part).bind fun cell =>
 (some (zI.setI s_.states_ part a_.To)).bind fun arr =>
 (idx (zI.toL s_.queues_) (mn a_.Channel 3)).bind fun bl =>
 bif a_.Kind == 0 then (
  some ((za.mk arr s_.queues_), false))
 else (
  (idx x_.Channels a_.Channel).bind fun ap =>
  bif ap == 0 then (
   zP s_ a_ arr bl (ap == 0))
  else (
   bif a_.Kind == 1 then (
    (idx x_.Channels a_.Channel).bind fun dx =>
    bif bl.many_ == dx then (
     zP s_ a_ arr bl (bl.many_ == dx))
    else (
     bif a_.Kind == 2 then (
      bif bl.many_ == 0 then (
       zP s_ a_ arr bl true)
      else (
       zP s_ a_ arr bl (bl.l_.e0 != a_.Message)))
     else (
      zP s_ a_ arr bl false)))
   else (
    bif a_.Kind == 2 then (
     bif bl.many_ == 0 then (
      zP s_ a_ arr bl true)
     else (
      zP s_ a_ arr bl (bl.l_.e0 != a_.Message)))
    else (
     zP s_ a_ arr bl false))))
def KC (e t : Bool) : Option Bool := bif t then some e else none
def vB (av : Int) (ie : σ) : Option (LR (σ × Int) σ) :=
 some (.next (ie, w64 (av + 1)))
def wr (br : Int) (kr : σ) : Option (LR (σ × Int) (σ ⊕ σ)) :=
 some (.next (kr, w64 (br + 1)))
def xg (x1 : za) (yy : σ → (ze × za) → Option (σ × Bool)) (av : Int) (bf : Int) (bi : zb) (br : Int) (dh : σ) (cd : Int) (fe : zb) : Option (LR σ σ) :=
 bif fe.Kind != 2 then (
  some (.next dh))
 else (
  bif fe.Channel != bi.Channel then (
   some (.next dh))
  else (
   bif fe.Message != bi.Message then (
    some (.next dh))
   else (
    (idx (zI.toL x1.states_) av).bind fun cell =>
    (some (zI.setI x1.states_ av bi.To)).bind fun arr =>
    (idx (zI.toL arr) br).bind fun bl =>
    (some (zI.setI arr br fe.To)).bind fun arr1 =>
    (yy dh ((ze.mk av bf br cd), (za.mk arr1 x1.queues_))).bind fun ib =>
    bif !ib.2 then (
     some (.done ib.1))
    else (
     some (.next ib.1)))))
def xe (x0 : z6) (x1 : za) (yy : σ → (ze × za) → Option (σ × Bool)) (av : Int) (bf : Int) (bi : zb) (ig : σ) (br : Int) : Option (LR (σ × Int) (σ ⊕ σ)) :=
 bif decide (br < ((x0.Parts.length : Nat) : Int)) then (
  bif br == av then (
   wr br ig)
  else (
   (wg x0 x1 br).bind fun aj =>
   (yl aj.1 aj.2.1 aj.2.2 (yOf (fun s x => xg x1 yy av bf bi br s x.1 x.2)) (.next ig)).bind fun t6 =>
   match t6 with
   | .next dh => (
    wr br dh)
   | .done dh => (
    some (.done (.inr dh)))))
 else (
  some (.done (.inl ig)))
def xh (x0 : z6) (x1 : za) (yy : σ → (ze × za) → Option (σ × Bool)) (av : Int) (dz : σ) (bf : Int) (bi : zb) : Option (LR σ σ) :=
 (xK x0 x1 av bi).bind fun al =>
 (KC al.2 true).bind fun ai =>
 bif !ai then (
  (yy dz ((ze.mk av bf (-1) (-1)), al.1)).bind fun yr =>
  bif !yr.2 then (
   some (.done yr.1))
  else (
   some (.next yr.1)))
 else (
  bif bi.Kind != 1 then (
   some (.next dz))
  else (
   (idx x0.Channels bi.Channel).bind fun ap =>
   bif decide (ap > 0) then (
    some (.next dz))
   else (
    (loop (fun s => xe x0 x1 yy av bf bi s.1 s.2) (dz, 0)).bind fun t4 =>
    match t4 with
    | .inl p => some (.next p)
    | .inr p => some (.done p))))
def xE (x0 : z6) (x1 : za) (yy : σ → (ze × za) → Option (σ × Bool)) (ew : σ) (av : Int) : Option (LR (σ × Int) σ) :=
 bif decide (av < ((x0.Parts.length : Nat) : Int)) then (
  (wg x0 x1 av).bind fun r_ =>
  (yl r_.1 r_.2.1 r_.2.2 (yOf (fun s x => xh x0 x1 yy av s x.1 x.2)) (.next ew)).bind fun t3 =>
  match t3 with
  | .next dz => (
   vB av dz)
  | .done dz => (
   some (.done dz)))
 else (
  some (.done ew))
def y7 (x0 : z6) (x1 : za) {σ : Type} (yy : σ → (ze × za) → Option (σ × Bool)) (sg : σ) : Option σ :=
 (loop (fun s => xE x0 x1 yy s.1 s.2) (sg, 0)).bind fun t1 =>
 some t1
def ya (s_ : List z7) : Option (List z7) :=
 gd ((0 : Int) ≤ 0 ∧ (0 : Int) ≤ ((s_.length : Nat) : Int) ∧ (((s_.length : Nat) : Int) : Int) ≤ ((s_.length : Nat) : Int) ∧ (((s_.length : Nat) : Int) : Int) ≤ ((s_.length : Nat) : Int)) <|
 some ((s_.drop 0).take (((s_.length : Nat) : Int).toNat - 0))
def yf (s_ : List (List z7)) : Option (List (List z7)) :=
 some s_
abbrev R4_ : Type := Option (List za × List (List z7) × Int)
def uj (x4 : Int) (list : List za) (bg : List (List z7)) : R4_ :=
 (yf bg).bind fun r_ =>
 some (list, r_, 0)
abbrev R5_ : Type := Option (LR (Int × List za × (List (za × Int)) × List (List z7) × Int) ((Int × List za × List (List z7)) ⊕ (List za × List (List z7) × Int)))
def wK (i_ : Int) (ku : Int) (je : List za) (j4 : List (za × Int)) (ii : List (List z7)) : R5_ :=
 some (.next (ku, je, j4, ii, w64 (i_ + 1)))
def xX (bk : List (List z7)) (i_ : Int) (kw : Int) (jf : List za) (j5 : List (za × Int)) (l_ : List z7) : R5_ :=
 (ya l_).bind fun al =>
 gd (bk.length + [al].length ≤ 4294967296) <|
 wK i_ kw jf j5 (bk ++ [al])
abbrev R6_ : Type := Option (LR (Int × List za × (List (za × Int)) × List z7) ((Int × List za × (List (za × Int)) × List z7)))
def xq (dr : Int) (dt : List z7) (fw : ze) (jg : List za) (j6 : List (za × Int)) (n_ : Int) : R6_ :=
 gd (dt.length + [(z7.mk fw n_)].length ≤ 4294967296) <|
 some (.next (dr, jg, j6, (dt ++ [(z7.mk fw n_)])))
def zK (dr : Int) (bz : List za) (cb : List (za × Int)) (dt : List z7) (fw : ze) (ez : za) : R6_ :=
 (some ((KS cb ez).getD 0)).bind fun val =>
 bif !((KS cb ez).isSome) then (
  bif ((bz.length : Nat) : Int) == 1024 then (
   some (.done (3, bz, cb, dt)))
  else (
   gd (bz.length + [ez].length ≤ 4294967296) <|
   xq dr dt fw (bz ++ [ez]) (KR cb ez ((bz.length : Nat) : Int)) ((bz.length : Nat) : Int)))
 else (
  xq dr dt fw bz cb val)
def xW (x_ : z6) (i8 : Int) (em : List za) (js : List (za × Int)) (bk : List (List z7)) (i_ : Int) : R5_ :=
 bif decide (i_ < ((em.length : Nat) : Int)) then (
  (idx em i_).bind fun fh =>
  (w5 x_ fh).bind fun ai =>
  (y7 ai.1 ai.2 (yOf (fun s x => zK s.1 s.2.1 s.2.2.1 s.2.2.2 x.1 x.2)) (.next (i8, em, js, ([] : List z7)))).bind fun t5 =>
  match t5 with
  | .next (dr, bz, cb, dt) => (
   xX bk i_ dr bz cb dt)
  | .done (dr, bz, cb, dt) => (
   some (.done (.inr (([] : List za), ([] : List (List z7)), dr)))))
 else (
  some (.done (.inl (i8, em, bk))))
def y3 (x_ : z6) : R4_ :=
 (loop (fun s => xW x_ s.1 s.2.1 s.2.2.1 s.2.2.2.1 s.2.2.2.2) (0, ([(za.mk (zI.mk 0 0 0 0) (zI.mk (zg.mk 0 (zI.mk 0 0 0 0)) (zg.mk 0 (zI.mk 0 0 0 0)) (zg.mk 0 (zI.mk 0 0 0 0)) (zg.mk 0 (zI.mk 0 0 0 0))))] : List za), (KR ([] : List (za × Int)) (za.mk (zI.mk 0 0 0 0) (zI.mk (zg.mk 0 (zI.mk 0 0 0 0)) (zg.mk 0 (zI.mk 0 0 0 0)) (zg.mk 0 (zI.mk 0 0 0 0)) (zg.mk 0 (zI.mk 0 0 0 0)))) 0), ([] : List (List z7)), 0)).bind fun t2 =>
 match t2 with
 | .inl p => uj p.1 p.2.1 p.2.2
 | .inr p => some p
def w6 (s_ : List Int) : Option (List Int) :=
 gd (([] : List Int).length + s_.length ≤ 4294967296) <|
 some s_
def xr (s_ : List Int) : Option (List Int) :=
 some s_
def vR (al : List Int) (gl : List (List Int)) : Option z8 :=
 some (z8.mk al gl)
def xl (x_ : z6) (s_ : za) (da : List (List Int)) (bf : Int) : Option (LR (List (List Int) × Int) (List (List Int))) :=
 bif decide (bf < (((List.replicate ((x_.Channels.length : Nat) : Int).toNat ([] : List Int)).length : Nat) : Int)) then (
  (idx (zI.toL s_.queues_) bf).bind fun cell =>
  gd ((0 : Int) ≤ cell.many_ ∧ (cell.many_ : Int) ≤ (([cell.l_.e0, cell.l_.e1, cell.l_.e2, cell.l_.e3].length : Nat) : Int)) <|
  (w6 ([cell.l_.e0, cell.l_.e1, cell.l_.e2, cell.l_.e3].take cell.many_.toNat)).bind fun ai =>
  (xr ai).bind fun aj =>
  (idx da bf).bind fun kx =>
  some (.next ((da.set bf.toNat aj), w64 (bf + 1))))
 else (
  some (.done da))
def yX (x_ : z6) (s_ : za) : Option z8 :=
 gd ((0 : Int) ≤ ((x_.Parts.length : Nat) : Int) ∧ (((x_.Parts.length : Nat) : Int) : Int) ≤ (([s_.states_.e0, s_.states_.e1, s_.states_.e2, s_.states_.e3].length : Nat) : Int)) <|
 (w6 ([s_.states_.e0, s_.states_.e1, s_.states_.e2, s_.states_.e3].take ((x_.Parts.length : Nat) : Int).toNat)).bind fun r_ =>
 (xr r_).bind fun al =>
 gd ((0 : Int) ≤ ((x_.Channels.length : Nat) : Int) ∧ (((x_.Channels.length : Nat) : Int) : Int) ≤ 4294967296) <|
 (loop (fun s => xl x_ s_ s.1 s.2) ((List.replicate ((x_.Channels.length : Nat) : Int).toNat ([] : List Int)), 0)).bind fun t2 =>
 vR al t2
def zX (s_ : List z8) : Option (List z8) :=
 gd ((0 : Int) ≤ 0 ∧ (0 : Int) ≤ ((s_.length : Nat) : Int) ∧ (((s_.length : Nat) : Int) : Int) ≤ ((s_.length : Nat) : Int) ∧ (((s_.length : Nat) : Int) : Int) ≤ ((s_.length : Nat) : Int)) <|
 some ((s_.drop 0).take (((s_.length : Nat) : Int).toNat - 0))
abbrev R7_ : Type := Option (List z8 × List (List z7) × Int)
def jA (al : List za × List (List z7) × Int) (out : List z8) : R7_ :=
 (zX out).bind fun ai =>
 some (ai, al.2.1, 0)
def va (x_ : z6) (al : List za × List (List z7) × Int) (cq : List z8) (j7 : Int) : Option (LR (List z8 × Int) (List z8)) :=
 bif decide (j7 < ((al.1.length : Nat) : Int)) then (
  (idx al.1 j7).bind fun u_ =>
  (yX x_ u_).bind fun aj =>
  gd (cq.length + [aj].length ≤ 4294967296) <|
  some (.next ((cq ++ [aj]), w64 (j7 + 1))))
 else (
  some (.done cq))
def xG (x_ : z6) : R7_ :=
 (wL x_).bind fun r_ =>
 bif r_ != 0 then (
  some (([] : List z8), ([] : List (List z7)), r_))
 else (
  (y3 x_).bind fun al =>
  bif al.2.2 != 0 then (
   some (([] : List z8), ([] : List (List z7)), al.2.2))
  else (
   (loop (fun s => va x_ al s.1 s.2) (([] : List z8), 0)).bind fun t2 =>
   jA al t2))
def vt (x_ : Int) : Option Bool :=
 some (x_ != x_)
def Zo (x_ : Int) (y_ : Int) : Option Bool :=
 (vt x_).bind fun r_ =>
 bif r_ then (
  (vt y_).bind fun al =>
  bif !al then (
   some true)
  else (
   some (decide (x_ < y_))))
 else (
  some (decide (x_ < y_)))
def uC (x_ : Int) : Option Bool :=
 some (x_ != x_)
def xx (x_ : List Int) (target : Int) (i_ : Int) : Option (Int × Bool) :=
 bif decide (i_ < ((x_.length : Nat) : Int)) then (
  (idx x_ i_).bind fun lm =>
  bif lm == target then (
   some (i_, true))
  else (
   (idx x_ i_).bind fun jv =>
   (uC jv).bind fun r_ =>
   bif r_ then (
    (uC target).bind fun al =>
    some (i_, al))
   else (
    some (i_, false))))
 else (
  some (i_, false))
abbrev R8_ : Type := Option (LR (Int × Int) Int)
def yY (x_ : List Int) (target : Int) (cm : Int) (j_ : Int) : R8_ :=
 bif decide (cm < j_) then (
  (idx x_ (w64 (Int.fdiv (IntKind.u64.wrap (w64 (cm + j_))) (2 ^ 1)))).bind fun jw =>
  (Zo jw target).bind fun ai =>
  bif ai then (
   some (.next (w64 ((w64 (Int.fdiv (IntKind.u64.wrap (w64 (cm + j_))) (2 ^ 1))) + 1), j_)))
  else (
   some (.next (cm, w64 (Int.fdiv (IntKind.u64.wrap (w64 (cm + j_))) (2 ^ 1))))))
 else (
  some (.done cm))
def yP (x_ : List Int) (target : Int) : Option (Int × Bool) :=
 (loop (fun s => yY x_ target s.1 s.2) (0, ((x_.length : Nat) : Int))).bind fun t2 =>
 xx x_ target t2
def qB (x_ : Int) : Option Bool :=
 some (x_ != x_)
def vZ (x_ : Int) (y_ : Int) : Option Int :=
 (qB x_).bind fun r_ =>
 (qB y_).bind fun al =>
 bif r_ then (
  bif al then (
   some 0)
  else (
   some (-1)))
 else (
  bif al then (
   some 1)
  else (
   bif decide (x_ < y_) then (
    some (-1))
   else (
    bif decide (x_ > y_) then (
     some 1)
    else (
     some 0))))
def u0 (x_ : Int) (y_ : Int) : Option Int :=
 (vt x_).bind fun r_ =>
 (vt y_).bind fun al =>
 bif r_ then (
  bif al then (
   some 0)
  else (
   some (-1)))
 else (
  bif al then (
   some 1)
  else (
   bif decide (x_ < y_) then (
    some (-1))
   else (
    bif decide (x_ > y_) then (
     some 1)
    else (
     some 0))))
def Wc : Option Int :=
 some 0
def kS (vals : List Int) (x8 : Int) : R1_ :=
 bif decide (x8 < ((vals.length : Nat) : Int)) then (
  (idx vals x8).bind fun kl =>
  bif kl != 0 then (
   some (.done (.inr kl)))
  else (
   some (.next (w64 (x8 + 1)))))
 else (
  some (.done (.inl ())))
def XF (vals : List Int) : Option Int :=
 (loop (fun s => kS vals s) 0).bind fun t2 =>
 match t2 with
 | .inl p => Wc
 | .inr p => some p
def xN (a_ : zf) (b_ : zf) : Option Int :=
 (vZ a_.Kind b_.Kind).bind fun r_ =>
 (u0 a_.Label b_.Label).bind fun al =>
 (u0 a_.To b_.To).bind fun ai =>
 (XF ([r_, al, ai])).bind fun aj =>
 some aj
abbrev R9_ : Type := Option (List zf)
def xv (s_ : List zf) : R9_ :=
 some s_
abbrev zdk : Type := Option (LR Int (Unit ⊕ List zf))
def yx (k_ : Int) : zdk :=
 some (.next (w64 (k_ + 1)))
def zW (cr : List zf) (dn : Int) : zdk :=
 gd ((0 : Int) ≤ dn ∧ (dn : Int) ≤ ((cr.length : Nat) : Int)) <|
 gd ((0 : Int) ≤ dn ∧ (dn : Int) ≤ ((cr.length : Nat) : Int)) <|
 gd ((0 : Int) ≤ dn ∧ (dn : Int) ≤ (((cr.take dn.toNat ++ List.replicate (cr.length - dn.toNat) (zf.mk 0 0 0)).length : Nat) : Int)) <|
 some (.done (.inr ((cr.take dn.toNat ++ List.replicate (cr.length - dn.toNat) (zf.mk 0 0 0)).take dn.toNat)))
abbrev zen : Type := Option (LR (List zf × Int × Int) ((List zf × Int)))
def zV (k2 : Int) (ky : List zf) (kz : Int) : zen :=
 some (.next (ky, kz, w64 (k2 + 1)))
def zU (k_ : Int) (ff : List zf) (gq : Int) (k2 : Int) : zen :=
 bif decide (k2 < ((ff.length - k_.toNat : Nat) : Int)) then (
  gd ((0 : Int) ≤ k_ ∧ (0 : Int) ≤ k2) <|
  (idx ff (k_ + k2)).bind fun ce =>
  gd ((0 : Int) ≤ k_ ∧ (0 : Int) ≤ w64 (k2 - 1)) <|
  (idx ff (k_ + (w64 (k2 - 1)))).bind fun gr =>
  bif !((ce.Kind == gr.Kind) && ((ce.Label == gr.Label) && ((ce.To == gr.To) && true))) then (
   gd ((0 : Int) ≤ k_ ∧ (0 : Int) ≤ k2) <|
   (idx ff (k_ + k2)).bind fun gw =>
   (idx ff gq).bind fun l9 =>
   zV k2 (ff.set gq.toNat gw) (w64 (gq + 1)))
  else (
   zV k2 ff gq))
 else (
  some (.done (ff, gq)))
def y9 (s_ : List zf) (k_ : Int) : zdk :=
 bif decide (k_ < ((s_.length : Nat) : Int)) then (
  (idx s_ k_).bind fun bo =>
  (idx s_ (w64 (k_ - 1))).bind fun ca =>
  bif (bo.Kind == ca.Kind) && ((bo.Label == ca.Label) && ((bo.To == ca.To) && true)) then (
   gd ((0 : Int) ≤ k_ ∧ (k_ : Int) ≤ ((s_.length : Nat) : Int)) <|
   (loop (fun s => zU k_ s.1 s.2.1 s.2.2) (s_, k_, 1)).bind fun t5 =>
   zW t5.1 t5.2)
  else (
   yx k_))
 else (
  some (.done (.inl ())))
def yh (s_ : List zf) : R9_ :=
 bif decide (((s_.length : Nat) : Int) < 2) then (
  some s_)
 else (
  (loop (fun s => y9 s_ s) 1).bind fun t2 =>
  match t2 with
  | .inl p => xv s_
  | .inr p => some p)
def yN (s_ : List zf) : R9_ :=
 gd ((0 : Int) ≤ 0 ∧ (0 : Int) ≤ ((s_.length : Nat) : Int) ∧ (((s_.length : Nat) : Int) : Int) ≤ ((s_.length : Nat) : Int) ∧ (((s_.length : Nat) : Int) : Int) ≤ ((s_.length : Nat) : Int)) <|
 some ((s_.drop 0).take (((s_.length : Nat) : Int).toNat - 0))
def yp (s_ : List (List zf)) : Option (List (List zf)) :=
 gd ((0 : Int) ≤ 0 ∧ (0 : Int) ≤ ((s_.length : Nat) : Int) ∧ (((s_.length : Nat) : Int) : Int) ≤ ((s_.length : Nat) : Int) ∧ (((s_.length : Nat) : Int) : Int) ≤ ((s_.length : Nat) : Int)) <|
 some ((s_.drop 0).take (((s_.length : Nat) : Int).toNat - 0))
def vm (x_ : z6) (eb : List (List zf)) : Option (zB × Int) :=
 (yp eb).bind fun aj =>
 some ((zB.mk 0 x_.Labels aj), 0)
abbrev zdj : Type := Option (LR (List (List zf) × Int) (List (List zf) ⊕ (zB × Int)))
def uV (ct : Int) (fx : List (List zf)) : zdj :=
 some (.next (fx, w64 (ct + 1)))
def uU (ax : List (List zf)) (ct : Int) (row : List zf) : zdj :=
 (z4Z (fun x y => xN x y) row).bind fun sorted =>
 (yh sorted).bind fun cg =>
 (yN cg).bind fun bu =>
 bif decide (((bu.length : Nat) : Int) > 256) then (
  some (.done (.inr ((zB.mk 0 0 []), 3))))
 else (
  gd (ax.length + [bu].length ≤ 4294967296) <|
  uV ct (ax ++ [bu]))
abbrev zem : Type := Option (LR (List zf × Int) (List zf))
def wz (d0 : List zf) (gf : Int) (cn : z7) (dy : Int) (db : Int) : zem :=
 gd (d0.length + [(zf.mk dy db cn.To)].length ≤ 4294967296) <|
 some (.next ((d0 ++ [(zf.mk dy db cn.To)]), w64 (gf + 1)))
def wy (x_ : z6) (aq : List Int) (u_ : List z7) (d0 : List zf) (gf : Int) : zem :=
 bif decide (gf < ((u_.length : Nat) : Int)) then (
  (idx u_ gf).bind fun cn =>
  (idx x_.Parts cn.Move.Part).bind fun am =>
  (idx am.Arcs cn.Move.Arc).bind fun az =>
  (yP aq az.Message).bind fun dc =>
  bif az.Kind == 0 then (
   bif !dc.2 then (
    wz d0 gf cn 2 az.Message)
   else (
    wz d0 gf cn 0 0))
  else (
   wz d0 gf cn 0 0))
 else (
  some (.done d0))
def vj (x_ : z6) (aq : List Int) (ai : List za × List (List z7) × Int) (ax : List (List zf)) (ct : Int) : zdj :=
 bif decide (ct < ((ai.2.1.length : Nat) : Int)) then (
  (idx ai.2.1 ct).bind fun u_ =>
  (loop (fun s => wy x_ aq u_ s.1 s.2) (([] : List zf), 0)).bind fun t5 =>
  uU ax ct t5)
 else (
  some (.done (.inl ax)))
def yC (x_ : z6) (aq : List Int) : Option (zB × Int) :=
 (wL x_).bind fun r_ =>
 bif r_ != 0 then (
  some ((zB.mk 0 0 []), r_))
 else (
  (wO aq x_.Labels).bind fun al =>
  bif !al then (
   some ((zB.mk 0 0 []), 1))
  else (
   (y3 x_).bind fun ai =>
   bif ai.2.2 != 0 then (
    some ((zB.mk 0 0 []), ai.2.2))
   else (
    bif decide (((ai.1.length : Nat) : Int) > 64) then (
     some ((zB.mk 0 0 []), 3))
    else (
     (loop (fun s => vj x_ aq ai s.1 s.2) (([] : List (List zf)), 0)).bind fun t2 =>
     match t2 with
     | .inl p => vm x_ p
     | .inr p => some p))))
def ZZ (n_ : Int) : Option zh :=
 some (zh.mk 2 ([(zb.mk 0 2 n_ 0 1), (zb.mk 1 2 (w64 (2 + n_)) 0 0)]) [])
def jP (a_ : Int) (b_ : Int) : Option zh :=
 some (zh.mk 4 ([(zb.mk 0 1 a_ 0 1), (zb.mk 1 1 b_ 0 2), (zb.mk 2 1 (w64 (2 + a_)) 0 3), (zb.mk 3 1 (w64 (2 + b_)) 0 0)]) [])
def uq : Option Int :=
 some (-1)
def up (s_ : List Int) (v_ : Int) (x8 : Int) : R1_ :=
 bif decide (x8 < ((s_.length : Nat) : Int)) then (
  (idx s_ x8).bind fun bo =>
  bif v_ == bo then (
   some (.done (.inr x8)))
  else (
   some (.next (w64 (x8 + 1)))))
 else (
  some (.done (.inl ())))
def qV (s_ : List Int) (v_ : Int) : Option Int :=
 (loop (fun s => up s_ v_ s) 0).bind fun t2 =>
 match t2 with
 | .inl p => uq
 | .inr p => some p
def ur (s_ : List Int) (v_ : Int) : Option Bool :=
 (qV s_ v_).bind fun r_ =>
 some (decide (r_ ≥ 0))
def ui (s_ : za) : Option Bool :=
 some ((s_.queues_.e0.many_ == 0) && ((s_.queues_.e0.l_.e0 == 0) && ((s_.queues_.e0.l_.e1 == 0) && ((s_.queues_.e0.l_.e2 == 0) && ((s_.queues_.e0.l_.e3 == 0) && ((s_.queues_.e1.many_ == 0) && ((s_.queues_.e1.l_.e0 == 0) && ((s_.queues_.e1.l_.e1 == 0) && ((s_.queues_.e1.l_.e2 == 0) && ((s_.queues_.e1.l_.e3 == 0) && ((s_.queues_.e2.many_ == 0) && ((s_.queues_.e2.l_.e0 == 0) && ((s_.queues_.e2.l_.e1 == 0) && ((s_.queues_.e2.l_.e2 == 0) && ((s_.queues_.e2.l_.e3 == 0) && ((s_.queues_.e3.many_ == 0) && ((s_.queues_.e3.l_.e0 == 0) && ((s_.queues_.e3.l_.e1 == 0) && ((s_.queues_.e3.l_.e2 == 0) && ((s_.queues_.e3.l_.e3 == 0) && true))))))))))))))))))))
def uh (x_ : z6) (s_ : za) (ja : Int) : R2_ :=
 bif decide (ja < ((x_.Parts.length : Nat) : Int)) then (
  (idx x_.Parts ja).bind fun am =>
  (idx (zI.toL s_.states_) ja).bind fun cell =>
  (ur am.Final cell).bind fun r_ =>
  bif !r_ then (
   some (.done (.inr false)))
  else (
   some (.next (w64 (ja + 1)))))
 else (
  some (.done (.inl ())))
def qR (x_ : z6) (s_ : za) : Option Bool :=
 (loop (fun s => uh x_ s_ s) 0).bind fun t2 =>
 match t2 with
 | .inl p => ui s_
 | .inr p => some p
def x6 (cr : List ze) (i_ : Int) (j_ : Int) : Option (LR (List ze × Int × Int) (List ze)) :=
 bif decide (i_ < j_) then (
  (idx cr j_).bind fun bo =>
  (idx cr i_).bind fun ca =>
  (idx cr i_).bind fun ce =>
  (idx (cr.set i_.toNat bo) j_).bind fun ln =>
  some (.next (((cr.set i_.toNat bo).set j_.toNat ca), w64 (i_ + 1), w64 (j_ - 1))))
 else (
  some (.done cr))
abbrev zdi : Type := Option (List ze)
def xk (s_ : List ze) : zdi :=
 (loop (fun s => x6 s.1 s.2.1 s.2.2) (s_, 0, w64 (((s_.length : Nat) : Int) - 1))).bind fun t1 =>
 some t1
def yg (s_ : List ze) : zdi :=
 some s_
abbrev zdh : Type := Option (List ze × z8 × Int)
def jM : zdh :=
 some (([] : List ze), (z8.mk [] []), 7)
abbrev zdg : Type := Option (LR Int (Unit ⊕ (List ze × z8 × Int)))
def uk (cd : Int) : zdg :=
 some (.next (w64 (cd + 1)))
def jL (x_ : z6) (al : List za × List (List z7) × Int) (cd : Int) (run : List ze) : zdg :=
 (xk run).bind fun aj =>
 (yg aj).bind fun cg =>
 (idx al.1 cd).bind fun ld =>
 (yX x_ ld).bind fun bu =>
 some (.done (.inr (cg, bu, 0)))
def jI (d8 : List zu) (gx : List ze) (n_ : Int) : Option (LR (List ze × Int) (List ze)) :=
 bif decide (n_ > 0) then (
  (idx d8 n_).bind fun gy =>
  gd (gx.length + [gy.move_].length ≤ 4294967296) <|
  (idx d8 n_).bind fun j8 =>
  some (.next ((gx ++ [gy.move_]), j8.from_)))
 else (
  some (.done gx))
def jJ (x_ : z6) (al : List za × List (List z7) × Int) (d8 : List zu) (cd : Int) : zdg :=
 bif decide (cd < ((al.2.1.length : Nat) : Int)) then (
  (idx al.2.1 cd).bind fun u_ =>
  bif decide (((u_.length : Nat) : Int) > 0) then (
   uk cd)
  else (
   (idx al.1 cd).bind fun lf =>
   (qR x_ lf).bind fun ai =>
   bif ai then (
    uk cd)
   else (
    (loop (fun s => jI d8 s.1 s.2) (([] : List ze), cd)).bind fun t6 =>
    jL x_ al cd t6)))
 else (
  some (.done (.inl ())))
def jN (x_ : z6) (al : List za × List (List z7) × Int) (d8 : List zu) : zdh :=
 (loop (fun s => jJ x_ al d8 s) 0).bind fun t3 =>
 match t3 with
 | .inl p => jM
 | .inr p => some p
abbrev zel : Type := Option (LR (List zu × Int × Int) (List zu))
def jK (cw : Int) (j9 : List zu) (jh : Int) : zel :=
 some (.next (j9, jh, w64 (cw + 1)))
abbrev zek : Type := Option (LR (List zu × Int × Int) ((List zu × Int)))
def vJ (gm : Int) (ka : List zu) (ji : Int) : zek :=
 some (.next (ka, ji, w64 (gm + 1)))
def jG (cw : Int) (fy : List z7) (ge : List zu) (fj : Int) (gm : Int) : zek :=
 bif decide (gm < ((fy.length : Nat) : Int)) then (
  (idx fy gm).bind fun cn =>
  bif cn.To == fj then (
   (idx ge cn.To).bind fun lp =>
   vJ gm (ge.set cn.To.toNat (zu.mk cw cn.Move)) (w64 (fj + 1)))
  else (
   vJ gm ge fj))
 else (
  some (.done (ge, fj)))
def jH (al : List za × List (List z7) × Int) (ij : List zu) (jl : Int) (cw : Int) : zel :=
 bif decide (cw < ((al.2.1.length : Nat) : Int)) then (
  (idx al.2.1 cw).bind fun fy =>
  (loop (fun s => jG cw fy s.1 s.2.1 s.2.2) (ij, jl, 0)).bind fun t9 =>
  jK cw t9.1 t9.2)
 else (
  some (.done ij))
def xH (x_ : z6) : zdh :=
 (wL x_).bind fun r_ =>
 bif r_ != 0 then (
  some (([] : List ze), (z8.mk [] []), r_))
 else (
  (y3 x_).bind fun al =>
  bif al.2.2 != 0 then (
   some (([] : List ze), (z8.mk [] []), al.2.2))
  else (
   gd ((0 : Int) ≤ ((al.1.length : Nat) : Int) ∧ (((al.1.length : Nat) : Int) : Int) ≤ 4294967296) <|
   (loop (fun s => jH al s.1 s.2.1 s.2.2) ((List.replicate ((al.1.length : Nat) : Int).toNat (zu.mk 0 (ze.mk 0 0 0 0))), 1, 0)).bind fun t7 =>
   jN x_ al t7))
def Yh : Option Int :=
 some 0
def Yg (a_ : List Int) (b_ : List Int) (i_ : Int) : R1_ :=
 bif decide (i_ < ((a_.length : Nat) : Int)) then (
  (idx a_ i_).bind fun ik =>
  (idx b_ i_).bind fun il =>
  bif ik != il then (
   (idx a_ i_).bind fun lh =>
   (idx b_ i_).bind fun lk =>
   bif decide (lh < lk) then (
    some (.done (.inr 1)))
   else (
    some (.done (.inr 0))))
  else (
   some (.next (w64 (i_ + 1)))))
 else (
  some (.done (.inl ())))
def YK (a_ : List Int) (b_ : List Int) : Option Int :=
 bif ((a_.length : Nat) : Int) != ((b_.length : Nat) : Int) then (
  bif decide (((a_.length : Nat) : Int) < ((b_.length : Nat) : Int)) then (
   some 1)
  else (
   some 0))
 else (
  (loop (fun s => Yg a_ b_ s) 0).bind fun t2 =>
  match t2 with
  | .inl p => Yh
  | .inr p => some p)
def ZX (a_ : List Int) (b_ : List Int) : Option Int :=
 bif ((a_.length : Nat) : Int) != ((b_.length : Nat) : Int) then (
  some 0)
 else (
  (YK a_ b_).bind fun r_ =>
  bif r_ == 1 then (
   some 0)
  else (
   (YK b_ a_).bind fun al =>
   bif al == 1 then (
    some 0)
   else (
    some 1)))
def X8 (im : Int) (jx : Int) : Option Int :=
 bif decide (im > 600) then (
  some 1)
 else (
  bif decide (jx > 300) then (
   some 1)
  else (
   some 0))
def X7 (x_ : z6) (gz : Int) (gn : Int) (i_ : Int) : Option (LR (Int × Int × Int) ((Int × Int))) :=
 bif decide (i_ < ((x_.Parts.length : Nat) : Int)) then (
  (idx x_.Parts i_).bind fun am =>
  (idx x_.Parts i_).bind fun fq =>
  some (.next (w64 (gz + ((am.Arcs.length : Nat) : Int)), w64 (gn + ((fq.Final.length : Nat) : Int)), w64 (i_ + 1))))
 else (
  some (.done (gz, gn)))
def VO (x_ : z6) : Option Int :=
 bif decide (((x_.Channels.length : Nat) : Int) > 6) then (
  some 1)
 else (
  bif decide (((x_.Parts.length : Nat) : Int) > 6) then (
   some 1)
  else (
   (loop (fun s => X7 x_ s.1 s.2.1 s.2.2) (0, 0, 0)).bind fun t2 =>
   X8 t2.1 t2.2))
def qK (jd : Int) (im : List zb) : Option z6 :=
 some (z6.mk 1 1 ([jd]) ([(zh.mk 2 ([(zb.mk 0 1 0 0 1), (zb.mk 1 0 0 0 0)]) []), (zh.mk 1 im [])]))
def xR (a_ : Int) (b_ : Int) (km : List Int) : Option z8 :=
 some (z8.mk ([a_, b_]) ([km]))
def uJ (part : Int) (ma : Int) : Option ze :=
 some (ze.mk part ma (-1) (-1))
def W0 : Option Int :=
 some 1
def XZ (a_ : z8) (b_ : z8) (i_ : Int) : R1_ :=
 bif decide (i_ < ((a_.Queues.length : Nat) : Int)) then (
  (idx a_.Queues i_).bind fun a7 =>
  (idx b_.Queues i_).bind fun ee =>
  (ZX a7 ee).bind fun al =>
  bif al == 0 then (
   some (.done (.inr 0)))
  else (
   some (.next (w64 (i_ + 1)))))
 else (
  some (.done (.inl ())))
def Va (a_ : z8) (b_ : z8) : Option Int :=
 (ZX a_.States b_.States).bind fun r_ =>
 bif r_ == 0 then (
  some 0)
 else (
  bif ((a_.Queues.length : Nat) : Int) != ((b_.Queues.length : Nat) : Int) then (
   some 0)
  else (
   (loop (fun s => XZ a_ b_ s) 0).bind fun t2 =>
   match t2 with
   | .inl p => W0
   | .inr p => some p))
def Xd : Option Int :=
 some 1
def Xc (i_ : Int) (lq : List z7) (lu : List z7) (lv : Int) (lw : List z7) (ly : List z7) (lz : Int) (l4 : Bool) : R1_ :=
 some (.next (w64 (i_ + 1)))
def Xa (s_ : List (List z7)) (bg : List (List z7)) (i_ : Int) (ca : List z7) (ce : List z7) (k_ : Int) : Option (LR Int ((List z7 × List z7 × Int × List z7 × List z7 × Int × Bool) ⊕ Int)) :=
 (idx s_ i_).bind fun gr =>
 bif decide (k_ < ((gr.length : Nat) : Int)) then (
  (idx s_ i_).bind fun gw =>
  (idx gw k_).bind fun gu =>
  (idx bg i_).bind fun ki =>
  (idx ki k_).bind fun ft =>
  bif !((gu.Move.Part == ft.Move.Part) && ((gu.Move.Arc == ft.Move.Arc) && ((gu.Move.Other == ft.Move.Other) && ((gu.Move.With == ft.Move.With) && ((gu.To == ft.To) && true))))) then (
   some (.done (.inr 0)))
  else (
   some (.next (w64 (k_ + 1)))))
 else (
  some (.done (.inl (ca, ca, ((ca.length : Nat) : Int), ce, ce, ((ce.length : Nat) : Int), ((ca.length : Nat) : Int) != ((ce.length : Nat) : Int)))))
def Xb (s_ : List (List z7)) (bg : List (List z7)) (i_ : Int) : R1_ :=
 bif decide (i_ < ((s_.length : Nat) : Int)) then (
  (idx s_ i_).bind fun bo =>
  (idx bg i_).bind fun kb =>
  bif ((bo.length : Nat) : Int) != ((kb.length : Nat) : Int) then (
   some (.done (.inr 0)))
  else (
   (idx s_ i_).bind fun ca =>
   (idx s_ i_).bind fun ce =>
   bif ((ca.length : Nat) : Int) != ((ce.length : Nat) : Int) then (
    some (.done (.inr 0)))
   else (
    (loop (fun s => Xa s_ bg i_ ca ce s) 0).bind fun t5 =>
    match t5 with
    | .inl p => Xc i_ p.1 p.2.1 p.2.2.1 p.2.2.2.1 p.2.2.2.2.1 p.2.2.2.2.2.1 p.2.2.2.2.2.2
    | .inr p => some (.done (.inr p)))))
 else (
  some (.done (.inl ())))
def Xe (s_ : List (List z7)) (bg : List (List z7)) : Option Int :=
 (loop (fun s => Xb s_ bg s) 0).bind fun t3 =>
 match t3 with
 | .inl p => Xd
 | .inr p => some p
def X9 (c_ : List z8) (list : List z8) (cm : Int) : R1_ :=
 bif decide (cm < ((c_.length : Nat) : Int)) then (
  (idx c_ cm).bind fun kn =>
  (idx list cm).bind fun fh =>
  (Va kn fh).bind fun r_ =>
  bif r_ == 0 then (
   some (.done (.inr 0)))
  else (
   some (.next (w64 (cm + 1)))))
 else (
  some (.done (.inl ())))
def W8 (c_ : List z8) (s_ : List (List z7)) (list : List z8) (bg : List (List z7)) : Option Int :=
 bif ((c_.length : Nat) : Int) != ((list.length : Nat) : Int) then (
  some 0)
 else (
  bif ((s_.length : Nat) : Int) != ((bg.length : Nat) : Int) then (
   some 0)
  else (
   bif ((c_.length : Nat) : Int) != ((c_.length : Nat) : Int) then (
    some 0)
   else (
    bif ((s_.length : Nat) : Int) != ((s_.length : Nat) : Int) then (
     some 0)
    else (
     (loop (fun s => X9 c_ list s) 0).bind fun t6 =>
     match t6 with
     | .inl p => Xe s_ bg
     | .inr p => some p))))
def ZF : Option Int :=
 some 1
def ZD (i_ : Int) : R1_ :=
 some (.next (w64 (i_ + 1)))
def ZB (a_ : zB) (b_ : zB) (i_ : Int) (k_ : Int) : R1_ :=
 (idx a_.Rows i_).bind fun kc =>
 bif decide (k_ < ((kc.length : Nat) : Int)) then (
  (idx a_.Rows i_).bind fun k0 =>
  (idx k0 k_).bind fun i7 =>
  (idx b_.Rows i_).bind fun k9 =>
  (idx k9 k_).bind fun ia =>
  bif !((i7.Kind == ia.Kind) && ((i7.Label == ia.Label) && ((i7.To == ia.To) && true))) then (
   some (.done (.inr 0)))
  else (
   some (.next (w64 (k_ + 1)))))
 else (
  some (.done (.inl ())))
def ZC (a_ : zB) (b_ : zB) (i_ : Int) : R1_ :=
 bif decide (i_ < ((a_.Rows.length : Nat) : Int)) then (
  (idx a_.Rows i_).bind fun ko =>
  (idx b_.Rows i_).bind fun ke =>
  bif ((ko.length : Nat) : Int) != ((ke.length : Nat) : Int) then (
   some (.done (.inr 0)))
  else (
   (loop (fun s => ZB a_ b_ i_ s) 0).bind fun t4 =>
   match t4 with
   | .inl p => ZD i_
   | .inr p => some (.done (.inr p))))
 else (
  some (.done (.inl ())))
def ZQ (a_ : zB) (b_ : zB) : Option Int :=
 bif a_.Inputs != b_.Inputs then (
  some 0)
 else (
  bif a_.Outputs != b_.Outputs then (
   some 0)
  else (
   bif ((a_.Rows.length : Nat) : Int) != ((b_.Rows.length : Nat) : Int) then (
    some 0)
   else (
    (loop (fun s => ZC a_ b_ s) 0).bind fun t2 =>
    match t2 with
    | .inl p => ZF
    | .inr p => some p)))
def X6 : Option Int :=
 some 1
def X5 (a_ : List ze) (b_ : List ze) (i_ : Int) : R1_ :=
 bif decide (i_ < ((a_.length : Nat) : Int)) then (
  (idx a_ i_).bind fun ik =>
  (idx b_ i_).bind fun il =>
  bif !((ik.Part == il.Part) && ((ik.Arc == il.Arc) && ((ik.Other == il.Other) && ((ik.With == il.With) && true)))) then (
   some (.done (.inr 0)))
  else (
   some (.next (w64 (i_ + 1)))))
 else (
  some (.done (.inl ())))
def VN (a_ : List ze) (b_ : List ze) : Option Int :=
 bif ((a_.length : Nat) : Int) != ((b_.length : Nat) : Int) then (
  some 0)
 else (
  bif ((a_.length : Nat) : Int) != ((a_.length : Nat) : Int) then (
   some 0)
  else (
   (loop (fun s => X5 a_ b_ s) 0).bind fun t2 =>
   match t2 with
   | .inl p => X6
   | .inr p => some p))
def wm : Option Bool :=
 (qK 1 ([(zb.mk 0 2 0 0 0)])).bind fun r_ =>
 (xG r_).bind fun al =>
 (xR 0 0 []).bind fun ai =>
 (xR 1 0 ([0])).bind fun aj =>
 (xR 0 0 ([0])).bind fun cg =>
 (xR 1 0 []).bind fun bu =>
 (uJ 0 0).bind fun dc =>
 (uJ 0 1).bind fun dj =>
 (uJ 1 0).bind fun bt =>
 (uJ 1 0).bind fun bw =>
 (uJ 0 1).bind fun bj =>
 bif al.2.2 != 0 then (
  some false)
 else (
  (W8 al.1 al.2.1 ([ai, aj, cg, bu]) ([[(z7.mk dc 1)], [(z7.mk dj 2), (z7.mk bt 3)], [(z7.mk bw 0)], [(z7.mk bj 0)]])).bind fun bc =>
  bif bc == 0 then (
   some false)
  else (
   (yC r_ []).bind fun ay =>
   (yC r_ ([0])).bind fun ar =>
   bif ay.2 != 0 then (
    some false)
   else (
    bif ar.2 != 0 then (
     some false)
    else (
     (ZQ ay.1 (zB.mk 0 1 ([[(zf.mk 0 0 1)], [(zf.mk 0 0 3), (zf.mk 2 0 2)], [(zf.mk 0 0 0)], [(zf.mk 2 0 0)]]))).bind fun cj =>
     (ZQ ar.1 (zB.mk 0 1 ([[(zf.mk 0 0 1)], [(zf.mk 0 0 2), (zf.mk 0 0 3)], [(zf.mk 0 0 0)], [(zf.mk 0 0 0)]]))).bind fun io =>
     bif (w64 (cj * io)) == 0 then (
      some false)
     else (
      (xH r_).bind fun aw =>
      (qK 1 []).bind fun dp =>
      (xH dp).bind fun au =>
      (qK 0 ([(zb.mk 0 2 0 0 0)])).bind fun fk =>
      (xG fk).bind fun cu =>
      bif aw.2.2 != 7 then (
       some false)
      else (
       bif au.2.2 != 0 then (
        some false)
       else (
        (uJ 0 0).bind fun fc =>
        (uJ 0 1).bind fun fl =>
        (VN au.1 ([fc, fl])).bind fun jn =>
        bif jn == 0 then (
         some false)
        else (
         (xR 0 0 ([0])).bind fun kp =>
         (Va au.2.1 kp).bind fun l5 =>
         bif l5 == 0 then (
          some false)
         else (
          bif cu.2.2 != 0 then (
           some false)
          else (
           (xR 0 0 []).bind fun ip =>
           (xR 1 0 []).bind fun iq =>
           (uJ 0 1).bind fun ir =>
           (W8 cu.1 cu.2.1 ([ip, iq]) ([[(z7.mk (ze.mk 0 0 1 0) 1)], [(z7.mk ir 0)]])).bind fun lc =>
           some (lc == 1)))))))))))
def XY : Option Int :=
 some 0
def Zg (n_ : Int) (many : Int) : Option Int :=
 bif decide (n_ ≥ 0) then (
  bif decide (n_ < many) then (
   some 1)
  else (
   XY))
 else (
  XY)
def Y7 : Option Int :=
 some 1
def kP (i_ : Int) (jr : Bool) : R1_ :=
 some (.next (w64 (i_ + 1)))
def Y6 (l_ : List Int) (many : Int) (i_ : Int) : R1_ :=
 bif decide (i_ < ((l_.length : Nat) : Int)) then (
  (idx l_ i_).bind fun gc =>
  (Zg gc many).bind fun r_ =>
  bif r_ == 0 then (
   some (.done (.inr 0)))
  else (
   bif decide (i_ > 0) then (
    (idx l_ i_).bind fun gj =>
    (idx l_ (w64 (i_ - 1))).bind fun jy =>
    bif decide (gj ≤ jy) then (
     some (.done (.inr 0)))
    else (
     kP i_ (decide (gj ≤ jy))))
   else (
    kP i_ false)))
 else (
  some (.done (.inl ())))
def YJ (l_ : List Int) (many : Int) : Option Int :=
 (loop (fun s => Y6 l_ many s) 0).bind fun t2 =>
 match t2 with
 | .inl p => Y7
 | .inr p => some p
def X1 (jj : Int) : Option Int :=
 bif jj == 1 then (
  some 1)
 else (
  some 0)
def YZ (i_ : Int) (iu : Int) : R8_ :=
 some (.next (iu, w64 (i_ + 1)))
def qY (k_ : Int) (iv : Int) : R8_ :=
 some (.next (iv, w64 (k_ + 1)))
def qA (am : zh) (co : Int) (k_ : Int) (az : zb) (kq : Int) : R8_ :=
 bif decide (az.Kind > 2) then (
  qY k_ 1)
 else (
  (Zg az.From am.States).bind fun ai =>
  (Zg az.To am.States).bind fun aj =>
  bif (w64 ((w64 (ai * aj)) * kq)) == 0 then (
   qY k_ 1)
  else (
   qY k_ co))
def YW (x_ : z6) (am : zh) (co : Int) (k_ : Int) : R8_ :=
 bif decide (k_ < ((am.Arcs.length : Nat) : Int)) then (
  (idx am.Arcs k_).bind fun az =>
  (Zg az.Channel ((x_.Channels.length : Nat) : Int)).bind fun r_ =>
  (Zg az.Message x_.Messages).bind fun al =>
  bif az.Kind == 0 then (
   (Zg az.Message x_.Labels).bind fun cg =>
   bif az.Channel != 0 then (
    qA am co k_ az 0)
   else (
    qA am co k_ az cg))
  else (
   qA am co k_ az (w64 (r_ * al))))
 else (
  some (.done co))
def qZ (x_ : z6) (i_ : Int) (am : zh) (iw : Int) : R8_ :=
 (loop (fun s => YW x_ am s.1 s.2) (iw, 0)).bind fun t8 =>
 YZ i_ t8
def YX (x_ : z6) (fm : Int) (i_ : Int) : R8_ :=
 bif decide (i_ < ((x_.Parts.length : Nat) : Int)) then (
  (idx x_.Parts i_).bind fun am =>
  bif decide (am.States < 1) then (
   qZ x_ i_ am 1)
  else (
   (YJ am.Final am.States).bind fun bu =>
   bif bu == 0 then (
    qZ x_ i_ am 1)
   else (
    qZ x_ i_ am fm)))
 else (
  some (.done fm))
def uH (x_ : z6) (gv : Int) : Option Int :=
 (loop (fun s => YX x_ s.1 s.2) (gv, 0)).bind fun t5 =>
 X1 t5
def X2 (x_ : z6) (dm : Int) : Option Int :=
 bif decide (x_.Messages < 0) then (
  uH x_ 1)
 else (
  bif decide (x_.Labels < 0) then (
   uH x_ 1)
  else (
   bif ((x_.Parts.length : Nat) : Int) == 0 then (
    uH x_ 1)
   else (
    uH x_ dm)))
def Yf (x_ : z6) (cm : Int) : R1_ :=
 bif decide (cm < ((x_.Parts.length : Nat) : Int)) then (
  (idx x_.Parts cm).bind fun fq =>
  bif decide (fq.States > 64) then (
   some (.done (.inr 3)))
  else (
   (idx x_.Parts cm).bind fun jo =>
   bif decide (((jo.Arcs.length : Nat) : Int) > 256) then (
    some (.done (.inr 3)))
   else (
    some (.next (w64 (cm + 1))))))
 else (
  some (.done (.inl ())))
def X3 (x_ : z6) (dm : Int) : Option Int :=
 (loop (fun s => Yf x_ s) 0).bind fun mb =>
 match mb with
 | .inl p => X2 x_ dm
 | .inr p => some p
def kQ (gg : Int) (ix : Int) : Option (LR (Int × Int) (Int ⊕ Int)) :=
 some (.next (ix, w64 (gg + 1)))
def Ye (x_ : z6) (fz : Int) (gg : Int) : Option (LR (Int × Int) (Int ⊕ Int)) :=
 bif decide (gg < ((x_.Channels.length : Nat) : Int)) then (
  (idx x_.Channels gg).bind fun ap =>
  bif decide (ap > 4) then (
   some (.done (.inr 3)))
  else (
   (idx x_.Channels gg).bind fun dx =>
   bif decide (dx < 0) then (
    kQ gg 1)
   else (
    kQ gg fz)))
 else (
  some (.done (.inl fz)))
def VJ (x_ : z6) : Option Int :=
 bif decide (x_.Messages > 16) then (
  some 3)
 else (
  bif decide (x_.Labels > 16) then (
   some 3)
  else (
   bif decide (((x_.Channels.length : Nat) : Int) > 4) then (
    some 3)
   else (
    bif decide (((x_.Parts.length : Nat) : Int) > 4) then (
     some 3)
    else (
     (loop (fun s => Ye x_ s.1 s.2) (0, 0)).bind fun t12 =>
     match t12 with
     | .inl p => X3 x_ p
     | .inr p => some p))))
def qr (m_ : Int) (x1 : z6) : Option Bool :=
 (v8 m_ x1.Messages).bind fun r_ =>
 some (!r_)
def wi : Option Int :=
 some (-1)
def wh (s_ : List Int) (f_ : z6) (x8 : Int) : R1_ :=
 bif decide (x8 < ((s_.length : Nat) : Int)) then (
  (idx s_ x8).bind fun bo =>
  (qr bo f_).bind fun r_ =>
  bif r_ then (
   some (.done (.inr x8)))
  else (
   some (.next (w64 (x8 + 1)))))
 else (
  some (.done (.inl ())))
def wM (s_ : List Int) (f_ : z6) : Option Int :=
 (loop (fun s => wh s_ f_ s) 0).bind fun t2 =>
 match t2 with
 | .inl p => wi
 | .inr p => some p
def wl (s_ : List Int) (f_ : z6) : Option Bool :=
 (wM s_ f_).bind fun r_ =>
 some (decide (r_ ≥ 0))
def uN : Option Int :=
 some 0
def uM (x_ : z6) (c_ : z8) (jt : Int) : R1_ :=
 bif decide (jt < ((c_.Queues.length : Nat) : Int)) then (
  (idx c_.Queues jt).bind fun a7 =>
  (idx x_.Channels jt).bind fun ap =>
  bif decide (((a7.length : Nat) : Int) > ap) then (
   some (.done (.inr 1)))
  else (
   (wl a7 x_).bind fun al =>
   bif al then (
    some (.done (.inr 1)))
   else (
    some (.next (w64 (jt + 1))))))
 else (
  some (.done (.inl ())))
def uO (x_ : z6) (c_ : z8) : Option Int :=
 (loop (fun s => uM x_ c_ s) 0).bind fun t3 =>
 match t3 with
 | .inl p => uN
 | .inr p => some p
def uL (x_ : z6) (c_ : z8) (ju : Int) : R1_ :=
 bif decide (ju < ((x_.Parts.length : Nat) : Int)) then (
  (idx x_.Parts ju).bind fun am =>
  (idx c_.States ju).bind fun ep =>
  (v8 ep am.States).bind fun ai =>
  bif !ai then (
   some (.done (.inr 1)))
  else (
   some (.next (w64 (ju + 1)))))
 else (
  some (.done (.inl ())))
def wQ (x_ : z6) (c_ : z8) : Option Int :=
 (wL x_).bind fun r_ =>
 bif r_ != 0 then (
  some r_)
 else (
  bif ((c_.States.length : Nat) : Int) != ((x_.Parts.length : Nat) : Int) then (
   some 1)
  else (
   bif ((c_.Queues.length : Nat) : Int) != ((x_.Channels.length : Nat) : Int) then (
    some 1)
   else (
    (loop (fun s => uL x_ c_ s) 0).bind fun t4 =>
    match t4 with
    | .inl p => uO x_ c_
    | .inr p => some p)))
def Zv (arr : zI Int) (dw : zI zg) : Option za :=
 some (za.mk arr dw)
abbrev zdf : Type := Option (LR (zI zg × Int) (zI zg))
def Zu (de : Int) (ga : zI zg) : zdf :=
 some (.next (ga, w64 (de + 1)))
def Zs (de : Int) (a7 : List Int) (ah : zI zg) (gp : Int) : zdf :=
 bif decide (gp < ((a7.length : Nat) : Int)) then (
  (idx a7 gp).bind fun dg =>
  (idx (zI.toL ah) de).bind fun cell =>
  (vQ cell dg).bind fun r_ =>
  (idx (zI.toL ah) de).bind fun bl =>
  (some (zI.setI ah de r_)).bind fun arr1 =>
  some (.next (arr1, w64 (gp + 1))))
 else (
  some (.done ah))
def Zt (c_ : z8) (du : zI zg) (de : Int) : zdf :=
 bif decide (de < ((c_.Queues.length : Nat) : Int)) then (
  (idx c_.Queues de).bind fun a7 =>
  (loop (fun s => Zs de a7 s.1 s.2) (du, 0)).bind fun t4 =>
  Zu de t4)
 else (
  some (.done du))
def ZL (c_ : z8) : Option za :=
 (some (zI.ofL (cpA (zI.toL (zI.mk 0 0 0 0)) 0 c_.States) (zI.mk 0 0 0 0))).bind fun arr =>
 (loop (fun s => Zt c_ s.1 s.2) ((zI.mk (zg.mk 0 (zI.mk 0 0 0 0)) (zg.mk 0 (zI.mk 0 0 0 0)) (zg.mk 0 (zI.mk 0 0 0 0)) (zg.mk 0 (zI.mk 0 0 0 0))), 0)).bind fun t2 =>
 Zv arr t2
def xw (s_ : List ze) : zdi :=
 gd ((0 : Int) ≤ 0 ∧ (0 : Int) ≤ ((s_.length : Nat) : Int) ∧ (((s_.length : Nat) : Int) : Int) ≤ ((s_.length : Nat) : Int) ∧ (((s_.length : Nat) : Int) : Int) ≤ ((s_.length : Nat) : Int)) <|
 some ((s_.drop 0).take (((s_.length : Nat) : Int).toNat - 0))
def Zw (out : List ze) : Option (List ze × Int) :=
 (xw out).bind fun al =>
 some (al, 0)
def jm (cq : List ze) (jk : ze) (mc : za) : Option (LR (List ze) Empty) :=
 gd (cq.length + [jk].length ≤ 4294967296) <|
 some (.next (cq ++ [jk]))
def XN (x_ : z6) (c_ : z8) : Option (List ze × Int) :=
 (wQ x_ c_).bind fun r_ =>
 bif r_ != 0 then (
  some (([] : List ze), r_))
 else (
  (ZL c_).bind fun ai =>
  (w5 x_ ai).bind fun aj =>
  (y7 aj.1 aj.2 (yOf (fun s x => jm s x.1 x.2)) (.next ([] : List ze))).bind fun t2 =>
  match t2 with
  | .next cq => (
   Zw cq)
  | .done z => nomatch z)
def XO (iy : List Int) (iz : List (List Int)) : Option (z8 × Int) :=
 some ((z8.mk [] []), 7)
def ZM (x_ : z6) (m_ : ze) (bp : List Int) (bq : List (List Int)) (gp : ze) (bf : za) : Option (LR (List Int × List (List Int)) ((List Int × List (List Int)))) :=
 bif (gp.Part == m_.Part) && ((gp.Arc == m_.Arc) && ((gp.Other == m_.Other) && ((gp.With == m_.With) && true))) then (
  (yX x_ bf).bind fun aj =>
  some (.done (aj.States, aj.Queues)))
 else (
  some (.next (bp, bq)))
def Qd (x_ : z6) (c_ : z8) (m_ : ze) : Option (z8 × Int) :=
 (wQ x_ c_).bind fun r_ =>
 bif r_ != 0 then (
  some ((z8.mk [] []), r_))
 else (
  (ZL c_).bind fun al =>
  (w5 x_ al).bind fun ai =>
  (y7 ai.1 ai.2 (yOf (fun s x => ZM x_ m_ s.1 s.2 x.1 x.2)) (.next (([] : List Int), ([] : List (List Int))))).bind fun t2 =>
  match t2 with
  | .next (bp, bq) => (
   XO bp bq)
  | .done (bp, bq) => (
   some ((z8.mk bp bq), 0)))
def Yc : Option Int :=
 some 1
def Yb (i_ : Int) : R1_ :=
 some (.next (w64 (i_ + 1)))
def Y9 (x_ : z6) (c_ : z8) (i_ : Int) (k_ : Int) : R1_ :=
 (idx c_.Queues i_).bind fun ee =>
 bif decide (k_ < ((ee.length : Nat) : Int)) then (
  (idx c_.Queues i_).bind fun kg =>
  (idx kg k_).bind fun dg =>
  (Zg dg x_.Messages).bind fun r_ =>
  bif r_ == 0 then (
   some (.done (.inr 0)))
  else (
   some (.next (w64 (k_ + 1)))))
 else (
  some (.done (.inl ())))
def Ya (x_ : z6) (c_ : z8) (i_ : Int) : R1_ :=
 bif decide (i_ < ((c_.Queues.length : Nat) : Int)) then (
  (idx c_.Queues i_).bind fun a7 =>
  (idx x_.Channels i_).bind fun ap =>
  bif decide (((a7.length : Nat) : Int) > ap) then (
   some (.done (.inr 0)))
  else (
   (loop (fun s => Y9 x_ c_ i_ s) 0).bind fun t5 =>
   match t5 with
   | .inl p => Yb i_
   | .inr p => some (.done (.inr p))))
 else (
  some (.done (.inl ())))
def Yd (x_ : z6) (c_ : z8) : Option Int :=
 (loop (fun s => Ya x_ c_ s) 0).bind fun t3 =>
 match t3 with
 | .inl p => Yc
 | .inr p => some p
def Y8 (x_ : z6) (c_ : z8) (cm : Int) : R1_ :=
 bif decide (cm < ((c_.States.length : Nat) : Int)) then (
  (idx c_.States cm).bind fun ep =>
  (idx x_.Parts cm).bind fun am =>
  (Zg ep am.States).bind fun al =>
  bif al == 0 then (
   some (.done (.inr 0)))
  else (
   some (.next (w64 (cm + 1)))))
 else (
  some (.done (.inl ())))
def WN (x_ : z6) (c_ : z8) : Option Int :=
 bif ((c_.States.length : Nat) : Int) != ((x_.Parts.length : Nat) : Int) then (
  some 0)
 else (
  bif ((c_.Queues.length : Nat) : Int) != ((x_.Channels.length : Nat) : Int) then (
   some 0)
  else (
   (loop (fun s => Y8 x_ c_ s) 0).bind fun t6 =>
   match t6 with
   | .inl p => Yd x_ c_
   | .inr p => some p))
def xD (x_ : z6) (aq : List Int) (bc : zB × Int) : Option Bool :=
 (YJ aq x_.Labels).bind fun io =>
 bif io == 0 then (
  bif bc.2 == 1 then (
   bif ((bc.1.Rows.length : Nat) : Int) == 0 then (
    (wm).bind fun aw =>
    some aw)
   else (
    some false))
  else (
   some false))
 else (
  bif bc.2 == 0 then (
   (wm).bind fun dp =>
   some dp)
  else (
   bif bc.2 == 3 then (
    bif ((bc.1.Rows.length : Nat) : Int) == 0 then (
     (wm).bind fun au =>
     some au)
    else (
     some false))
   else (
    some false)))
def wX (x_ : z6) (aq : List Int) (bt : List ze × Int) (bw : z8 × Int) (bj : Int) (bc : zB × Int) (jb : Int) : Option Bool :=
 bif bj != jb then (
  some false)
 else (
  bif bt.2 != jb then (
   some false)
  else (
   bif jb != 0 then (
    bif bw.2 != jb then (
     some false)
    else (
     bif ((bt.1.length : Nat) : Int) != 0 then (
      some false)
     else (
      bif jb == 0 then (
       bif bw.2 != 7 then (
        some false)
       else (
        xD x_ aq bc))
      else (
       xD x_ aq bc))))
   else (
    bif jb == 0 then (
     bif bw.2 != 7 then (
      some false)
     else (
      xD x_ aq bc))
    else (
     xD x_ aq bc))))
def uR (x_ : z6) (c_ : z8) (aq : List Int) (n_ : Int) : Option Bool :=
 (VJ x_).bind fun bu =>
 bif decide (n_ > 40) then (
  (wm).bind fun dc =>
  some dc)
 else (
  (wL x_).bind fun dj =>
  bif dj != bu then (
   some false)
  else (
   (XN x_ c_).bind fun bt =>
   (Qd x_ c_ (ze.mk (-1) 0 0 0)).bind fun bw =>
   (wQ x_ c_).bind fun bj =>
   (yC x_ aq).bind fun bc =>
   bif bu != 0 then (
    (xG x_).bind fun ay =>
    (xH x_).bind fun ar =>
    bif bt.2 == bu then (
     bif bw.2 == bu then (
      bif bj == bu then (
       bif bc.2 == bu then (
        bif ay.2.2 == bu then (
         bif ar.2.2 == bu then (
          bif (w64 ((w64 ((w64 ((w64 ((w64 ((w64 (((bt.1.length : Nat) : Int) + ((bw.1.States.length : Nat) : Int))) + ((bc.1.Rows.length : Nat) : Int))) + ((ay.1.length : Nat) : Int))) + ((ay.2.1.length : Nat) : Int))) + ((ar.1.length : Nat) : Int))) + ((ar.2.1.States.length : Nat) : Int))) == 0 then (
           (wm).bind fun cj =>
           some cj)
          else (
           some false))
         else (
          some false))
        else (
         some false))
       else (
        some false))
      else (
       some false))
     else (
      some false))
    else (
     some false))
   else (
    (WN x_ c_).bind fun fk =>
    bif fk == 0 then (
     wX x_ aq bt bw bj bc 1)
    else (
     wX x_ aq bt bw bj bc 0))))
def uQ (c_ : z8) (kh : Int) (i_ : Int) : R8_ :=
 bif decide (i_ < ((c_.Queues.length : Nat) : Int)) then (
  (idx c_.Queues i_).bind fun a7 =>
  some (.next (w64 (kh + ((a7.length : Nat) : Int)), w64 (i_ + 1))))
 else (
  some (.done kh))
def xm (x_ : z6) (c_ : z8) (aq : List Int) : Option Bool :=
 (VO x_).bind fun r_ =>
 bif r_ == 1 then (
  (wm).bind fun al =>
  some al)
 else (
  bif decide (((c_.States.length : Nat) : Int) > 6) then (
   (wm).bind fun ai =>
   some ai)
  else (
   bif decide (((c_.Queues.length : Nat) : Int) > 6) then (
    (wm).bind fun aj =>
    some aj)
   else (
    bif decide (((aq.length : Nat) : Int) > 20) then (
     (wm).bind fun cg =>
     some cg)
    else (
     (loop (fun s => uQ c_ s.1 s.2) (0, 0)).bind fun t4 =>
     uR x_ c_ aq t4))))
def uW : Option Bool :=
 (uI ([32, 32])).bind fun r_ =>
 (xG r_).bind fun al =>
 (uI ([32, 33])).bind fun ai =>
 (xG ai).bind fun aj =>
 (uI ([8, 8])).bind fun cg =>
 (yC cg []).bind fun bu =>
 (uI ([13, 5])).bind fun dc =>
 (yC dc []).bind fun dj =>
 bif al.2.2 != 0 then (
  some false)
 else (
  bif ((al.1.length : Nat) : Int) != 1024 then (
   some false)
  else (
   bif ((al.2.1.length : Nat) : Int) != 1024 then (
    some false)
   else (
    bif aj.2.2 != 3 then (
     some false)
    else (
     bif (w64 (((aj.1.length : Nat) : Int) + ((aj.2.1.length : Nat) : Int))) != 0 then (
      some false)
     else (
      bif bu.2 != 0 then (
       some false)
      else (
       bif ((bu.1.Rows.length : Nat) : Int) != 64 then (
        some false)
       else (
        bif dj.2 != 3 then (
         some false)
        else (
         bif ((dj.1.Rows.length : Nat) : Int) != 0 then (
          some false)
         else (
          (ZZ 0).bind fun bt =>
          (ZZ 1).bind fun bw =>
          (jP 0 1).bind fun bj =>
          (jP 1 0).bind fun bc =>
          (xH (z6.mk 1 1 ([0, 0, 0, 0]) ([bt, bw, bj, bc]))).bind fun ay =>
          (jP 0 1).bind fun ar =>
          (idx ([bt, bw, bj, bc]) 3).bind fun ln =>
          (xH (z6.mk 1 1 ([0, 0, 0, 0]) (([bt, bw, bj, bc]).set (3 : Int).toNat ar))).bind fun cj =>
          bif ay.2.2 != 0 then (
           some false)
          else (
           bif ((ay.1.length : Nat) : Int) != 2 then (
            some false)
           else (
            (ZX ay.2.1.States ([1, 1, 1, 1])).bind fun io =>
            bif io == 0 then (
             some false)
            else (
             bif cj.2.2 != 7 then (
              some false)
             else (
              (xm (z6.mk 17 0 [] []) (z8.mk [] []) []).bind fun aw =>
              bif aw then (
               (qK 5 []).bind fun dp =>
               (xR 0 0 []).bind fun au =>
               (xm dp au []).bind fun fk =>
               bif fk then (
                (qK 1 []).bind fun cu =>
                (xR 0 0 ([0, 0])).bind fun fc =>
                (xm cu fc ([1])).bind fun fl =>
                bif fl then (
                 (wm).bind fun jn =>
                 some jn)
                else (
                 some false))
               else (
                some false))
              else (
               some false))))))))))))))
abbrev F0_ := WY (eI .i64)
abbrev F1_ := eSl 1 true (eI .i64)
abbrev F2_ := eOs 1 true (eI .i64)
abbrev F3_ := eSl 1 false (eI .i64)
abbrev F4_ := eOs 1 true F2_
abbrev F5_ := eSl 1 true F1_
abbrev F6_ := eSl 1 true F3_
abbrev F7_ := eSl 1 false F3_
abbrev F8_ := wE (eI .u8) (eI .i64) (eI .i64)
abbrev F9_ := yn (eI .i64) F0_
abbrev z4N := WY F9_
abbrev UZ := eSl 3 true F8_
abbrev xc := yT (eI .i64) (eI .i64) (eI .i64) (eI .i64)
abbrev Yu := eSl 3 false F8_
abbrev qD := xJ (eI .i64) (eI .u8) (eI .i64) (eI .i64) (eI .i64)
abbrev zeq := eSl 1 true Yu
abbrev z99 := eOs 4 true xc
abbrev z8D := eSl 4 true xc
abbrev zep := eSl 1 false Yu
abbrev zci := eSl 4 false xc
abbrev z2S := zA F2_ F4_
abbrev zch := zA F1_ F5_
abbrev KU := eSl 5 true qD
abbrev z98 := eSl 5 false qD
abbrev zeW := eOs 5 false qD
abbrev z6J := zA F1_ F6_
abbrev uK := zA F3_ F7_
abbrev Zi := xp xc (eI .i64)
abbrev Jd := Ji (eI .i64) xc
abbrev yR := yS F0_ z4N
abbrev zct := eSl 2 true z6J
abbrev z6I := eSl 2 true uK
abbrev zaR := eSl 2 false uK
abbrev wq := eSl 5 true Zi
abbrev V7 := eSl 5 false Zi
abbrev z8C := ut (eI .i64) (eI .i64) zeq
abbrev z4M := ut (eI .i64) (eI .i64) zep
abbrev z3w := eSl 1 true wq
abbrev zcg := eSl 1 false V7
abbrev z0E := zQ (eI .i64) KU F1_
abbrev zeo := zQ (eI .i64) z98 F1_
abbrev z4p := zQ (eI .i64) zeW F2_
abbrev ws := zQ (eI .i64) z98 F3_
abbrev z97 := eSp ws
abbrev zeV := eSl 3 true z0E
abbrev zeU := eSl 3 false zeo
abbrev zaD := eSl 3 false ws
abbrev z4H := yz (eI .i64) (eI .i64) F1_ zeV
abbrev zcf := yz (eI .i64) (eI .i64) F1_ zeU
abbrev yq := yz (eI .i64) (eI .i64) F3_ zaD
abbrev z1w := eSp yq
def rpN {α : Type _} (n : Nat) (a : α) (l : List α) : List α := Nat.rec l (fun _ r => a :: r) n
end Go.Own

namespace Go.Proofs
open Go.Shelf
def Tryz.so21_ren : Go.Shelf.Ren := ⟨fun | 6 => 21 | 15 => 60 | 14 => 59 | 28 => 84 | 29 => 85 | 20 => 76 | 21 => 77 | 22 => 78 | 23 => 79 | 24 => 80 | 25 => 81 | 26 => 82 | 27 => 83 | 46 => 93 | 47 => 94 | 48 => 95 | 49 => 96 | 50 => 97 | 57 => 98 | n => n, fun | 22 => 69 | 24 => 75 | 25 => 82 | 3 => 3 | 39 => 118 | 0 => 0 | 53 => 144 | 55 => 146 | 4 => 4 | 46 => 138 | 45 => 137 | 50 => 76 | 5 => 5 | 9 => 9 | 66 => 155 | 70 => 159 | 76 => 172 | 77 => 173 | n => n, fun | n => n⟩
theorem Tryz.so21 : Go.Proofs.SlLaysF0.n6 Tryz.prog Tryz.so21_ren := {
 mixed := by kernel_rfl
 f6 := ⟨Tryz.f21.name, by decide, Tryz.func21.trans (congrArg some (by kernel_rfl))⟩
 f14 := ⟨Tryz.f59.name, by decide, Tryz.func59.trans (congrArg some (by kernel_rfl))⟩
 f15 := Tryz.func60.trans (congrArg some (by kernel_rfl))
 f20 := ⟨Tryz.f76.name, by decide, Tryz.func76.trans (congrArg some (by kernel_rfl))⟩
 f21 := ⟨Tryz.f77.name, by decide, Tryz.func77.trans (congrArg some (by kernel_rfl))⟩
 f22 := ⟨Tryz.f78.name, by decide, Tryz.func78.trans (congrArg some (by kernel_rfl))⟩
 f23 := ⟨Tryz.f79.name, by decide, Tryz.func79.trans (congrArg some (by kernel_rfl))⟩
 f24 := ⟨Tryz.f80.name, by decide, Tryz.func80.trans (congrArg some (by kernel_rfl))⟩
 f25 := ⟨Tryz.f81.name, by decide, Tryz.func81.trans (congrArg some (by kernel_rfl))⟩
 f26 := ⟨Tryz.f82.name, by decide, Tryz.func82.trans (congrArg some (by kernel_rfl))⟩
 f27 := ⟨Tryz.f83.name, by decide, Tryz.func83.trans (congrArg some (by kernel_rfl))⟩
 f28 := Tryz.func84.trans (congrArg some (by kernel_rfl))
 f29 := Tryz.func85.trans (congrArg some (by kernel_rfl))
 f46 := ⟨Tryz.f93.name, by decide, Tryz.func93.trans (congrArg some (by kernel_rfl))⟩
 f47 := Tryz.func94.trans (congrArg some (by kernel_rfl))
 f48 := Tryz.func95.trans (congrArg some (by kernel_rfl))
 f49 := ⟨Tryz.f96.name, by decide, Tryz.func96.trans (congrArg some (by kernel_rfl))⟩
 f50 := ⟨Tryz.f97.name, by decide, Tryz.func97.trans (congrArg some (by kernel_rfl))⟩
 f57 := ⟨Tryz.f98.name, by decide, Tryz.func98.trans (congrArg some (by kernel_rfl))⟩
 t0 := Tryz.underlying0
 a0 := Tryz.isAgg0
 z0 := Tryz.sizeOf0
 v0 := Tryz.zeroValue0
 t3 := Tryz.underlying3
 a3 := Tryz.isAgg3
 z3 := Tryz.sizeOf3
 v3 := Tryz.zeroValue3
 t4 := Tryz.underlying4
 a4 := Tryz.isAgg4
 z4 := Tryz.sizeOf4
 v4 := Tryz.zeroValue4
 t5 := Tryz.underlying5
 a5 := Tryz.isAgg5
 z5 := Tryz.sizeOf5
 v5 := Tryz.zeroValue5
 t9 := Tryz.underlying9
 a9 := Tryz.isAgg9
 z9 := Tryz.sizeOf9
 v9 := Tryz.zeroValue9
 t22 := Tryz.underlying69
 a22 := Tryz.isAgg69
 z22 := Tryz.sizeOf69
 v22 := Tryz.zeroValue69
 t25 := Tryz.underlying82
 a25 := Tryz.isAgg82
 z25 := Tryz.sizeOf82
 v25 := Tryz.zeroValue82
 t39 := Tryz.underlying118
 a39 := Tryz.isAgg118
 z39 := Tryz.sizeOf118
 v39 := Tryz.zeroValue118
 t45 := Tryz.underlying137
 a45 := Tryz.isAgg137
 z45 := Tryz.sizeOf137
 v45 := Tryz.zeroValue137
 t46 := Tryz.underlying138
 a46 := Tryz.isAgg138
 z46 := Tryz.sizeOf138
 v46 := Tryz.zeroValue138
 t50 := Tryz.underlying76
 a50 := Tryz.isAgg76
 z50 := Tryz.sizeOf76
 v50 := Tryz.zeroValue76
 t53 := Tryz.underlying144
 a53 := Tryz.isAgg144
 z53 := Tryz.sizeOf144
 v53 := Tryz.zeroValue144
 t55 := Tryz.underlying146
 a55 := Tryz.isAgg146
 z55 := Tryz.sizeOf146
 v55 := Tryz.zeroValue146
 t66 := Tryz.underlying155
 a66 := Tryz.isAgg155
 z66 := Tryz.sizeOf155
 v66 := Tryz.zeroValue155
 t70 := Tryz.underlying159
 a70 := Tryz.isAgg159
 z70 := Tryz.sizeOf159
 v70 := Tryz.zeroValue159
 t76 := Tryz.underlying172
 a76 := Tryz.isAgg172
 z76 := Tryz.sizeOf172
 v76 := Tryz.zeroValue172
 t77 := Tryz.underlying173
 a77 := Tryz.isAgg173
 z77 := Tryz.sizeOf173
 v77 := Tryz.zeroValue173 }
end Go.Proofs
