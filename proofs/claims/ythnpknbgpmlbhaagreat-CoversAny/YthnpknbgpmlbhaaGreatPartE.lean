/- -/
import Derived.Test.YthnpknbgpmlbhaaGreatPartB
import Derived.Test.YthnpknbgpmlbhaaGreatProg
import Derived.Test.YthnpknbgpmlbhaaGreatPartC
import Derived.Test.YthnpknbgpmlbhaaGreatPartD
import Derived.Shelf.SlSortCmp.NoneTotal
import Derived.Ground.SlsfProg
set_option linter.unusedVariables false
set_option linter.unusedSimpArgs false
namespace Go.Ex
open Go.Proofs
def i64 : EI := ⟨.func, 1, 8, some [.nilFunc], false⟩
theorem q3 : EqP Tryz.prog 3 [.int .i64 0] false 1 := z7Q (k := .int .i64) Tryz.underlying3 ⟨_, (by kernel_rfl : Tryz.prog.info? 3 = some Tryz.t3), rfl⟩ rfl
theorem q67 : EqP Tryz.prog 67 (Xa [([.int .i64 0], false), ([.int .i64 0], false)]) true 2 := XU Tryz.underlying67 (by kernel_rfl) ⟨_, (by kernel_rfl : Tryz.prog.info? 67 = some Tryz.t67), rfl⟩ (by decide) (yh.cons (by decide) rfl (q3.mono (by decide)) (yh.cons (by decide) rfl (q3.mono (by decide)) (yh.nil)))
def i67 : EI := ⟨.struct [(0, 3), (1, 3)], 2, 16, some [.int .i64 0, .int .i64 0], true⟩
theorem zfn : zdw Tryz.prog 67 i67 := ⟨⟨Tryz.t67, by kernel_rfl, rfl, rfl, fun z h => by cases h; exact ⟨_, rfl, rfl, z3V rfl, rfl, ⟨_, rfl⟩⟩⟩, ⟨_, Tryz.underlying67, by kernel_rfl, by
  intro f hf
  simp only [List.mem_cons, List.not_mem_nil, or_false] at hf
  rcases hf with rfl | rfl
  ·exact ⟨Tryz.t3, by kernel_rfl⟩
  ·exact ⟨Tryz.t3, by kernel_rfl⟩⟩, fun _ => z0s q67 rfl rfl (Nat.le_of_ble_eq_true (by kernel_rfl)) (by decide)⟩
theorem q68 : EqP Tryz.prog 68 (Xa [([.int .i64 0], false), ([.int .i64 0], false)]) true 2 := XU Tryz.underlying68 (by kernel_rfl) ⟨_, (by kernel_rfl : Tryz.prog.info? 68 = some Tryz.t68), rfl⟩ (by decide) (yh.cons (by decide) rfl (q3.mono (by decide)) (yh.cons (by decide) rfl (q3.mono (by decide)) (yh.nil)))
def i68 : EI := ⟨.struct [(0, 3), (1, 3)], 2, 16, some [.int .i64 0, .int .i64 0], true⟩
theorem zbx : zdw Tryz.prog 68 i68 := ⟨⟨Tryz.t68, by kernel_rfl, rfl, rfl, fun z h => by cases h; exact ⟨_, rfl, rfl, z3V rfl, rfl, ⟨_, rfl⟩⟩⟩, ⟨_, Tryz.underlying68, by kernel_rfl, by
  intro f hf
  simp only [List.mem_cons, List.not_mem_nil, or_false] at hf
  rcases hf with rfl | rfl
  ·exact ⟨Tryz.t3, by kernel_rfl⟩
  ·exact ⟨Tryz.t3, by kernel_rfl⟩⟩, fun _ => z0s q68 rfl rfl (Nat.le_of_ble_eq_true (by kernel_rfl)) (by decide)⟩
theorem zfW : EqP Tryz.prog 133 (Xa [([.int .i64 0], false), ([.int .i64 0], false), ([.int .i64 0], false)]) true 2 := XU Tryz.underlying133 (by kernel_rfl) ⟨_, (by kernel_rfl : Tryz.prog.info? 133 = some Tryz.t133), rfl⟩ (by decide) (yh.cons (by decide) rfl (q3.mono (by decide)) (yh.cons (by decide) rfl (q3.mono (by decide)) (yh.cons (by decide) rfl (q3.mono (by decide)) (yh.nil))))
def zg1 : EI := ⟨.struct [(0, 3), (1, 3), (2, 3)], 3, 24, some [.int .i64 0, .int .i64 0, .int .i64 0], true⟩
theorem ze5 : zdw Tryz.prog 133 zg1 := ⟨⟨Tryz.t133, by kernel_rfl, rfl, rfl, fun z h => by cases h; exact ⟨_, rfl, rfl, z3V rfl, rfl, ⟨_, rfl⟩⟩⟩, ⟨_, Tryz.underlying133, by kernel_rfl, by
  intro f hf
  simp only [List.mem_cons, List.not_mem_nil, or_false] at hf
  rcases hf with rfl | rfl | rfl
  ·exact ⟨Tryz.t3, by kernel_rfl⟩
  ·exact ⟨Tryz.t3, by kernel_rfl⟩
  ·exact ⟨Tryz.t3, by kernel_rfl⟩⟩, fun _ => z0s zfW rfl rfl (Nat.le_of_ble_eq_true (by kernel_rfl)) (by decide)⟩
theorem zfV : EqP Tryz.prog 134 (Xa [([.int .i64 0], false), ([.int .i64 0], false), ([.int .i64 0], false)]) true 2 := XU Tryz.underlying134 (by kernel_rfl) ⟨_, (by kernel_rfl : Tryz.prog.info? 134 = some Tryz.t134), rfl⟩ (by decide) (yh.cons (by decide) rfl (q3.mono (by decide)) (yh.cons (by decide) rfl (q3.mono (by decide)) (yh.cons (by decide) rfl (q3.mono (by decide)) (yh.nil))))
def zg0 : EI := ⟨.struct [(0, 3), (1, 3), (2, 3)], 3, 24, some [.int .i64 0, .int .i64 0, .int .i64 0], true⟩
theorem z9Q : zdw Tryz.prog 134 zg0 := ⟨⟨Tryz.t134, by kernel_rfl, rfl, rfl, fun z h => by cases h; exact ⟨_, rfl, rfl, z3V rfl, rfl, ⟨_, rfl⟩⟩⟩, ⟨_, Tryz.underlying134, by kernel_rfl, by
  intro f hf
  simp only [List.mem_cons, List.not_mem_nil, or_false] at hf
  rcases hf with rfl | rfl | rfl
  ·exact ⟨Tryz.t3, by kernel_rfl⟩
  ·exact ⟨Tryz.t3, by kernel_rfl⟩
  ·exact ⟨Tryz.t3, by kernel_rfl⟩⟩, fun _ => z0s zfV rfl rfl (Nat.le_of_ble_eq_true (by kernel_rfl)) (by decide)⟩
end Go.Ex

namespace Go.Own
open Go.Proofs
def ze4 : Value → Bool
 | .int _ _ => true
 | _ => false
theorem z1O : ∀ {z vs us : List Value} {r : Bool}, z.all ze4 = true → z.length = vs.length → xc vs us = some r → Go.Ex.z1P z vs = true ∧ Go.Ex.xc vs us = some r
 | [], [], us, r, _, _, h => by
  cases us with
  | nil => simp only [xc, Option.some.injEq] at h; subst h; exact ⟨rfl, rfl⟩
  | cons u us => simp [xc] at h
 | a :: z, v :: vs, us, r, hz, hl, h => by
  have q : ∃ k x u' k' y, v = .int k x ∧ us = .int k' y :: u' ∧ k = k' := by
   cases us with
   | nil => cases v <;> simp [xc] at h
   | cons u us =>
    cases v <;> cases u <;> simp [xc] at h
    exact ⟨_, _, _, _, _, rfl, rfl, h.1⟩
  obtain ⟨k, x, u', k', y, rfl, rfl, hk⟩ := q
  simp only [xc, hk, if_true, Option.map_eq_some_iff] at h
  obtain ⟨r', e1, rfl⟩ := h
  simp only [List.all_cons, Bool.and_eq_true] at hz
  obtain ⟨q1, q2⟩ := z1O hz.2 (by simpa using hl) e1
  refine ⟨?_, by simp [Go.Ex.xc, hk, q2]⟩
  cases a <;> first | (simp [ze4] at hz; done) | simpa [Go.Ex.z1P] using q1
 | [], _ :: _, _, _, _, hl, _ => by simp at hl
 | _ :: _, [], _, _, _, hl, _ => by simp at hl
theorem z5W {P : Program} {t n : Nat} {i : Go.Ex.EI} (h : Go.Ex.zau P t i) {z : List Value} (hz : i.zero = some z) (hi : z.all ze4 = true) (hs : i.size = n) (hn : z.length = n) : zau P t n := {
 guard := h.guard
 run := fun vs us r w hv hu he => by
  obtain ⟨q1, q2⟩ := z1O hi (by rw [hn, hv]) he
  exact h.run vs us r w (by rw [hs]; exact hv) (by rw [hs]; exact hu) (by simpa only [Go.Ex.ze7, hz] using q1) q2 }
theorem zW {S : zg} {h : Array Obj} {v : Value} (hv : v.oneCell' = true) : zz S h (.atom v) [v] [] := by simp only [zz, Rep]; exact ⟨⟨trivial, hv⟩, trivial⟩
theorem uP {S : zg} {h : Array Obj} (sz : Nat) : zz S h (.osl sz true []) [.slice none 0 0] [] := by
 simp only [zz]
 exact ⟨none, 0, rfl, (fun _ => rfl), Nat.le_refl _, Nat.zero_le _, by simp, .inl ⟨trivial, rfl, rfl, trivial⟩⟩
theorem Qm {S : zg} {h : Array Obj} {fs : List A} {cs : List Value} (q : zC S h fs cs []) : zz S h (.agg fs) cs [] := by simpa only [zz] using q
theorem Vc {S : zg} {h : Array Obj} : zC S h [] [] [] := by simp [zC]
theorem uJ {S : zg} {h : Array Obj} {a : A} {fs : List A} {c1 c2 : List Value} (q1 : zz S h a c1 []) (q2 : zC S h fs c2 []) : zC S h (a :: fs) (c1 ++ c2) [] := by simp only [zC]; exact ⟨c1, c2, [], [], rfl, rfl, q1, q2⟩
def ti1 : TI := ⟨.other, 1, 8, some (.atom .nilFunc), false⟩
theorem zaH : Y8 Tryz.prog 1 ti1 := ⟨⟨Tryz.t1, by kernel_rfl, rfl, rfl, fun z h => by cases h; exact ⟨_, rfl, rfl, fun S h => zW rfl⟩⟩, ⟨_, Tryz.underlying1, rfl⟩, by intro h; cases h⟩
def ti2 : TI := ⟨.int .i64, 1, 8, some (.atom (.int .i64 0)), false⟩
theorem zaG : Y8 Tryz.prog 2 ti2 := ⟨⟨Tryz.t2, by kernel_rfl, rfl, rfl, fun z h => by cases h; exact ⟨_, rfl, rfl, fun S h => zW rfl⟩⟩, Tryz.underlying2, by intro h; cases h⟩
def ti3 : TI := ⟨.int .i64, 1, 8, some (.atom (.int .i64 0)), false⟩
theorem zaF : Y8 Tryz.prog 3 ti3 := ⟨⟨Tryz.t3, by kernel_rfl, rfl, rfl, fun z h => by cases h; exact ⟨_, rfl, rfl, fun S h => zW rfl⟩⟩, Tryz.underlying3, by intro h; cases h⟩
def ti4 : TI := ⟨.bool, 1, 1, some (.atom (.bool false)), false⟩
theorem zaE : Y8 Tryz.prog 4 ti4 := ⟨⟨Tryz.t4, by kernel_rfl, rfl, rfl, fun z h => by cases h; exact ⟨_, rfl, rfl, fun S h => zW rfl⟩⟩, Tryz.underlying4, by intro h; cases h⟩
def ti5 : TI := ⟨.int .u8, 1, 1, some (.atom (.int .u8 0)), false⟩
theorem zaD : Y8 Tryz.prog 5 ti5 := ⟨⟨Tryz.t5, by kernel_rfl, rfl, rfl, fun z h => by cases h; exact ⟨_, rfl, rfl, fun S h => zW rfl⟩⟩, Tryz.underlying5, by intro h; cases h⟩
def ti9 : TI := ⟨.str, 1, 16, none, false⟩
theorem zaC : Y8 Tryz.prog 9 ti9 := ⟨⟨Tryz.t9, by kernel_rfl, rfl, rfl, fun z h => by cases h⟩, Tryz.underlying9, by intro h; cases h⟩
def zf6 : TI := ⟨.slice 65, 1, 24, some (.osl 1 true []), false⟩
theorem z91 : Y8 Tryz.prog 25 zf6 := ⟨⟨Tryz.t25, by kernel_rfl, rfl, rfl, fun z h => by cases h; exact ⟨_, rfl, rfl, fun S h => uP _⟩⟩, Tryz.underlying25, by intro h; cases h⟩
def zf5 : TI := ⟨.struct [(0, 1), (1, 1), (2, 1)], 3, 40, some (.agg [.atom (.int .i64 0), .atom (.int .i64 0), .osl 1 true []]), false⟩
theorem z90 : Y8 Tryz.prog 27 zf5 := ⟨⟨Tryz.t27, by kernel_rfl, rfl, rfl, fun z h => by cases h; exact ⟨_, rfl, rfl, fun S h => Qm (uJ (zW rfl) (uJ (zW rfl) (uJ (uP _) (Vc))))⟩⟩, ⟨_, Tryz.underlying27, by kernel_rfl, by
  intro f hf
  simp only [List.mem_cons, List.not_mem_nil, or_false] at hf
  rcases hf with rfl | rfl | rfl
  ·exact ⟨Tryz.t3, by kernel_rfl⟩
  ·exact ⟨Tryz.t3, by kernel_rfl⟩
  ·exact ⟨Tryz.t25, by kernel_rfl⟩⟩, by intro h; cases h⟩
def zf4 : TI := ⟨.slice 77, 1, 24, some (.osl 1 true []), false⟩
theorem z8Z : Y8 Tryz.prog 29 zf4 := ⟨⟨Tryz.t29, by kernel_rfl, rfl, rfl, fun z h => by cases h; exact ⟨_, rfl, rfl, fun S h => uP _⟩⟩, Tryz.underlying29, by intro h; cases h⟩
def zf3 : TI := ⟨.int .i64, 1, 8, some (.atom (.int .i64 0)), false⟩
theorem z8Y : Y8 Tryz.prog 30 zf3 := ⟨⟨Tryz.t30, by kernel_rfl, rfl, rfl, fun z h => by cases h; exact ⟨_, rfl, rfl, fun S h => zW rfl⟩⟩, Tryz.underlying30, by intro h; cases h⟩
def zf2 : TI := ⟨.slice 4, 1, 24, some (.osl 1 true []), false⟩
theorem z8X : Y8 Tryz.prog 45 zf2 := ⟨⟨Tryz.t45, by kernel_rfl, rfl, rfl, fun z h => by cases h; exact ⟨_, rfl, rfl, fun S h => uP _⟩⟩, Tryz.underlying45, by intro h; cases h⟩
def zf1 : TI := ⟨.slice 45, 1, 24, some (.osl 1 true []), false⟩
theorem z8W : Y8 Tryz.prog 46 zf1 := ⟨⟨Tryz.t46, by kernel_rfl, rfl, rfl, fun z h => by cases h; exact ⟨_, rfl, rfl, fun S h => uP _⟩⟩, Tryz.underlying46, by intro h; cases h⟩
def zf0 : TI := ⟨.struct [(0, 1), (1, 1)], 2, 48, some (.agg [.osl 1 true [], .osl 1 true []]), false⟩
theorem z8V : Y8 Tryz.prog 48 zf0 := ⟨⟨Tryz.t48, by kernel_rfl, rfl, rfl, fun z h => by cases h; exact ⟨_, rfl, rfl, fun S h => Qm (uJ (uP _) (uJ (uP _) (Vc)))⟩⟩, ⟨_, Tryz.underlying48, by kernel_rfl, by
  intro f hf
  simp only [List.mem_cons, List.not_mem_nil, or_false] at hf
  rcases hf with rfl | rfl
  ·exact ⟨Tryz.t45, by kernel_rfl⟩
  ·exact ⟨Tryz.t46, by kernel_rfl⟩⟩, by intro h; cases h⟩
def zeZ : TI := ⟨.slice 5, 1, 24, some (.osl 1 true []), false⟩
theorem z8U : Y8 Tryz.prog 60 zeZ := ⟨⟨Tryz.t60, by kernel_rfl, rfl, rfl, fun z h => by cases h; exact ⟨_, rfl, rfl, fun S h => uP _⟩⟩, Tryz.underlying60, by intro h; cases h⟩
def zeY : TI := ⟨.slice 68, 1, 24, some (.osl 2 true []), false⟩
theorem z8T : Y8 Tryz.prog 65 zeY := ⟨⟨Tryz.t65, by kernel_rfl, rfl, rfl, fun z h => by cases h; exact ⟨_, rfl, rfl, fun S h => uP _⟩⟩, Tryz.underlying65, by intro h; cases h⟩
def zeX : TI := ⟨.struct [(0, 1), (1, 1)], 2, 16, some (.agg [.atom (.int .i64 0), .atom (.int .i64 0)]), true⟩
theorem z8S : Y8 Tryz.prog 68 zeX := ⟨⟨Tryz.t68, by kernel_rfl, rfl, rfl, fun z h => by cases h; exact ⟨_, rfl, rfl, fun S h => Qm (uJ (zW rfl) (uJ (zW rfl) (Vc)))⟩⟩, ⟨_, Tryz.underlying68, by kernel_rfl, by
  intro f hf
  simp only [List.mem_cons, List.not_mem_nil, or_false] at hf
  rcases hf with rfl | rfl
  ·exact ⟨Tryz.t3, by kernel_rfl⟩
  ·exact ⟨Tryz.t3, by kernel_rfl⟩⟩, fun _ => z5W (Go.Ex.zbx.eqn rfl) rfl rfl rfl rfl⟩
def zeW : TI := ⟨.slice 3, 1, 24, some (.osl 1 true []), false⟩
theorem z8R : Y8 Tryz.prog 77 zeW := ⟨⟨Tryz.t77, by kernel_rfl, rfl, rfl, fun z h => by cases h; exact ⟨_, rfl, rfl, fun S h => uP _⟩⟩, Tryz.underlying77, by intro h; cases h⟩
def zeV : TI := ⟨.other, 1, 8, some (.atom .nilFunc), false⟩
theorem z8Q : Y8 Tryz.prog 82 zeV := ⟨⟨Tryz.t82, by kernel_rfl, rfl, rfl, fun z h => by cases h; exact ⟨_, rfl, rfl, fun S h => zW rfl⟩⟩, ⟨_, Tryz.underlying82, rfl⟩, by intro h; cases h⟩
def zeU : TI := ⟨.other, 1, 8, some (.atom .nilFunc), false⟩
theorem z8P : Y8 Tryz.prog 83 zeU := ⟨⟨Tryz.t83, by kernel_rfl, rfl, rfl, fun z h => by cases h; exact ⟨_, rfl, rfl, fun S h => zW rfl⟩⟩, ⟨_, Tryz.underlying83, rfl⟩, by intro h; cases h⟩
def zeT : TI := ⟨.other, 1, 8, some (.atom .nilFunc), false⟩
theorem z8O : Y8 Tryz.prog 84 zeT := ⟨⟨Tryz.t84, by kernel_rfl, rfl, rfl, fun z h => by cases h; exact ⟨_, rfl, rfl, fun S h => zW rfl⟩⟩, ⟨_, Tryz.underlying84, rfl⟩, by intro h; cases h⟩
def zeS : TI := ⟨.other, 1, 8, some (.atom .nilFunc), false⟩
theorem z8N : Y8 Tryz.prog 85 zeS := ⟨⟨Tryz.t85, by kernel_rfl, rfl, rfl, fun z h => by cases h; exact ⟨_, rfl, rfl, fun S h => zW rfl⟩⟩, ⟨_, Tryz.underlying85, rfl⟩, by intro h; cases h⟩
def zeR : TI := ⟨.other, 1, 8, some (.atom .nilFunc), false⟩
theorem z8M : Y8 Tryz.prog 86 zeR := ⟨⟨Tryz.t86, by kernel_rfl, rfl, rfl, fun z h => by cases h; exact ⟨_, rfl, rfl, fun S h => zW rfl⟩⟩, ⟨_, Tryz.underlying86, rfl⟩, by intro h; cases h⟩
def zeQ : TI := ⟨.other, 1, 8, some (.atom .nilFunc), false⟩
theorem z8L : Y8 Tryz.prog 87 zeQ := ⟨⟨Tryz.t87, by kernel_rfl, rfl, rfl, fun z h => by cases h; exact ⟨_, rfl, rfl, fun S h => zW rfl⟩⟩, ⟨_, Tryz.underlying87, rfl⟩, by intro h; cases h⟩
def zeP : TI := ⟨.other, 1, 8, some (.atom .nilFunc), false⟩
theorem z8K : Y8 Tryz.prog 98 zeP := ⟨⟨Tryz.t98, by kernel_rfl, rfl, rfl, fun z h => by cases h; exact ⟨_, rfl, rfl, fun S h => zW rfl⟩⟩, ⟨_, Tryz.underlying98, rfl⟩, by intro h; cases h⟩
def zaU : TI := ⟨.other, 1, 8, some (.atom .nilFunc), false⟩
theorem z6Z : Y8 Tryz.prog 104 zaU := ⟨⟨Tryz.t104, by kernel_rfl, rfl, rfl, fun z h => by cases h; exact ⟨_, rfl, rfl, fun S h => zW rfl⟩⟩, ⟨_, Tryz.underlying104, rfl⟩, by intro h; cases h⟩
def zaT : TI := ⟨.other, 1, 8, none, false⟩
theorem z6Y : Y8 Tryz.prog 109 zaT := ⟨⟨Tryz.t109, by kernel_rfl, rfl, rfl, fun z h => by cases h⟩, ⟨_, Tryz.underlying109, rfl⟩, by intro h; cases h⟩
def zaS : TI := ⟨.other, 1, 8, some (.atom .nilFunc), false⟩
theorem z6X : Y8 Tryz.prog 116 zaS := ⟨⟨Tryz.t116, by kernel_rfl, rfl, rfl, fun z h => by cases h; exact ⟨_, rfl, rfl, fun S h => zW rfl⟩⟩, ⟨_, Tryz.underlying116, rfl⟩, by intro h; cases h⟩
def zaR : TI := ⟨.other, 1, 8, some (.atom .nilFunc), false⟩
theorem z6W : Y8 Tryz.prog 117 zaR := ⟨⟨Tryz.t117, by kernel_rfl, rfl, rfl, fun z h => by cases h; exact ⟨_, rfl, rfl, fun S h => zW rfl⟩⟩, ⟨_, Tryz.underlying117, rfl⟩, by intro h; cases h⟩
def zaQ : TI := ⟨.other, 1, 8, some (.atom .nilFunc), false⟩
theorem z6V : Y8 Tryz.prog 125 zaQ := ⟨⟨Tryz.t125, by kernel_rfl, rfl, rfl, fun z h => by cases h; exact ⟨_, rfl, rfl, fun S h => zW rfl⟩⟩, ⟨_, Tryz.underlying125, rfl⟩, by intro h; cases h⟩
def zaP : TI := ⟨.other, 1, 8, some (.atom .nilFunc), false⟩
theorem z6U : Y8 Tryz.prog 128 zaP := ⟨⟨Tryz.t128, by kernel_rfl, rfl, rfl, fun z h => by cases h; exact ⟨_, rfl, rfl, fun S h => zW rfl⟩⟩, ⟨_, Tryz.underlying128, rfl⟩, by intro h; cases h⟩
def zaO : TI := ⟨.other, 1, 8, some (.atom .nilFunc), false⟩
theorem z6T : Y8 Tryz.prog 130 zaO := ⟨⟨Tryz.t130, by kernel_rfl, rfl, rfl, fun z h => by cases h; exact ⟨_, rfl, rfl, fun S h => zW rfl⟩⟩, ⟨_, Tryz.underlying130, rfl⟩, by intro h; cases h⟩
def zaN : TI := ⟨.other, 1, 8, some (.atom .nilFunc), false⟩
theorem z6S : Y8 Tryz.prog 131 zaN := ⟨⟨Tryz.t131, by kernel_rfl, rfl, rfl, fun z h => by cases h; exact ⟨_, rfl, rfl, fun S h => zW rfl⟩⟩, ⟨_, Tryz.underlying131, rfl⟩, by intro h; cases h⟩
def zaM : TI := ⟨.struct [(0, 1), (1, 1), (2, 1)], 3, 24, some (.agg [.atom (.int .i64 0), .atom (.int .i64 0), .atom (.int .i64 0)]), true⟩
theorem z6R : Y8 Tryz.prog 134 zaM := ⟨⟨Tryz.t134, by kernel_rfl, rfl, rfl, fun z h => by cases h; exact ⟨_, rfl, rfl, fun S h => Qm (uJ (zW rfl) (uJ (zW rfl) (uJ (zW rfl) (Vc))))⟩⟩, ⟨_, Tryz.underlying134, by kernel_rfl, by
  intro f hf
  simp only [List.mem_cons, List.not_mem_nil, or_false] at hf
  rcases hf with rfl | rfl | rfl
  ·exact ⟨Tryz.t3, by kernel_rfl⟩
  ·exact ⟨Tryz.t3, by kernel_rfl⟩
  ·exact ⟨Tryz.t3, by kernel_rfl⟩⟩, fun _ => z5W (Go.Ex.z9Q.eqn rfl) rfl rfl rfl rfl⟩
def zaL : TI := ⟨.other, 1, 8, some (.atom .nilFunc), false⟩
theorem z6Q : Y8 Tryz.prog 138 zaL := ⟨⟨Tryz.t138, by kernel_rfl, rfl, rfl, fun z h => by cases h; exact ⟨_, rfl, rfl, fun S h => zW rfl⟩⟩, ⟨_, Tryz.underlying138, rfl⟩, by intro h; cases h⟩
def zaK : TI := ⟨.slice 29, 1, 24, some (.osl 1 true []), false⟩
theorem z6P : Y8 Tryz.prog 139 zaK := ⟨⟨Tryz.t139, by kernel_rfl, rfl, rfl, fun z h => by cases h; exact ⟨_, rfl, rfl, fun S h => uP _⟩⟩, Tryz.underlying139, by intro h; cases h⟩
def zaJ : TI := ⟨.other, 1, 8, some (.atom .nilFunc), false⟩
theorem z6O : Y8 Tryz.prog 148 zaJ := ⟨⟨Tryz.t148, by kernel_rfl, rfl, rfl, fun z h => by cases h; exact ⟨_, rfl, rfl, fun S h => zW rfl⟩⟩, ⟨_, Tryz.underlying148, rfl⟩, by intro h; cases h⟩
def zaI : TI := ⟨.slice 134, 1, 24, some (.osl 3 true []), false⟩
theorem z6N : Y8 Tryz.prog 149 zaI := ⟨⟨Tryz.t149, by kernel_rfl, rfl, rfl, fun z h => by cases h; exact ⟨_, rfl, rfl, fun S h => uP _⟩⟩, Tryz.underlying149, by intro h; cases h⟩
def tiL : List (Nat × TI) := [(1, ti1), (2, ti2), (3, ti3), (4, ti4), (5, ti5), (9, ti9), (25, zf6), (27, zf5), (29, zf4), (30, zf3), (45, zf2), (46, zf1), (48, zf0), (60, zeZ), (65, zeY), (68, zeX), (77, zeW), (82, zeV), (83, zeU), (84, zeT), (85, zeS), (86, zeR), (87, zeQ), (98, zeP), (104, zaU), (109, zaT), (116, zaS), (117, zaR), (125, zaQ), (128, zaP), (130, zaO), (131, zaN), (134, zaM), (138, zaL), (139, zaK), (148, zaJ), (149, zaI)]
def xX : TT := fun t => (tiL.find? fun p => p.1 == t).map (·.2)
def z6D (P : Program) : List (Nat × TI) → Prop
 | [] => True
 | p :: l => Y8 P p.1 p.2 ∧ z6D P l
theorem z6D.mem {P : Program} : ∀ {l : List (Nat × TI)}, z6D P l → ∀ p ∈ l, Y8 P p.1 p.2
 | p :: _, h, q, hq => by
  rcases List.mem_cons.1 hq with rfl | hq
  ·exact h.1
  ·exact z6D.mem h.2 q hq
 | [], _, _, hq => by cases hq
theorem zaB : z6D Tryz.prog tiL := ⟨zaH, zaG, zaF, zaE, zaD, zaC, z91, z90, z8Z, z8Y, z8X, z8W, z8V, z8U, z8T, z8S, z8R, z8Q, z8P, z8O, z8N, z8M, z8L, z8K, z6Z, z6Y, z6X, z6W, z6V, z6U, z6T, z6S, z6R, z6Q, z6P, z6O, z6N, trivial⟩
theorem zA : xZ Tryz.prog xX := by
 intro t i h
 unfold xX at h
 rw [Option.map_eq_some_iff] at h
 obtain ⟨p, h1, rfl⟩ := h
 have h2 := List.find?_some h1
 have h3 := zaB.mem p (List.mem_of_find?_eq_some h1)
 rw [beq_iff_eq.1 h2] at h3
 exact h3
theorem zga : xX 1 = some ⟨.other, 1, 8, some (.atom .nilFunc), false⟩ := rfl
theorem zg9 : xX 2 = some ⟨.int .i64, 1, 8, some (.atom (.int .i64 0)), false⟩ := rfl
theorem zg8 : xX 3 = some ⟨.int .i64, 1, 8, some (.atom (.int .i64 0)), false⟩ := rfl
theorem zg7 : xX 4 = some ⟨.bool, 1, 1, some (.atom (.bool false)), false⟩ := rfl
theorem zg6 : xX 5 = some ⟨.int .u8, 1, 1, some (.atom (.int .u8 0)), false⟩ := rfl
theorem zg5 : xX 9 = some ⟨.str, 1, 16, none, false⟩ := rfl
theorem zey : xX 25 = some ⟨.slice 65, 1, 24, some (.osl 1 true []), false⟩ := rfl
theorem zex : xX 27 = some ⟨.struct [(0, 1), (1, 1), (2, 1)], 3, 40, some (.agg [.atom (.int .i64 0), .atom (.int .i64 0), .osl 1 true []]), false⟩ := rfl
theorem zew : xX 29 = some ⟨.slice 77, 1, 24, some (.osl 1 true []), false⟩ := rfl
theorem zev : xX 30 = some ⟨.int .i64, 1, 8, some (.atom (.int .i64 0)), false⟩ := rfl
theorem zeu : xX 45 = some ⟨.slice 4, 1, 24, some (.osl 1 true []), false⟩ := rfl
theorem zet : xX 46 = some ⟨.slice 45, 1, 24, some (.osl 1 true []), false⟩ := rfl
theorem zes : xX 48 = some ⟨.struct [(0, 1), (1, 1)], 2, 48, some (.agg [.osl 1 true [], .osl 1 true []]), false⟩ := rfl
theorem zer : xX 60 = some ⟨.slice 5, 1, 24, some (.osl 1 true []), false⟩ := rfl
theorem zeq : xX 65 = some ⟨.slice 68, 1, 24, some (.osl 2 true []), false⟩ := rfl
theorem zep : xX 68 = some ⟨.struct [(0, 1), (1, 1)], 2, 16, some (.agg [.atom (.int .i64 0), .atom (.int .i64 0)]), true⟩ := rfl
theorem zeo : xX 77 = some ⟨.slice 3, 1, 24, some (.osl 1 true []), false⟩ := rfl
theorem zen : xX 82 = some ⟨.other, 1, 8, some (.atom .nilFunc), false⟩ := rfl
theorem zem : xX 83 = some ⟨.other, 1, 8, some (.atom .nilFunc), false⟩ := rfl
theorem zel : xX 84 = some ⟨.other, 1, 8, some (.atom .nilFunc), false⟩ := rfl
theorem zek : xX 85 = some ⟨.other, 1, 8, some (.atom .nilFunc), false⟩ := rfl
theorem zej : xX 86 = some ⟨.other, 1, 8, some (.atom .nilFunc), false⟩ := rfl
theorem zei : xX 87 = some ⟨.other, 1, 8, some (.atom .nilFunc), false⟩ := rfl
theorem zeh : xX 98 = some ⟨.other, 1, 8, some (.atom .nilFunc), false⟩ := rfl
theorem zc3 : xX 104 = some ⟨.other, 1, 8, some (.atom .nilFunc), false⟩ := rfl
theorem zc2 : xX 109 = some ⟨.other, 1, 8, none, false⟩ := rfl
theorem zc1 : xX 116 = some ⟨.other, 1, 8, some (.atom .nilFunc), false⟩ := rfl
theorem zc0 : xX 117 = some ⟨.other, 1, 8, some (.atom .nilFunc), false⟩ := rfl
theorem zbZ : xX 125 = some ⟨.other, 1, 8, some (.atom .nilFunc), false⟩ := rfl
theorem zbY : xX 128 = some ⟨.other, 1, 8, some (.atom .nilFunc), false⟩ := rfl
theorem zbX : xX 130 = some ⟨.other, 1, 8, some (.atom .nilFunc), false⟩ := rfl
theorem zbW : xX 131 = some ⟨.other, 1, 8, some (.atom .nilFunc), false⟩ := rfl
theorem zbV : xX 134 = some ⟨.struct [(0, 1), (1, 1), (2, 1)], 3, 24, some (.agg [.atom (.int .i64 0), .atom (.int .i64 0), .atom (.int .i64 0)]), true⟩ := rfl
theorem zbU : xX 138 = some ⟨.other, 1, 8, some (.atom .nilFunc), false⟩ := rfl
theorem zbT : xX 139 = some ⟨.slice 29, 1, 24, some (.osl 1 true []), false⟩ := rfl
theorem zbS : xX 148 = some ⟨.other, 1, 8, some (.atom .nilFunc), false⟩ := rfl
theorem zbR : xX 149 = some ⟨.slice 134, 1, 24, some (.osl 3 true []), false⟩ := rfl
attribute [go_sem] zga zg9 zg8 zg7 zg6 zg5 zey zex zew zev zeu zet zes zer zeq zep zeo zen zem zel zek zej zei zeh zc3 zc2 zc1 zc0 zbZ zbY zbX zbW zbV zbU zbT zbS zbR
end Go.Own

namespace Go.Own
structure zh where
 To : Int
 Out : Int
def yN (f0 : Int → A) (f1 : Int → A) (x : zh) : A := .agg [f0 x.To, f1 x.Out]
instance (f0 : Int → A) (f1 : Int → A) (g0 : Int → A) (g1 : Int → A) [h0 : JS f0 g0] [h1 : JS f1 g1] : JS (yN f0 f1) (yN g0 g1) := ⟨fun x => by simp [yN, A.loose, A.looses, h0.lo, h1.lo]⟩
instance (f0 : Int → A) (f1 : Int → A) (g0 : Int → A) (g1 : Int → A) [h0 : z6I f0 g0] [h1 : z6I f1 g1] : z6I (yN f0 f1) (yN g0 g1) := ⟨fun x => by simp [yN, A.live, A.lives, h0.live, h1.live], fun x => by simp [yN, A.shut, A.shuts, h0.sh, h1.sh]⟩
instance (f0 : Int → A) (f1 : Int → A) [h0 : jn f0] [h1 : jn f1] : jn (yN f0 f1) := ⟨fun x y h => by
 simp only [yN, A.agg.injEq, List.cons.injEq, and_true] at h
 cases x; cases y
 simp only [zh.mk.injEq]
 exact ⟨h0.inj _ _ h.1, h1.inj _ _ h.2⟩⟩
structure z6 where
 Inputs : Int
 Outputs : Int
 Rows : List (List zh)
def w7 (f0 : Int → A) (f1 : Int → A) (f2 : List (List zh) → A) (x : z6) : A := .agg [f0 x.Inputs, f1 x.Outputs, f2 x.Rows]
instance (f0 : Int → A) (f1 : Int → A) (f2 : List (List zh) → A) (g0 : Int → A) (g1 : Int → A) (g2 : List (List zh) → A) [h0 : JS f0 g0] [h1 : JS f1 g1] [h2 : JS f2 g2] : JS (w7 f0 f1 f2) (w7 g0 g1 g2) := ⟨fun x => by simp [w7, A.loose, A.looses, h0.lo, h1.lo, h2.lo]⟩
instance (f0 : Int → A) (f1 : Int → A) (f2 : List (List zh) → A) [h0 : jn f0] [h1 : jn f1] [h2 : jn f2] : jn (w7 f0 f1 f2) := ⟨fun x y h => by
 simp only [w7, A.agg.injEq, List.cons.injEq, and_true] at h
 cases x; cases y
 simp only [z6.mk.injEq]
 exact ⟨h0.inj _ _ h.1, h1.inj _ _ h.2.1, h2.inj _ _ h.2.2⟩⟩
structure ze where
 state_ : Int
 from_ : Int
 input_ : Int
def Zc (f0 : Int → A) (f1 : Int → A) (f2 : Int → A) (x : ze) : A := .agg [f0 x.state_, f1 x.from_, f2 x.input_]
instance (f0 : Int → A) (f1 : Int → A) (f2 : Int → A) [h0 : z4n f0] [h1 : z4n f1] [h2 : z4n f2] : z4n (Zc f0 f1 f2) := ⟨fun x => by simp [Zc, A.isD, A.areD, h0.isD, h1.isD, h2.isD]⟩
structure z8 where
 States : List Bool
 Edges : List (List Bool)
def yZ (f0 : List Bool → A) (f1 : List (List Bool) → A) (x : z8) : A := .agg [f0 x.States, f1 x.Edges]
instance (f0 : List Bool → A) (f1 : List (List Bool) → A) (g0 : List Bool → A) (g1 : List (List Bool) → A) [h0 : JS f0 g0] [h1 : JS f1 g1] : JS (yZ f0 f1) (yZ g0 g1) := ⟨fun x => by simp [yZ, A.loose, A.looses, h0.lo, h1.lo]⟩
instance (f0 : List Bool → A) (f1 : List (List Bool) → A) [h0 : jn f0] [h1 : jn f1] : jn (yZ f0 f1) := ⟨fun x y h => by
 simp only [yZ, A.agg.injEq, List.cons.injEq, and_true] at h
 cases x; cases y
 simp only [z8.mk.injEq]
 exact ⟨h0.inj _ _ h.1, h1.inj _ _ h.2⟩⟩
def ZV : Option Int :=
 some 0
def vT (m_ : z6) (s_ : Int) : Option (LR Int (Unit ⊕ Int)) :=
 bif decide (s_ < ((m_.Rows.length : Nat) : Int)) then (
  Option.bind (idx m_.Rows s_) fun Row_e =>
  bif decide (((Row_e.length : Nat) : Int) > 6) then (
   some (.done (.inr 1)))
  else (
   some (.next (w64 (s_ + 1)))))
 else (
  some (.done (.inl ())))
def kZ (m_ : z6) : Option Int :=
 bif decide (((m_.Rows.length : Nat) : Int) > 8) then (
  some 1)
 else (
  Option.bind (loop (fun s => vT m_ s) 0) fun t2 =>
  match t2 with
  | .inl p => ZV
  | .inr p => some p)
def ZQ (n_ : Int) : Option Int :=
 some n_
def vO (l_ : List (List Int)) (n_1 : Int) (i_ : Int) : Option (LR (Int × Int) Int) :=
 bif decide (i_ < ((l_.length : Nat) : Int)) then (
  Option.bind (idx l_ i_) fun l__e =>
  some (.next (w64 (n_1 + ((l__e.length : Nat) : Int)), w64 (i_ + 1))))
 else (
  some (.done n_1))
def ja (l_ : List (List Int)) : Option Int :=
 Option.bind (loop (fun s => vO l_ s.1 s.2) (0, 0)) fun t2 =>
 ZQ t2
def Xz (l_ : List (List Int)) : Option Int :=
 bif decide (((l_.length : Nat) : Int) > 60) then (
  some 1)
 else (
  Option.bind (ja l_) fun r_ =>
  bif decide (r_ > 600) then (
   some 1)
  else (
   some 0))
def ZT : Option Int :=
 some 0
def ZS (s_ : Int) : Option (LR Int (Unit ⊕ Int)) :=
 some (.next (w64 (s_ + 1)))
def uH (i_ : Int) : Option (LR Int (Unit ⊕ Int)) :=
 some (.next (w64 (i_ + 1)))
def uG (m_ : z6) (i_ : Int) (Row_e_e : zh) : Option (LR Int (Unit ⊕ Int)) :=
 bif decide (Row_e_e.To < 0) then (
  some (.done (.inr 1)))
 else (
  bif decide (Row_e_e.To ≥ ((m_.Rows.length : Nat) : Int)) then (
   some (.done (.inr 1)))
  else (
   bif decide (Row_e_e.Out < 0) then (
    some (.done (.inr 1)))
   else (
    bif decide (Row_e_e.Out ≥ m_.Outputs) then (
     some (.done (.inr 1)))
    else (
     uH i_))))
def wU (m_ : z6) (s_ : Int) (i_ : Int) : Option (LR Int (Unit ⊕ Int)) :=
 bif decide (i_ < m_.Inputs) then (
  Option.bind (idx m_.Rows s_) fun Row_e1 =>
  Option.bind (idx Row_e1 i_) fun Row_e_e =>
  bif Row_e_e.To == (-1) then (
   bif Row_e_e.Out == (-1) then (
    uH i_)
   else (
    uG m_ i_ Row_e_e))
  else (
   uG m_ i_ Row_e_e))
 else (
  some (.done (.inl ())))
def vR (m_ : z6) (s_ : Int) : Option (LR Int (Unit ⊕ Int)) :=
 bif decide (s_ < ((m_.Rows.length : Nat) : Int)) then (
  Option.bind (idx m_.Rows s_) fun Row_e =>
  bif ((Row_e.length : Nat) : Int) != m_.Inputs then (
   some (.done (.inr 1)))
  else (
   Option.bind (loop (fun s => wU m_ s_ s) 0) fun t4 =>
   match t4 with
   | .inl p => ZS s_
   | .inr p => some (.done (.inr p))))
 else (
  some (.done (.inl ())))
def kV (m_ : z6) : Option Int :=
 bif decide (m_.Inputs > 16) then (
  some 3)
 else (
  bif decide (m_.Outputs > 16) then (
   some 3)
  else (
   bif decide (((m_.Rows.length : Nat) : Int) > 64) then (
    some 3)
   else (
    bif decide (m_.Inputs < 1) then (
     some 1)
    else (
     bif decide (m_.Outputs < 1) then (
      some 1)
     else (
      bif ((m_.Rows.length : Nat) : Int) == 0 then (
       some 1)
      else (
       Option.bind (loop (fun s => vR m_ s) 0) fun t2 =>
       match t2 with
       | .inl p => ZT
       | .inr p => some p))))))
def kz : Option zh :=
 some (zh.mk (-1) (-1))
def qw (m_ : z6) (x_ : zh) : Option Bool :=
 Option.bind (kz) fun r_ =>
 bif (x_.To == r_.To) && ((x_.Out == r_.Out) && true) then (
  some true)
 else (
  bif decide (x_.To ≥ 0) then (
   bif decide (x_.To < ((m_.Rows.length : Nat) : Int)) then (
    bif decide (x_.Out ≥ 0) then (
     some (decide (x_.Out < m_.Outputs)))
    else (
     some false))
   else (
    some false))
  else (
   some false))
def uN (x_ : zh) (x1 : z6) : Option Bool :=
 Option.bind (qw x1 x_) fun r_ =>
 some (!r_)
def yw : Option Int :=
 some (-1)
def zB (s_ : List zh) (f_ : z6) (x8 : Int) : Option (LR Int (Unit ⊕ Int)) :=
 bif decide (x8 < ((s_.length : Nat) : Int)) then (
  Option.bind (idx s_ x8) fun s__e =>
  Option.bind (uN s__e f_) fun r_ =>
  bif r_ then (
   some (.done (.inr x8)))
  else (
   some (.next (w64 (x8 + 1)))))
 else (
  some (.done (.inl ())))
def yd (s_ : List zh) (f_ : z6) : Option Int :=
 Option.bind (loop (fun s => zB s_ f_ s) 0) fun t2 =>
 match t2 with
 | .inl p => yw
 | .inr p => some p
def zM (s_ : List zh) (f_ : z6) : Option Bool :=
 Option.bind (yd s_ f_) fun r_ =>
 some (decide (r_ ≥ 0))
def jb : Option Int :=
 some 0
def we (m_ : z6) (x36 : Int) : Option (LR Int (Unit ⊕ Int)) :=
 bif decide (x36 < ((m_.Rows.length : Nat) : Int)) then (
  Option.bind (idx m_.Rows x36) fun Row_e =>
  bif ((Row_e.length : Nat) : Int) != m_.Inputs then (
   some (.done (.inr 1)))
  else (
   Option.bind (zM Row_e m_) fun r_ =>
   bif r_ then (
    some (.done (.inr 1)))
   else (
    some (.next (w64 (x36 + 1))))))
 else (
  some (.done (.inl ())))
def wV (m_ : z6) : Option Int :=
 bif decide (m_.Inputs > 16) then (
  some 3)
 else (
  bif decide (m_.Outputs > 16) then (
   some 3)
  else (
   bif decide (((m_.Rows.length : Nat) : Int) > 64) then (
    some 3)
   else (
    bif decide (m_.Inputs < 1) then (
     some 1)
    else (
     bif decide (m_.Outputs < 1) then (
      some 1)
     else (
      bif decide (((m_.Rows.length : Nat) : Int) < 1) then (
       some 1)
      else (
       Option.bind (loop (fun s => we m_ s) 0) fun t2 =>
       match t2 with
       | .inl p => jb
       | .inr p => some p))))))
def yo (rc_ : Int → (List Bool) → z6 → Option (List Bool × z6)) (Row_e : List zh) (x1 : List Bool) (x2_Inputs : Int) (x2_Outputs : Int) (x2_Rows : List (List zh)) (x24 : Int) : Option (LR (List Bool × Int × Int × List (List zh) × Int) ((List Bool × z6))) :=
 bif decide (x24 < ((Row_e.length : Nat) : Int)) then (
  Option.bind (idx Row_e x24) fun Row_e_e =>
  Option.bind (rc_ Row_e_e.To x1 (z6.mk x2_Inputs x2_Outputs x2_Rows)) fun r_ =>
  some (.next (r_.1, r_.2.Inputs, r_.2.Outputs, r_.2.Rows, w64 (x24 + 1))))
 else (
  some (.done (x1, (z6.mk x2_Inputs x2_Outputs x2_Rows))))
def xv (rc_ : Int → (List Bool) → z6 → Option (List Bool × z6)) (s_ : Int) (y0 : List Bool) (y1 : z6) : Option (List Bool × z6) :=
 bif s_ == (-1) then (
  some (y0, y1))
 else (
  Option.bind (idx y0 s_) fun y_e =>
  bif y_e then (
   some (y0, y1))
  else (
   Option.bind (idx y0 s_) fun y_e1 =>
   Option.bind (idx y1.Rows s_) fun Row_e =>
   Option.bind (loop (fun s => yo rc_ Row_e s.1 s.2.1 s.2.2.1 s.2.2.2.1 s.2.2.2.2) ((y0.set s_.toNat true), y1.Inputs, y1.Outputs, y1.Rows, 0)) fun t1 =>
   some t1))
def zY (fu : Nat) : Int → (List Bool) → z6 → Option (List Bool × z6) := Nat.rec (motive := fun _ => Int → (List Bool) → z6 → Option (List Bool × z6)) (fun _ _ _ => none) (fun _ ih => xv ih) fu
def wT : Option Int :=
 some (-1)
def yf (s_ : List Bool) (v_ : Bool) (x8 : Int) : Option (LR Int (Unit ⊕ Int)) :=
 bif decide (x8 < ((s_.length : Nat) : Int)) then (
  Option.bind (idx s_ x8) fun s__e =>
  bif v_ == s__e then (
   some (.done (.inr x8)))
  else (
   some (.next (w64 (x8 + 1)))))
 else (
  some (.done (.inl ())))
def wv (s_ : List Bool) (v_ : Bool) : Option Int :=
 Option.bind (loop (fun s => yf s_ v_ s) 0) fun t2 =>
 match t2 with
 | .inl p => wT
 | .inr p => some p
def yP (s_ : List Bool) (v_ : Bool) : Option Bool :=
 Option.bind (wv s_ v_) fun r_ =>
 some (decide (r_ ≥ 0))
def xN (m_ : z6) : Option (Bool × Int) :=
 Option.bind (wV m_) fun r_ =>
 bif r_ != 0 then (
  some (false, r_))
 else (
  gd ((0 : Int) ≤ ((m_.Rows.length : Nat) : Int) ∧ (((m_.Rows.length : Nat) : Int) : Int) ≤ 4294967296) <|
  Option.bind (zY YO 0 (List.replicate ((m_.Rows.length : Nat) : Int).toNat false) m_) fun r_1 =>
  Option.bind (yP r_1.1 false) fun r_2 =>
  some (!r_2, 0))
def jp (m_ : z6) (from_ : Int) : Option (z6 × Int) :=
 some (m_, from_)
def yk {σ : Type} (x38 : Int) (seen2 : List Bool) (queue2 : List ze) : Option (LR (List Bool × List ze × Int) ((σ × List Bool × List ze))) :=
 some (.next (seen2, queue2, w64 (x38 + 1)))
def xw {σ : Type} (queue_e : ze) (yr : σ × Bool) (Row_e : List zh) (seen1 : List Bool) (queue1 : List ze) (x38 : Int) : Option (LR (List Bool × List ze × Int) ((σ × List Bool × List ze))) :=
 bif decide (x38 < ((Row_e.length : Nat) : Int)) then (
  Option.bind (idx Row_e x38) fun Row_e_e =>
  bif Row_e_e.To != (-1) then (
   Option.bind (idx seen1 Row_e_e.To) fun seen_e =>
   bif !seen_e then (
    Option.bind (idx seen1 Row_e_e.To) fun seen_e1 =>
    gd (queue1.length + ([(ze.mk Row_e_e.To queue_e.state_ x38)] : List ze).length ≤ 4294967296) <|
    yk x38 (seen1.set Row_e_e.To.toNat true) (queue1 ++ ([(ze.mk Row_e_e.To queue_e.state_ x38)] : List ze)))
   else (
    yk x38 seen1 queue1))
  else (
   yk x38 seen1 queue1))
 else (
  some (.done (yr.1, seen1, queue1)))
def wj {σ : Type} (x0 : z6) (yy : σ → ze → Option (σ × Bool)) (sg1 : σ) (seen : List Bool) (queue : List ze) : Option (LR (σ × List Bool × List ze) σ) :=
 bif decide (((queue.length : Nat) : Int) > 0) then (
  Option.bind (idx queue 0) fun queue_e =>
  gd ((0 : Int) ≤ 1 ∧ (1 : Int) ≤ ((queue.length : Nat) : Int)) <|
  Option.bind (yy sg1 queue_e) fun yr =>
  bif !yr.2 then (
   some (.done yr.1))
  else (
   Option.bind (idx x0.Rows queue_e.state_) fun Row_e =>
   Option.bind (loop (fun s => xw queue_e yr Row_e s.1 s.2.1 s.2.2) (seen, (queue.drop (1 : Int).toNat), 0)) fun t2 =>
   some (.next t2)))
 else (
  some (.done sg1))
def vE (x0 : z6) (x1 : Int) {σ : Type} (yy : σ → ze → Option (σ × Bool)) (sg : σ) : Option σ :=
 gd ((0 : Int) ≤ ((x0.Rows.length : Nat) : Int) ∧ (((x0.Rows.length : Nat) : Int) : Int) ≤ 4294967296) <|
 Option.bind (idx (List.replicate ((x0.Rows.length : Nat) : Int).toNat false) x1) fun u_e =>
 Option.bind (loop (fun s => wj x0 yy s.1 s.2.1 s.2.2) (sg, ((List.replicate ((x0.Rows.length : Nat) : Int).toNat false).set x1.toNat true), ([(ze.mk x1 (-1) (-1))] : List ze))) fun t1 =>
 some t1
def yx (s_ : List Int) : Option (List Int) :=
 gd (([] : List Int).length + s_.length ≤ 4294967296) <|
 some s_
def ym (s_ : List Int) : Option (List Int) :=
 gd ((0 : Int) ≤ 0 ∧ (0 : Int) ≤ ((s_.length : Nat) : Int) ∧ (((s_.length : Nat) : Int) : Int) ≤ ((s_.length : Nat) : Int) ∧ (((s_.length : Nat) : Int) : Int) ≤ ((s_.length : Nat) : Int)) <|
 some ((s_.drop 0).take (((s_.length : Nat) : Int).toNat - 0))
def jo (l_ : List (List Int)) (is : List Bool) : Option (List (List Int) × List Bool) :=
 some (l_, is)
def xy (l_1 : List (List Int)) (is1 : List Bool) (x20 : ze) : Option (LR (List (List Int) × List Bool) Empty) :=
 Option.bind (idx is1 x20.state_) fun is_e =>
 bif x20.from_ != (-1) then (
  Option.bind (idx l_1 x20.from_) fun l__e =>
  Option.bind (yx l__e) fun r_1 =>
  gd (r_1.length + ([x20.input_] : List Int).length ≤ 4294967296) <|
  Option.bind (ym (r_1 ++ ([x20.input_] : List Int))) fun r_2 =>
  Option.bind (idx l_1 x20.state_) fun l__e1 =>
  some (.next ((l_1.set x20.state_.toNat r_2), (is1.set x20.state_.toNat true))))
 else (
  some (.next (l_1, (is1.set x20.state_.toNat true))))
def kM (m_ : z6) (from_ : Int) : Option (List (List Int) × List Bool) :=
 gd ((0 : Int) ≤ ((m_.Rows.length : Nat) : Int) ∧ (((m_.Rows.length : Nat) : Int) : Int) ≤ 4294967296) <|
 gd ((0 : Int) ≤ ((m_.Rows.length : Nat) : Int) ∧ (((m_.Rows.length : Nat) : Int) : Int) ≤ 4294967296) <|
 Option.bind (jp m_ from_) fun r_ =>
 Option.bind (vE r_.1 r_.2 (yOf (fun s x => xy s.1 s.2 x)) (.next ((List.replicate ((m_.Rows.length : Nat) : Int).toNat ([] : List Int)), (List.replicate ((m_.Rows.length : Nat) : Int).toNat false)))) fun t2 =>
 match t2 with
 | .next (l_1, is1) => (
  jo l_1 is1)
 | .done z => nomatch z
def jy (m_ : z6) : Option (List (List Int) × List Bool × Int) :=
 Option.bind (wV m_) fun r_ =>
 bif r_ != 0 then (
  some (([] : List (List Int)), ([] : List Bool), r_))
 else (
  Option.bind (kM m_ 0) fun r_1 =>
  some (r_1.1, r_1.2, 0))
def kn (c_ : Int) (x1 : Int) : Option Bool :=
 bif decide (c_ < 0) then (
  some true)
 else (
  some (decide (c_ ≥ x1)))
def wn : Option Int :=
 some (-1)
def y4 (s_ : List Int) (f_ : Int) (x8 : Int) : Option (LR Int (Unit ⊕ Int)) :=
 bif decide (x8 < ((s_.length : Nat) : Int)) then (
  Option.bind (idx s_ x8) fun s__e =>
  Option.bind (kn s__e f_) fun r_ =>
  bif r_ then (
   some (.done (.inr x8)))
  else (
   some (.next (w64 (x8 + 1)))))
 else (
  some (.done (.inl ())))
def xL (s_ : List Int) (f_ : Int) : Option Int :=
 Option.bind (loop (fun s => y4 s_ f_ s) 0) fun t2 =>
 match t2 with
 | .inl p => wn
 | .inr p => some p
def x6 (s_ : List Int) (f_ : Int) : Option Bool :=
 Option.bind (xL s_ f_) fun r_ =>
 some (decide (r_ ≥ 0))
def qW (w_ : List Int) (inputs : Int) : Option Int :=
 bif decide (inputs > 16) then (
  some 3)
 else (
  bif decide (((w_.length : Nat) : Int) > 256) then (
   some 3)
  else (
   bif decide (inputs < 1) then (
    some 1)
   else (
    Option.bind (x6 w_ inputs) fun r_ =>
    bif r_ then (
     some 1)
    else (
     some 0))))
def ZG : Option Int :=
 some 0
def vM (l_ : List (List Int)) (inputs : Int) (x19 : Int) : Option (LR Int (Unit ⊕ Int)) :=
 bif decide (x19 < ((l_.length : Nat) : Int)) then (
  Option.bind (idx l_ x19) fun l__e =>
  Option.bind (qW l__e inputs) fun r_ =>
  bif r_ != 0 then (
   some (.done (.inr r_)))
  else (
   some (.next (w64 (x19 + 1)))))
 else (
  some (.done (.inl ())))
def j4 (l_ : List (List Int)) (inputs : Int) : Option Int :=
 bif decide (inputs > 16) then (
  some 3)
 else (
  bif decide (((l_.length : Nat) : Int) > 4096) then (
   some 3)
  else (
   bif decide (inputs < 1) then (
    some 1)
   else (
    Option.bind (loop (fun s => vM l_ inputs s) 0) fun t2 =>
    match t2 with
    | .inl p => ZG
    | .inr p => some p)))
def wJ (s_ : List (List Int)) : Option (List (List Int)) :=
 gd (([] : List (List Int)).length + s_.length ≤ 4294967296) <|
 some s_
def qB (x_ : Int) : Option Bool :=
 some (x_ != x_)
def vo (x_ : Int) (y_ : Int) : Option Int :=
 Option.bind (qB x_) fun r_ =>
 Option.bind (qB y_) fun r_1 =>
 bif r_ then (
  bif r_1 then (
   some 0)
  else (
   some (-1)))
 else (
  bif r_1 then (
   some 1)
  else (
   bif decide (x_ < y_) then (
    some (-1))
   else (
    bif decide (x_ > y_) then (
     some 1)
    else (
     some 0))))
def xz (s1 : List Int) (s2 : List Int) : Option Int :=
 bif decide (((s1.length : Nat) : Int) < ((s2.length : Nat) : Int)) then (
  some (-1))
 else (
  some 0)
def yg (s1 : List Int) (s2 : List Int) (x11 : Int) : Option (LR Int (Unit ⊕ Int)) :=
 bif decide (x11 < ((s1.length : Nat) : Int)) then (
  Option.bind (idx s1 x11) fun s_e =>
  bif decide (x11 ≥ ((s2.length : Nat) : Int)) then (
   some (.done (.inr 1)))
  else (
   Option.bind (idx s2 x11) fun s_e1 =>
   Option.bind (vo s_e s_e1) fun r_ =>
   bif r_ != 0 then (
    some (.done (.inr r_)))
   else (
    some (.next (w64 (x11 + 1))))))
 else (
  some (.done (.inl ())))
def xu (s1 : List Int) (s2 : List Int) : Option Int :=
 Option.bind (loop (fun s => yg s1 s2 s) 0) fun t2 =>
 match t2 with
 | .inl p => xz s1 s2
 | .inr p => some p
def kA : Option Int :=
 some 0
def ux (vals : List Int) (x8 : Int) : Option (LR Int (Unit ⊕ Int)) :=
 bif decide (x8 < ((vals.length : Nat) : Int)) then (
  Option.bind (idx vals x8) fun val_e =>
  bif val_e != 0 then (
   some (.done (.inr val_e)))
  else (
   some (.next (w64 (x8 + 1)))))
 else (
  some (.done (.inl ())))
def Yk (vals : List Int) : Option Int :=
 Option.bind (loop (fun s => ux vals s) 0) fun t2 =>
 match t2 with
 | .inl p => kA
 | .inr p => some p
def yR (a_ : List Int) (b_ : List Int) : Option Int :=
 Option.bind (vo ((a_.length : Nat) : Int) ((b_.length : Nat) : Int)) fun r_ =>
 Option.bind (xu a_ b_) fun r_1 =>
 Option.bind (Yk ([r_, r_1])) fun r_2 =>
 some r_2
def vL (a_ : List Int) (b_ : List Int) : Option Bool :=
 Option.bind (yR a_ b_) fun r_ =>
 some (r_ == 0)
def xG (s_ : List (List Int)) : Option (List (List Int)) :=
 some s_
def yD (k_ : Int) : Option (LR Int (Unit ⊕ List (List Int))) :=
 some (.next (w64 (k_ + 1)))
def zS (s_1 : List (List Int)) (k_1 : Int) : Option (LR Int (Unit ⊕ List (List Int))) :=
 gd ((0 : Int) ≤ k_1 ∧ (k_1 : Int) ≤ ((s_1.length : Nat) : Int)) <|
 gd ((0 : Int) ≤ k_1 ∧ (k_1 : Int) ≤ ((s_1.length : Nat) : Int)) <|
 gd ((0 : Int) ≤ k_1 ∧ (k_1 : Int) ≤ (((s_1.take k_1.toNat ++ List.replicate (s_1.length - k_1.toNat) []).length : Nat) : Int)) <|
 some (.done (.inr ((s_1.take k_1.toNat ++ List.replicate (s_1.length - k_1.toNat) []).take k_1.toNat)))
def zR (k2 : Int) (s_3 : List (List Int)) (k_3 : Int) : Option (LR (List (List Int) × Int × Int) ((List (List Int) × Int))) :=
 some (.next (s_3, k_3, w64 (k2 + 1)))
def zQ (k_ : Int) (s_2 : List (List Int)) (k_2 : Int) (k2 : Int) : Option (LR (List (List Int) × Int × Int) ((List (List Int) × Int))) :=
 bif decide (k2 < ((s_2.length - k_.toNat : Nat) : Int)) then (
  gd ((0 : Int) ≤ k_ ∧ (0 : Int) ≤ k2) <|
  Option.bind (idx s_2 (k_ + k2)) fun s__e2 =>
  gd ((0 : Int) ≤ k_ ∧ (0 : Int) ≤ w64 (k2 - 1)) <|
  Option.bind (idx s_2 (k_ + (w64 (k2 - 1)))) fun s__e3 =>
  Option.bind (vL s__e2 s__e3) fun r_1 =>
  bif !r_1 then (
   gd ((0 : Int) ≤ k_ ∧ (0 : Int) ≤ k2) <|
   Option.bind (idx s_2 (k_ + k2)) fun s__e4 =>
   Option.bind (idx s_2 k_2) fun s__e5 =>
   zR k2 (s_2.set k_2.toNat s__e4) (w64 (k_2 + 1)))
  else (
   zR k2 s_2 k_2))
 else (
  some (.done (s_2, k_2)))
def y8 (s_ : List (List Int)) (k_ : Int) : Option (LR Int (Unit ⊕ List (List Int))) :=
 bif decide (k_ < ((s_.length : Nat) : Int)) then (
  Option.bind (idx s_ k_) fun s__e =>
  Option.bind (idx s_ (w64 (k_ - 1))) fun s__e1 =>
  Option.bind (vL s__e s__e1) fun r_ =>
  bif r_ then (
   gd ((0 : Int) ≤ k_ ∧ (k_ : Int) ≤ ((s_.length : Nat) : Int)) <|
   Option.bind (loop (fun s => zQ k_ s.1 s.2.1 s.2.2) (s_, k_, 1)) fun t5 =>
   zS t5.1 t5.2)
  else (
   yD k_))
 else (
  some (.done (.inl ())))
def yl (s_ : List (List Int)) (eq : Unit) : Option (List (List Int)) :=
 bif decide (((s_.length : Nat) : Int) < 2) then (
  some s_)
 else (
  Option.bind (loop (fun s => y8 s_ s) 1) fun t2 =>
  match t2 with
  | .inl p => xG s_
  | .inr p => some p)
def x9 (s_ : List (List Int)) : Option (List (List Int)) :=
 some s_
def ZF (n_ : Int) : Option Int :=
 some n_
def vK (l_ : List (List Int)) (n_1 : Int) (x7 : Int) : Option (LR (Int × Int) Int) :=
 bif decide (x7 < ((l_.length : Nat) : Int)) then (
  Option.bind (idx l_ x7) fun l__e =>
  some (.next (w64 (n_1 + ((l__e.length : Nat) : Int)), w64 (x7 + 1))))
 else (
  some (.done n_1))
def qZ (l_ : List (List Int)) : Option Int :=
 Option.bind (loop (fun s => vK l_ s.1 s.2) (0, 0)) fun t2 =>
 ZF t2
def qj (out : List (List Int × Bool)) : Option (List (List Int) × Int) :=
 gd (∀ q ∈ out, q.2 = true) <|
 some ((out.map (·.1)), 0)
def xA (r_2 : List (List Int)) (out2 : List (List Int × Bool)) (x24 : Int) : Option (LR ((List (List Int × Bool)) × Int) ((List (List Int × Bool)))) :=
 bif decide (x24 < ((r_2.length - (0 : Int).toNat : Nat) : Int)) then (
  gd ((0 : Int) ≤ 0 ∧ (0 : Int) ≤ x24) <|
  Option.bind (idx out2 (0 + x24)) fun out_e =>
  Option.bind (yx out_e.1) fun r_4 =>
  Option.bind (ym r_4) fun r_5 =>
  Option.bind (idx out2 x24) fun out_e1 =>
  some (.next ((out2.set x24.toNat (r_5, true)), w64 (x24 + 1))))
 else (
  some (.done out2))
def xg (l_ : List (List Int)) : Option (List (List Int) × Int) :=
 Option.bind (wJ l_) fun r_ =>
 Option.bind (z4K (fun x y => yR x y) r_) fun sorted =>
 Option.bind (yl sorted ()) fun r_1 =>
 Option.bind (x9 r_1) fun r_2 =>
 bif decide (((r_2.length : Nat) : Int) > 4096) then (
  some (([] : List (List Int)), 3))
 else (
  Option.bind (qZ r_2) fun r_3 =>
  bif decide (r_3 > 65536) then (
   some (([] : List (List Int)), 3))
  else (
   Option.bind (loop (fun s => xA r_2 s.1 s.2) ((r_2.map fun q => (q, false)), 0)) fun t2 =>
   qj t2))
def XM (l_ : List (List Int)) (inputs : Int) : Option (List (List Int) × Int) :=
 Option.bind (j4 l_ inputs) fun r_ =>
 bif r_ != 0 then (
  some (([] : List (List Int)), r_))
 else (
  Option.bind (xg l_) fun r_1 =>
  some (r_1.1, r_1.2))
def w8 (m_ : z6) : Option (List (List Int) × Int) :=
 Option.bind (xN m_) fun r_ =>
 bif r_.2 != 0 then (
  some (([] : List (List Int)), r_.2))
 else (
  bif !r_.1 then (
   some (([] : List (List Int)), 11))
  else (
   Option.bind (jy m_) fun r_1 =>
   bif r_1.2.2 != 0 then (
    some (([] : List (List Int)), r_1.2.2))
   else (
    Option.bind (XM r_1.1 m_.Inputs) fun r_2 =>
    some (r_2.1, r_2.2))))
def Zy (k_ : Int) (out1 : List (List Int)) (level1 : List (List Int)) (n_1 : Int) (x45 : Int) (x46 : Bool) (x58 : Bool) : Option (LR (List (List Int) × List (List Int) × Int × Int) ((List (List Int) × Int))) :=
 some (.next (out1, level1, n_1, w64 (k_ + 1)))
def Zx (k_ : Int) (out2 : List (List Int)) (n_2 : Int) (x581 : Bool) (next : List (List Int)) : Option (LR (List (List Int) × List (List Int) × Int × Int) ((List (List Int) × Int))) :=
 Zy k_ out2 next n_2 n_2 (decide (n_2 > 65536)) x581
def Zw (x69 : Int) (next2 : List (List Int)) : Option (LR (List (List Int) × Int) (List (List Int))) :=
 some (.next (next2, w64 (x69 + 1)))
def wF (inputs : Int) (level_e : List Int) (next3 : List (List Int)) (x74 : Int) : Option (LR (List (List Int) × Int) (List (List Int))) :=
 bif decide (x74 < inputs) then (
  Option.bind (ym level_e) fun r_1 =>
  gd (r_1.length + ([x74] : List Int).length ≤ 4294967296) <|
  gd (next3.length + ([(r_1 ++ ([x74] : List Int))] : List (List Int)).length ≤ 4294967296) <|
  some (.next ((next3 ++ ([(r_1 ++ ([x74] : List Int))] : List (List Int))), w64 (x74 + 1))))
 else (
  some (.done next3))
def wG (inputs : Int) (level : List (List Int)) (next1 : List (List Int)) (x69 : Int) : Option (LR (List (List Int) × Int) (List (List Int))) :=
 bif decide (x69 < ((level.length : Nat) : Int)) then (
  Option.bind (idx level x69) fun level_e =>
  Option.bind (loop (fun s => wF inputs level_e s.1 s.2) (next1, 0)) fun t8 =>
  Zw x69 t8)
 else (
  some (.done next1))
def uZ (inputs : Int) (to : Int) (level : List (List Int)) (k_ : Int) (out2 : List (List Int)) (n_2 : Int) (x581 : Bool) : Option (LR (List (List Int) × List (List Int) × Int × Int) ((List (List Int) × Int))) :=
 bif k_ == to then (
  Option.bind (xg out2) fun r_ =>
  some (.done (r_.1, r_.2)))
 else (
  Option.bind (loop (fun s => wG inputs level s.1 s.2) (([] : List (List Int)), 0)) fun t6 =>
  Zx k_ out2 n_2 x581 t6)
def q9 (inputs : Int) (to : Int) (level : List (List Int)) (k_ : Int) (out2 : List (List Int)) (n_2 : Int) : Option (LR (List (List Int) × List (List Int) × Int × Int) ((List (List Int) × Int))) :=
 bif decide (((out2.length : Nat) : Int) > 4096) then (
  some (.done (([] : List (List Int)), 3)))
 else (
  bif decide (n_2 > 65536) then (
   some (.done (([] : List (List Int)), 3)))
  else (
   bif decide (k_ < to) then (
    bif decide ((w64 (((level.length : Nat) : Int) * inputs)) > 4096) then (
     some (.done (([] : List (List Int)), 3)))
    else (
     uZ inputs to level k_ out2 n_2 (decide ((w64 (((level.length : Nat) : Int) * inputs)) > 4096))))
   else (
    uZ inputs to level k_ out2 n_2 false)))
def vz (inputs : Int) (from_ : Int) (to : Int) (out : List (List Int)) (level : List (List Int)) (n_ : Int) (k_ : Int) : Option (LR (List (List Int) × List (List Int) × Int × Int) ((List (List Int) × Int))) :=
 bif decide (k_ ≥ from_) then (
  gd (out.length + level.length ≤ 4294967296) <|
  q9 inputs to level k_ (out ++ level) (w64 (n_ + (w64 (k_ * ((level.length : Nat) : Int))))))
 else (
  q9 inputs to level k_ out n_)
def Yd (inputs : Int) (from_ : Int) (to : Int) : Option (List (List Int) × Int) :=
 bif decide (inputs > 16) then (
  some (([] : List (List Int)), 3))
 else (
  bif decide (inputs < 1) then (
   some (([] : List (List Int)), 1))
  else (
   bif decide (to < 0) then (
    some (([] : List (List Int)), 1))
   else (
    bif decide (to > 256) then (
     some (([] : List (List Int)), 3))
    else (
     Option.bind (loop (fun s => vz inputs from_ to s.1 s.2.1 s.2.2.1 s.2.2.2) (([] : List (List Int)), ([[]] : List (List Int)), 0, 0)) fun t1 =>
     some t1))))
def Ye (inputs : Int) (k_ : Int) : Option (List (List Int) × Int) :=
 Option.bind (Yd inputs 0 k_) fun r_ =>
 some (r_.1, r_.2)
def jq : Option Bool :=
 some true
def vN (l_ : List (List Int)) (i_ : Int) : Option (LR Int (Unit ⊕ Bool)) :=
 bif decide (i_ < ((l_.length : Nat) : Int)) then (
  Option.bind (idx l_ (w64 (i_ - 1))) fun l__e =>
  Option.bind (idx l_ i_) fun l__e1 =>
  Option.bind (yR l__e l__e1) fun r_ =>
  bif decide (r_ ≥ 0) then (
   some (.done (.inr false)))
  else (
   some (.next (w64 (i_ + 1)))))
 else (
  some (.done (.inl ())))
def kO (l_ : List (List Int)) : Option Bool :=
 Option.bind (loop (fun s => vN l_ s) 1) fun t2 =>
 match t2 with
 | .inl p => jq
 | .inr p => some p
def j5 (l_ : List (List Int)) (inputs : Int) : Option Int :=
 Option.bind (j4 l_ inputs) fun r_ =>
 bif r_ != 0 then (
  some r_)
 else (
  Option.bind (kO l_) fun r_1 =>
  bif !r_1 then (
   some 1)
  else (
   Option.bind (qZ l_) fun r_2 =>
   bif decide (r_2 > 65536) then (
    some 3)
   else (
    some 0)))
def kq : Option Int :=
 some 0
def uk (inputs : Int) (l_ : List (List (List Int))) (x10 : Int) : Option (LR Int (Unit ⊕ Int)) :=
 bif decide (x10 < ((l_.length : Nat) : Int)) then (
  Option.bind (idx l_ x10) fun l__e =>
  Option.bind (j5 l__e inputs) fun r_ =>
  bif r_ != 0 then (
   some (.done (.inr r_)))
  else (
   some (.next (w64 (x10 + 1)))))
 else (
  some (.done (.inl ())))
def Yc (inputs : Int) (l_ : List (List (List Int))) : Option Int :=
 Option.bind (loop (fun s => uk inputs l_ s) 0) fun t2 =>
 match t2 with
 | .inl p => kq
 | .inr p => some p
def Xl (b_ : List Int) : Option (List UInt8) :=
 some (u8s b_)
def vw (w_ : List Int) (b_1 : List Int) (x11 : Int) : Option (LR (List Int × Int) (List Int)) :=
 bif decide (x11 < ((w_.length : Nat) : Int)) then (
  Option.bind (idx w_ x11) fun w__e =>
  Option.bind (idx b_1 x11) fun b__e =>
  some (.next ((b_1.set x11.toNat (IntKind.u8.wrap (w__e))), w64 (x11 + 1))))
 else (
  some (.done b_1))
def Xm (w_ : List Int) : Option (List UInt8) :=
 gd ((0 : Int) ≤ ((w_.length : Nat) : Int) ∧ (((w_.length : Nat) : Int) : Int) ≤ 4294967296) <|
 Option.bind (loop (fun s => vw w_ s.1 s.2) ((List.replicate ((w_.length : Nat) : Int).toNat (0 : Int)), 0)) fun t2 =>
 Xl t2
def u7 (out : List (List Int)) : Option (List (List Int) × Int) :=
 Option.bind (xg out) fun r_1 =>
 some (r_1.1, r_1.2)
def u6 (x29 : Int) (seen1 : List ((List UInt8) × Bool)) (n_1 : Int) (out2 : List (List Int)) : Option (LR ((List ((List UInt8) × Bool)) × Int × List (List Int) × Int) (List (List Int) ⊕ (List (List Int) × Int))) :=
 some (.next (seen1, n_1, out2, w64 (x29 + 1)))
def ve (x35 : Int) (seen3 : List ((List UInt8) × Bool)) (n_3 : Int) (out4 : List (List Int)) : Option (LR ((List ((List UInt8) × Bool)) × Int × List (List Int) × Int) (((List ((List UInt8) × Bool)) × Int × List (List Int)) ⊕ (List (List Int) × Int))) :=
 bif decide (((out4.length : Nat) : Int) > 4096) then (
  some (.done (.inr (([] : List (List Int)), 3))))
 else (
  bif decide (n_3 > 65536) then (
   some (.done (.inr (([] : List (List Int)), 3))))
  else (
   some (.next (seen3, n_3, out4, w64 (x35 + 1)))))
def vd (b_ : List (List Int)) (a__e : List Int) (seen2 : List ((List UInt8) × Bool)) (n_2 : Int) (out3 : List (List Int)) (x35 : Int) : Option (LR ((List ((List UInt8) × Bool)) × Int × List (List Int) × Int) (((List ((List UInt8) × Bool)) × Int × List (List Int)) ⊕ (List (List Int) × Int))) :=
 bif decide (x35 < ((b_.length : Nat) : Int)) then (
  Option.bind (idx b_ x35) fun b__e =>
  Option.bind (ym a__e) fun r_2 =>
  gd (r_2.length + b__e.length ≤ 4294967296) <|
  bif decide ((((r_2 ++ b__e).length : Nat) : Int) > 256) then (
   some (.done (.inr (([] : List (List Int)), 3))))
  else (
   Option.bind (Xm (r_2 ++ b__e)) fun r_3 =>
   Option.bind (some ((Km seen2 r_3).getD false)) fun val =>
   bif !val then (
    gd (out3.length + ([(r_2 ++ b__e)] : List (List Int)).length ≤ 4294967296) <|
    ve x35 (z3m seen2 r_3 true) (w64 (n_2 + (((r_2 ++ b__e).length : Nat) : Int))) (out3 ++ ([(r_2 ++ b__e)] : List (List Int))))
   else (
    ve x35 seen2 n_2 out3)))
 else (
  some (.done (.inl (seen2, n_2, out3))))
def u4 (a_ : List (List Int)) (b_ : List (List Int)) (seen : List ((List UInt8) × Bool)) (n_ : Int) (out1 : List (List Int)) (x29 : Int) : Option (LR ((List ((List UInt8) × Bool)) × Int × List (List Int) × Int) (List (List Int) ⊕ (List (List Int) × Int))) :=
 bif decide (x29 < ((a_.length : Nat) : Int)) then (
  Option.bind (idx a_ x29) fun a__e =>
  Option.bind (loop (fun s => vd b_ a__e s.1 s.2.1 s.2.2.1 s.2.2.2) (seen, n_, out1, 0)) fun t4 =>
  match t4 with
  | .inl p => u6 x29 p.1 p.2.1 p.2.2
  | .inr p => some (.done (.inr p)))
 else (
  some (.done (.inl out1)))
def qa (a_ : List (List Int)) (b_ : List (List Int)) (inputs : Int) : Option (List (List Int) × Int) :=
 Option.bind (Yc inputs ([a_, b_])) fun r_ =>
 bif r_ != 0 then (
  some (([] : List (List Int)), r_))
 else (
  Option.bind (loop (fun s => u4 a_ b_ s.1 s.2.1 s.2.2.1 s.2.2.2) (([] : List ((List UInt8) × Bool)), 0, ([] : List (List Int)), 0)) fun t2 =>
  match t2 with
  | .inl p => u7 p
  | .inr p => some p)
def yQ (m_ : z6) (k_ : Int) : Option (List (List Int) × Int) :=
 Option.bind (w8 m_) fun r_ =>
 bif r_.2 != 0 then (
  some (([] : List (List Int)), r_.2))
 else (
  bif decide (k_ < 0) then (
   some (([] : List (List Int)), 1))
  else (
   Option.bind (Ye m_.Inputs k_) fun r_1 =>
   bif r_1.2 != 0 then (
    some (([] : List (List Int)), r_1.2))
   else (
    Option.bind (qa r_.1 r_1.1 m_.Inputs) fun r_2 =>
    some (r_2.1, r_2.2))))
def yH (m_ : z6) : Option (List (List Int) × Int) :=
 Option.bind (yQ m_ 1) fun r_ =>
 some (r_.1, r_.2)
def kJ (w_ : List Int) : Option Int :=
 bif decide (((w_.length : Nat) : Int) > 256) then (
  some 3)
 else (
  some 0)
def jT : Option Int :=
 some 0
def wD (w_ : List Int) (inputs : Int) (i_ : Int) : Option (LR Int (Unit ⊕ Int)) :=
 bif decide (i_ < ((w_.length : Nat) : Int)) then (
  Option.bind (idx w_ i_) fun w__e =>
  bif decide (w__e < 0) then (
   some (.done (.inr 1)))
  else (
   Option.bind (idx w_ i_) fun w__e1 =>
   bif decide (w__e1 ≥ inputs) then (
    some (.done (.inr 1)))
   else (
    some (.next (w64 (i_ + 1))))))
 else (
  some (.done (.inl ())))
def qr (w_ : List Int) (inputs : Int) : Option Int :=
 Option.bind (loop (fun s => wD w_ inputs s) 0) fun t2 =>
 match t2 with
 | .inl p => jT
 | .inr p => some p
def ZR : Option Int :=
 some 0
def vP (l_ : List (List Int)) (inputs : Int) (i_ : Int) : Option (LR Int (Unit ⊕ Int)) :=
 bif decide (i_ < ((l_.length : Nat) : Int)) then (
  Option.bind (idx l_ i_) fun l__e =>
  Option.bind (kJ l__e) fun r_ =>
  bif r_ != 0 then (
   some (.done (.inr r_)))
  else (
   Option.bind (idx l_ i_) fun l__e1 =>
   Option.bind (qr l__e1 inputs) fun r_1 =>
   bif r_1 != 0 then (
    some (.done (.inr r_1)))
   else (
    some (.next (w64 (i_ + 1))))))
 else (
  some (.done (.inl ())))
def kT (l_ : List (List Int)) (inputs : Int) : Option Int :=
 bif decide (inputs > 16) then (
  some 3)
 else (
  bif decide (((l_.length : Nat) : Int) > 4096) then (
   some 3)
  else (
   bif decide (inputs < 1) then (
    some 1)
   else (
    Option.bind (loop (fun s => vP l_ inputs s) 0) fun t2 =>
    match t2 with
    | .inl p => ZR
    | .inr p => some p)))
def jU : Option Int :=
 some 0
def vJ (a_ : List Int) (b_ : List Int) (i_ : Int) : Option (LR Int (Unit ⊕ Int)) :=
 bif decide (i_ < ((a_.length : Nat) : Int)) then (
  Option.bind (idx a_ i_) fun a__e =>
  Option.bind (idx b_ i_) fun b__e =>
  bif decide (a__e < b__e) then (
   some (.done (.inr (-1))))
  else (
   Option.bind (idx a_ i_) fun a__e1 =>
   Option.bind (idx b_ i_) fun b__e1 =>
   bif decide (a__e1 > b__e1) then (
    some (.done (.inr 1)))
   else (
    some (.next (w64 (i_ + 1))))))
 else (
  some (.done (.inl ())))
def ur (a_ : List Int) (b_ : List Int) : Option Int :=
 bif ((a_.length : Nat) : Int) != ((b_.length : Nat) : Int) then (
  bif decide (((a_.length : Nat) : Int) < ((b_.length : Nat) : Int)) then (
   some (-1))
  else (
   some 1))
 else (
  Option.bind (loop (fun s => vJ a_ b_ s) 0) fun t2 =>
  match t2 with
  | .inl p => jU
  | .inr p => some p)
def jw (l_ : List (List Int)) : Option Int :=
 Option.bind (ja l_) fun r_1 =>
 bif decide (r_1 > 65536) then (
  some 3)
 else (
  some 0)
def vQ (l_ : List (List Int)) (i_ : Int) : Option (LR Int (Unit ⊕ Int)) :=
 bif decide (i_ < ((l_.length : Nat) : Int)) then (
  Option.bind (idx l_ (w64 (i_ - 1))) fun l__e =>
  Option.bind (idx l_ i_) fun l__e1 =>
  Option.bind (ur l__e l__e1) fun r_2 =>
  bif decide (r_2 ≥ 0) then (
   some (.done (.inr 1)))
  else (
   some (.next (w64 (i_ + 1)))))
 else (
  some (.done (.inl ())))
def kU (l_ : List (List Int)) (inputs : Int) : Option Int :=
 Option.bind (kT l_ inputs) fun r_ =>
 bif r_ != 0 then (
  some r_)
 else (
  Option.bind (loop (fun s => vQ l_ s) 1) fun t2 =>
  match t2 with
  | .inl p => jw l_
  | .inr p => some p)
def xh (m_ : z6) (l_ : List (List Int)) : Option Int :=
 Option.bind (wV m_) fun r_ =>
 bif r_ != 0 then (
  some r_)
 else (
  Option.bind (j5 l_ m_.Inputs) fun r_1 =>
  some r_1)
def Zd (m_ : z6) (c_Edges : List (List Bool)) : Option z8 :=
 some (z8.mk (List.replicate ((m_.Rows.length : Nat) : Int).toNat false) c_Edges)
def wo (m_ : z6) (c_Edges1 : List (List Bool)) (x17 : Int) : Option (LR (List (List Bool) × Int) (List (List Bool))) :=
 bif decide (x17 < ((m_.Rows.length : Nat) : Int)) then (
  gd ((0 : Int) ≤ m_.Inputs ∧ (m_.Inputs : Int) ≤ 4294967296) <|
  Option.bind (idx c_Edges1 x17) fun c_Edge_e =>
  some (.next ((c_Edges1.set x17.toNat (List.replicate m_.Inputs.toNat false)), w64 (x17 + 1))))
 else (
  some (.done c_Edges1))
def qd (m_ : z6) : Option z8 :=
 gd ((0 : Int) ≤ ((m_.Rows.length : Nat) : Int) ∧ (((m_.Rows.length : Nat) : Int) : Int) ≤ 4294967296) <|
 gd ((0 : Int) ≤ ((m_.Rows.length : Nat) : Int) ∧ (((m_.Rows.length : Nat) : Int) : Int) ≤ 4294967296) <|
 Option.bind (loop (fun s => wo m_ s.1 s.2) ((List.replicate ((m_.Rows.length : Nat) : Int).toNat ([] : List Bool)), 0)) fun t2 =>
 Zd m_ t2
def wW {σ : Type} (yy : σ → (Int × Int) → Option σ) (m_ : z6) (w_ : List Int) (sg2 : σ) (s_ : Int) (x14 : Int) : Option (LR (σ × Int × Int) σ) :=
 bif decide (x14 < ((w_.length : Nat) : Int)) then (
  Option.bind (idx w_ x14) fun w__e =>
  Option.bind (idx m_.Rows s_) fun Row_e =>
  Option.bind (idx Row_e w__e) fun Row_e_e =>
  bif Row_e_e.To == (-1) then (
   some (.done sg2))
  else (
   Option.bind (yy sg2 (Row_e_e.To, w64 (x14 + 1))) fun sg3 =>
   some (.next (sg3, Row_e_e.To, w64 (x14 + 1)))))
 else (
  some (.done sg2))
def wX (m_ : z6) (w_ : List Int) {σ : Type} (yy : σ → (Int × Int) → Option σ) (sg : σ) : Option σ :=
 Option.bind (yy sg (0, 0)) fun sg1 =>
 Option.bind (loop (fun s => wW yy m_ w_ s.1 s.2.1 s.2.2) (sg1, 0, 0)) fun t1 =>
 some t1
def xV (x1 : List Int) (x2 : z6) (s_ : Int) (k_ : Int) (y0 : z8) : Option z8 :=
 Option.bind (idx y0.States s_) fun State_e =>
 bif decide (k_ < ((x1.length : Nat) : Int)) then (
  Option.bind (idx x2.Rows s_) fun Row_e =>
  Option.bind (idx x1 k_) fun x_e =>
  Option.bind (idx Row_e x_e) fun Row_e_e =>
  bif Row_e_e.To != (-1) then (
   Option.bind (idx y0.Edges s_) fun Edge_e =>
   Option.bind (idx x1 k_) fun x_e1 =>
   Option.bind (idx Edge_e x_e1) fun Edge_e_e =>
   some (z8.mk (y0.States.set s_.toNat true) (y0.Edges.set s_.toNat (Edge_e.set x_e1.toNat true))))
  else (
   some (z8.mk (y0.States.set s_.toNat true) y0.Edges)))
 else (
  some (z8.mk (y0.States.set s_.toNat true) y0.Edges))
def jh (c_States : List Bool) (c_Edges : List (List Bool)) : Option (z8 × Int) :=
 some ((z8.mk c_States c_Edges), 0)
def wg (m_ : z6) (l_ : List (List Int)) (c_States1 : List Bool) (c_Edges1 : List (List Bool)) (x21 : Int) : Option (LR (List Bool × List (List Bool) × Int) ((List Bool × List (List Bool)))) :=
 bif decide (x21 < ((l_.length : Nat) : Int)) then (
  Option.bind (idx l_ x21) fun l__e =>
  Option.bind (wX m_ l__e (fun s x => xV l__e m_ x.1 x.2 s) (z8.mk c_States1 c_Edges1)) fun r_2 =>
  some (.next (r_2.States, r_2.Edges, w64 (x21 + 1))))
 else (
  some (.done (c_States1, c_Edges1)))
def wc (m_ : z6) (l_ : List (List Int)) : Option (z8 × Int) :=
 Option.bind (xh m_ l_) fun r_ =>
 bif r_ != 0 then (
  some ((z8.mk [] []), r_))
 else (
  Option.bind (qd m_) fun r_1 =>
  Option.bind (loop (fun s => wg m_ l_ s.1 s.2.1 s.2.2) (r_1.States, r_1.Edges, 0)) fun t2 =>
  jh t2.1 t2.2)
def uw (x0 : List Int) (s_ : Int) (k_ : Int) (y1 : z8) : Option z8 :=
 bif k_ == ((x0.length : Nat) : Int) then (
  Option.bind (idx y1.States s_) fun State_e =>
  some (z8.mk (y1.States.set s_.toNat true) y1.Edges))
 else (
  bif k_ == (w64 (((x0.length : Nat) : Int) - 1)) then (
   Option.bind (idx y1.Edges s_) fun Edge_e =>
   Option.bind (idx x0 k_) fun x_e =>
   Option.bind (idx Edge_e x_e) fun Edge_e_e =>
   some (z8.mk y1.States (y1.Edges.set s_.toNat (Edge_e.set x_e.toNat true))))
  else (
   some y1))
def ZX (c_States : List Bool) (c_Edges : List (List Bool)) : Option z8 :=
 some (z8.mk c_States c_Edges)
def vU (m_ : z6) (l_ : List (List Int)) (c_States1 : List Bool) (c_Edges1 : List (List Bool)) (x12 : Int) : Option (LR (List Bool × List (List Bool) × Int) ((List Bool × List (List Bool)))) :=
 bif decide (x12 < ((l_.length : Nat) : Int)) then (
  Option.bind (idx l_ x12) fun l__e =>
  Option.bind (wX m_ l__e (fun s x => uw l__e x.1 x.2 s) (z8.mk c_States1 c_Edges1)) fun r_1 =>
  some (.next (r_1.States, r_1.Edges, w64 (x12 + 1))))
 else (
  some (.done (c_States1, c_Edges1)))
def jg (m_ : z6) (l_ : List (List Int)) : Option z8 :=
 Option.bind (qd m_) fun r_ =>
 Option.bind (loop (fun s => vU m_ l_ s.1 s.2.1 s.2.2) (r_.States, r_.Edges, 0)) fun t2 =>
 ZX t2.1 t2.2
def wO (is : Bool) : Option Bool :=
 some is
def vC (x_ : Bool) (x1 : Unit) : Option Bool :=
 Option.bind (wO x_) fun r_ =>
 some (!r_)
def xR : Option Int :=
 some (-1)
def zV (s_ : List Bool) (x8 : Int) : Option (LR Int (Unit ⊕ Int)) :=
 bif decide (x8 < ((s_.length : Nat) : Int)) then (
  Option.bind (idx s_ x8) fun s__e =>
  Option.bind (vC s__e ()) fun r_ =>
  bif r_ then (
   some (.done (.inr x8)))
  else (
   some (.next (w64 (x8 + 1)))))
 else (
  some (.done (.inl ())))
def xm (s_ : List Bool) (f_ : Unit) : Option Int :=
 Option.bind (loop (fun s => zV s_ s) 0) fun t2 =>
 match t2 with
 | .inl p => xR
 | .inr p => some p
def yT (s_ : List Bool) (f_ : Unit) : Option Bool :=
 Option.bind (xm s_ ()) fun r_ =>
 some (decide (r_ ≥ 0))
def vn (l_ : List Bool) (is : Unit) : Option Bool :=
 Option.bind (yT l_ ()) fun r_ =>
 some (!r_)
def yb (m_ : z6) (l_ : List (List Int)) : Option (Bool × Int) :=
 Option.bind (xh m_ l_) fun r_ =>
 bif r_ != 0 then (
  some (false, r_))
 else (
  Option.bind (jg m_ l_) fun r_1 =>
  Option.bind (vn r_1.States ()) fun r_2 =>
  some (r_2, 0))
def yY (is : Bool) : Option Bool :=
 some is
def ww (x_ : Bool) (x1 : Unit) : Option Bool :=
 Option.bind (yY x_) fun r_ =>
 some (!r_)
def xk : Option Int :=
 some (-1)
def zN (s_ : List Bool) (x8 : Int) : Option (LR Int (Unit ⊕ Int)) :=
 bif decide (x8 < ((s_.length : Nat) : Int)) then (
  Option.bind (idx s_ x8) fun s__e =>
  Option.bind (ww s__e ()) fun r_ =>
  bif r_ then (
   some (.done (.inr x8)))
  else (
   some (.next (w64 (x8 + 1)))))
 else (
  some (.done (.inl ())))
def yS (s_ : List Bool) (f_ : Unit) : Option Int :=
 Option.bind (loop (fun s => zN s_ s) 0) fun t2 =>
 match t2 with
 | .inl p => xk
 | .inr p => some p
def yj (s_ : List Bool) (f_ : Unit) : Option Bool :=
 Option.bind (yS s_ ()) fun r_ =>
 some (decide (r_ ≥ 0))
def xY (l_ : List Bool) (is : Unit) : Option Bool :=
 Option.bind (yj l_ ()) fun r_ =>
 some (!r_)
def xr (r_ : List Bool) : Option Bool :=
 Option.bind (xY r_ ()) fun r_1 =>
 some r_1
def vb (x_ : List Bool) (x1 : Unit) : Option Bool :=
 Option.bind (xr x_) fun r_ =>
 some (!r_)
def xF : Option Int :=
 some (-1)
def zP (s_ : List (List Bool)) (x8 : Int) : Option (LR Int (Unit ⊕ Int)) :=
 bif decide (x8 < ((s_.length : Nat) : Int)) then (
  Option.bind (idx s_ x8) fun s__e =>
  Option.bind (vb s__e ()) fun r_ =>
  bif r_ then (
   some (.done (.inr x8)))
  else (
   some (.next (w64 (x8 + 1)))))
 else (
  some (.done (.inl ())))
def x5 (s_ : List (List Bool)) (f_ : Unit) : Option Int :=
 Option.bind (loop (fun s => zP s_ s) 0) fun t2 =>
 match t2 with
 | .inl p => xF
 | .inr p => some p
def yC (s_ : List (List Bool)) (f_ : Unit) : Option Bool :=
 Option.bind (x5 s_ ()) fun r_ =>
 some (decide (r_ ≥ 0))
def wN (l_ : List (List Bool)) (is : Unit) : Option Bool :=
 Option.bind (yC l_ ()) fun r_ =>
 some (!r_)
def zK (m_ : z6) (l_ : List (List Int)) : Option (Bool × Int) :=
 Option.bind (xh m_ l_) fun r_ =>
 bif r_ != 0 then (
  some (false, r_))
 else (
  Option.bind (jg m_ l_) fun r_1 =>
  Option.bind (wN r_1.Edges ()) fun r_2 =>
  some (r_2, 0))
def YN : Option z6 :=
 some (z6.mk 2 2 ([[(zh.mk 1 0), (zh.mk 0 0)], [(zh.mk 2 1), (zh.mk (-1) (-1))], [(zh.mk 0 0), (zh.mk 2 1)]]))
def jd (l_ : List (List Int)) : Option (List (List Int)) :=
 some l_
def YL : Option Bool :=
 some true
def YK (a_ : List (List Int)) (b_ : List (List Int)) (i_ : Int) : Option (LR Int (Unit ⊕ Bool)) :=
 bif decide (i_ < ((a_.length : Nat) : Int)) then (
  Option.bind (idx a_ i_) fun a__e =>
  Option.bind (idx b_ i_) fun b__e =>
  Option.bind (ur a__e b__e) fun r_ =>
  bif r_ != 0 then (
   some (.done (.inr false)))
  else (
   some (.next (w64 (i_ + 1)))))
 else (
  some (.done (.inl ())))
def VC (a_ : List (List Int)) (b_ : List (List Int)) : Option Bool :=
 bif ((a_.length : Nat) : Int) != ((b_.length : Nat) : Int) then (
  some false)
 else (
  Option.bind (loop (fun s => YK a_ b_ s) 0) fun t2 =>
  match t2 with
  | .inl p => YL
  | .inr p => some p)
def Yj (a_ : List (List Int)) (b_ : List (List Int)) : Option Bool :=
 Option.bind (VC a_ b_) fun r_ =>
 bif r_ then (
  some (((a_.length : Nat) : Int) == ((a_.length : Nat) : Int)))
 else (
  some false)
def YJ : Option Bool :=
 some true
def YI (s_ : Int) : Option (LR Int (Unit ⊕ Bool)) :=
 some (.next (w64 (s_ + 1)))
def up (a_ : z8) (b_ : z8) (s_ : Int) (i_ : Int) : Option (LR Int (Unit ⊕ Bool)) :=
 Option.bind (idx a_.Edges s_) fun Edge_e2 =>
 bif decide (i_ < ((Edge_e2.length : Nat) : Int)) then (
  Option.bind (idx a_.Edges s_) fun Edge_e3 =>
  Option.bind (idx Edge_e3 i_) fun Edge_e_e =>
  Option.bind (idx b_.Edges s_) fun Edge_e4 =>
  Option.bind (idx Edge_e4 i_) fun Edge_e_e1 =>
  bif !(Edge_e_e == Edge_e_e1) then (
   some (.done (.inr false)))
  else (
   some (.next (w64 (i_ + 1)))))
 else (
  some (.done (.inl ())))
def uq (a_ : z8) (b_ : z8) (s_ : Int) : Option (LR Int (Unit ⊕ Bool)) :=
 bif decide (s_ < ((a_.Edges.length : Nat) : Int)) then (
  Option.bind (idx a_.Edges s_) fun Edge_e =>
  Option.bind (idx b_.Edges s_) fun Edge_e1 =>
  bif ((Edge_e.length : Nat) : Int) != ((Edge_e1.length : Nat) : Int) then (
   some (.done (.inr false)))
  else (
   Option.bind (loop (fun s => up a_ b_ s_ s) 0) fun t5 =>
   match t5 with
   | .inl p => YI s_
   | .inr p => some (.done (.inr p))))
 else (
  some (.done (.inl ())))
def kx (a_ : z8) (b_ : z8) : Option Bool :=
 Option.bind (loop (fun s => uq a_ b_ s) 0) fun t3 =>
 match t3 with
 | .inl p => YJ
 | .inr p => some p
def uo (a_ : z8) (b_ : z8) (s_1 : Int) : Option (LR Int (Unit ⊕ Bool)) :=
 bif decide (s_1 < ((a_.States.length : Nat) : Int)) then (
  Option.bind (idx a_.States s_1) fun State_e =>
  Option.bind (idx b_.States s_1) fun State_e1 =>
  bif !(State_e == State_e1) then (
   some (.done (.inr false)))
  else (
   some (.next (w64 (s_1 + 1)))))
 else (
  some (.done (.inl ())))
def kI (a_ : z8) (b_ : z8) : Option Bool :=
 bif ((a_.States.length : Nat) : Int) != ((b_.States.length : Nat) : Int) then (
  some false)
 else (
  bif ((a_.Edges.length : Nat) : Int) != ((b_.Edges.length : Nat) : Int) then (
   some false)
  else (
   Option.bind (loop (fun s => uo a_ b_ s) 0) fun t6 =>
   match t6 with
   | .inl p => kx a_ b_
   | .inr p => some p))
def Za : Option Bool :=
 Option.bind (YN) fun r_ =>
 Option.bind (jd ([[], [0], [1], [0, 0], [0, 1], [0, 0, 0], [0, 0, 1]])) fun r_1 =>
 Option.bind (jd ([[], [0], [0, 0]])) fun r_2 =>
 Option.bind (w8 r_) fun r_3 =>
 Option.bind (yH r_) fun r_4 =>
 Option.bind (yQ r_ 0) fun r_5 =>
 Option.bind (yQ r_ (-1)) fun r_6 =>
 Option.bind (jd ([[1], [0, 1, 0]])) fun r_7 =>
 Option.bind (wc r_ r_7) fun r_8 =>
 bif r_3.2 != 0 then (
  some false)
 else (
  bif r_4.2 != 0 then (
   some false)
  else (
   bif r_5.2 != 0 then (
    some false)
   else (
    bif r_6.2 != 1 then (
     some false)
    else (
     bif r_8.2 != 0 then (
      some false)
     else (
      Option.bind (Yj r_3.1 r_2) fun r_9 =>
      bif !r_9 then (
       some false)
      else (
       Option.bind (Yj r_4.1 r_1) fun r_10 =>
       bif !r_10 then (
        some false)
       else (
        Option.bind (Yj r_5.1 r_2) fun r_11 =>
        bif !r_11 then (
         some false)
        else (
         Option.bind (kI r_8.1 (z8.mk ([true, true, false]) ([[true, true], [false, false], [false, false]]))) fun r_12 =>
         bif !r_12 then (
          some false)
         else (
          Option.bind (yb r_ r_2) fun r_13 =>
          Option.bind (jd ([[0, 0]])) fun r_14 =>
          Option.bind (yb r_ r_14) fun r_15 =>
          Option.bind (zK r_ r_1) fun r_16 =>
          Option.bind (jd ([[0], [1]])) fun r_17 =>
          Option.bind (zK r_ r_17) fun r_18 =>
          bif r_13.2 == 0 then (
           bif r_15.2 == 0 then (
            bif r_16.2 == 0 then (
             bif r_18.2 == 0 then (
              bif r_13.1 then (
               bif !r_15.1 then (
                bif r_16.1 then (
                 some (!r_18.1))
                else (
                 some false))
               else (
                some false))
              else (
               some false))
             else (
              some false))
            else (
             some false))
           else (
            some false))
          else (
           some false))))))))))
def Yf (m_ : z6) (s_ : Int) (i_ : Int) : Option zh :=
 bif decide (s_ < 0) then (
  some (zh.mk (-1) (-1)))
 else (
  Option.bind (idx m_.Rows s_) fun Row_e =>
  Option.bind (idx Row_e i_) fun Row_e_e =>
  some Row_e_e)
def ut (rc_ : z6 → Int → (List Int) → Option Int) (m_ : z6) (s_ : Int) (w_ : List Int) : Option Int :=
 bif ((w_.length : Nat) : Int) == 0 then (
  some s_)
 else (
  Option.bind (idx w_ 0) fun w__e =>
  Option.bind (Yf m_ s_ w__e) fun r_ =>
  gd ((0 : Int) ≤ 1 ∧ (1 : Int) ≤ ((w_.length : Nat) : Int) ∧ (((w_.length : Nat) : Int) : Int) ≤ ((w_.length : Nat) : Int)) <|
  Option.bind (rc_ m_ r_.To (w_.drop (1 : Int).toNat)) fun r_1 =>
  some r_1)
def qt (fu : Nat) : z6 → Int → (List Int) → Option Int := Nat.rec (motive := fun _ => z6 → Int → (List Int) → Option Int) (fun _ _ _ => none) (fun _ ih => ut ih) fu
def uS (m_ : z6) (s_ : Int) (w_ : List Int) : Option Int := qt (w_.length + 1) m_ s_ w_
def jS (c_States : List Bool) (c_Edges1 : List (List Bool)) : Option z8 :=
 some (z8.mk c_States c_Edges1)
def uL (i_ : Int) (c_States2 : List Bool) (c_Edges3 : List (List Bool)) : Option (LR (List Bool × List (List Bool) × Int) ((List Bool × List (List Bool)))) :=
 some (.next (c_States2, c_Edges3, w64 (i_ + 1)))
def xU (k_ : Int) (c_States4 : List Bool) (c_Edges5 : List (List Bool)) : Option (LR (List Bool × List (List Bool) × Int) ((List Bool × List (List Bool)))) :=
 some (.next (c_States4, c_Edges5, w64 (k_ + 1)))
def wB (m_ : z6) (l_ : List (List Int)) (i_ : Int) (c_States3 : List Bool) (c_Edges4 : List (List Bool)) (k_ : Int) : Option (LR (List Bool × List (List Bool) × Int) ((List Bool × List (List Bool)))) :=
 Option.bind (idx l_ i_) fun l__e =>
 bif decide (k_ ≤ ((l__e.length : Nat) : Int)) then (
  Option.bind (idx l_ i_) fun l__e1 =>
  gd ((0 : Int) ≤ 0 ∧ (0 : Int) ≤ k_ ∧ (k_ : Int) ≤ ((l__e1.length : Nat) : Int)) <|
  Option.bind (uS m_ 0 ((l__e1.drop 0).take (k_.toNat - 0))) fun r_ =>
  bif r_ == (-1) then (
   xU k_ c_States3 c_Edges4)
  else (
   Option.bind (idx c_States3 r_) fun c_State_e =>
   Option.bind (idx l_ i_) fun l__e2 =>
   bif decide (k_ < ((l__e2.length : Nat) : Int)) then (
    Option.bind (idx m_.Rows r_) fun Row_e =>
    Option.bind (idx l_ i_) fun l__e3 =>
    Option.bind (idx l__e3 k_) fun l__e_e =>
    Option.bind (idx Row_e l__e_e) fun Row_e_e =>
    bif Row_e_e.To != (-1) then (
     Option.bind (idx c_Edges4 r_) fun c_Edge_e =>
     Option.bind (idx l_ i_) fun l__e4 =>
     Option.bind (idx l__e4 k_) fun l__e_e1 =>
     Option.bind (idx c_Edge_e l__e_e1) fun c_Edge_e_e =>
     xU k_ (c_States3.set r_.toNat true) (c_Edges4.set r_.toNat (c_Edge_e.set l__e_e1.toNat true)))
    else (
     xU k_ (c_States3.set r_.toNat true) c_Edges4))
   else (
    xU k_ (c_States3.set r_.toNat true) c_Edges4)))
 else (
  some (.done (c_States3, c_Edges4)))
def wC (m_ : z6) (l_ : List (List Int)) (c_States1 : List Bool) (c_Edges2 : List (List Bool)) (i_ : Int) : Option (LR (List Bool × List (List Bool) × Int) ((List Bool × List (List Bool)))) :=
 bif decide (i_ < ((l_.length : Nat) : Int)) then (
  Option.bind (loop (fun s => wB m_ l_ i_ s.1 s.2.1 s.2.2) (c_States1, c_Edges2, 0)) fun t5 =>
  uL i_ t5.1 t5.2)
 else (
  some (.done (c_States1, c_Edges2)))
def uM (m_ : z6) (l_ : List (List Int)) (c_Edges : List (List Bool)) : Option z8 :=
 Option.bind (loop (fun s => wC m_ l_ s.1 s.2.1 s.2.2) ((List.replicate ((m_.Rows.length : Nat) : Int).toNat false), c_Edges, 0)) fun t3 =>
 jS t3.1 t3.2
def xT (m_ : z6) (c_Edges6 : List (List Bool)) (s_ : Int) : Option (LR (List (List Bool) × Int) (List (List Bool))) :=
 bif decide (s_ < ((m_.Rows.length : Nat) : Int)) then (
  gd ((0 : Int) ≤ m_.Inputs ∧ (m_.Inputs : Int) ≤ 4294967296) <|
  gd (c_Edges6.length + ([(List.replicate m_.Inputs.toNat false)] : List (List Bool)).length ≤ 4294967296) <|
  some (.next ((c_Edges6 ++ ([(List.replicate m_.Inputs.toNat false)] : List (List Bool))), w64 (s_ + 1))))
 else (
  some (.done c_Edges6))
def qq (m_ : z6) (l_ : List (List Int)) : Option z8 :=
 gd ((0 : Int) ≤ ((m_.Rows.length : Nat) : Int) ∧ (((m_.Rows.length : Nat) : Int) : Int) ≤ 4294967296) <|
 Option.bind (loop (fun s => xT m_ s.1 s.2) (([] : List (List Bool)), 0)) fun t7 =>
 uM m_ l_ t7
def ug : Option Bool :=
 some true
def wL (s_ : Int) : Option (LR Int (Unit ⊕ Bool)) :=
 some (.next (w64 (s_ + 1)))
def wK (s_ : Int) (is : Bool) : Option (LR Int (Unit ⊕ Bool)) :=
 bif !is then (
  some (.done (.inr false)))
 else (
  wL s_)
def yV (m_ : z6) (l_ : List (List Int)) (s_ : Int) (is1 : Bool) (i_ : Int) : Option (LR (Bool × Int) Bool) :=
 bif decide (i_ < ((l_.length : Nat) : Int)) then (
  bif is1 then (
   some (.next (true, w64 (i_ + 1))))
  else (
   Option.bind (idx l_ i_) fun l__e =>
   Option.bind (uS m_ 0 l__e) fun r_ =>
   some (.next (r_ == s_, w64 (i_ + 1)))))
 else (
  some (.done is1))
def yW (m_ : z6) (l_ : List (List Int)) (s_ : Int) : Option (LR Int (Unit ⊕ Bool)) :=
 bif decide (s_ < ((m_.Rows.length : Nat) : Int)) then (
  Option.bind (loop (fun s => yV m_ l_ s_ s.1 s.2) (false, 0)) fun t5 =>
  wK s_ t5)
 else (
  some (.done (.inl ())))
def wM (m_ : z6) (l_ : List (List Int)) : Option Bool :=
 Option.bind (loop (fun s => yW m_ l_ s) 0) fun t2 =>
 match t2 with
 | .inl p => ug
 | .inr p => some p
def wy : Option Bool :=
 some true
def xq (s_ : Int) : Option (LR Int (Unit ⊕ Bool)) :=
 some (.next (w64 (s_ + 1)))
def xp (a_ : Int) : Option (LR Int (Unit ⊕ Bool)) :=
 some (.next (w64 (a_ + 1)))
def xo (a_ : Int) (is : Bool) : Option (LR Int (Unit ⊕ Bool)) :=
 bif !is then (
  some (.done (.inr false)))
 else (
  xp a_)
def y9 (m_ : z6) (l_ : List (List Int)) (s_ : Int) (a_ : Int) (is1 : Bool) (i_ : Int) : Option (LR (Bool × Int) Bool) :=
 bif decide (i_ < ((l_.length : Nat) : Int)) then (
  Option.bind (idx l_ i_) fun l__e =>
  bif is1 then (
   some (.next (true, w64 (i_ + 1))))
  else (
   bif decide ((w64 (((l__e.length : Nat) : Int) - 1)) ≥ 0) then (
    Option.bind (idx l_ i_) fun l__e1 =>
    Option.bind (idx l__e1 (w64 (((l__e.length : Nat) : Int) - 1))) fun l__e_e =>
    bif l__e_e == a_ then (
     Option.bind (idx l_ i_) fun l__e2 =>
     gd ((0 : Int) ≤ 0 ∧ (0 : Int) ≤ w64 (((l__e.length : Nat) : Int) - 1) ∧ (w64 (((l__e.length : Nat) : Int) - 1) : Int) ≤ ((l__e2.length : Nat) : Int)) <|
     Option.bind (uS m_ 0 ((l__e2.drop 0).take ((w64 (((l__e.length : Nat) : Int) - 1)).toNat - 0))) fun r_ =>
     some (.next (r_ == s_, w64 (i_ + 1))))
    else (
     some (.next (false, w64 (i_ + 1)))))
   else (
    some (.next (false, w64 (i_ + 1))))))
 else (
  some (.done is1))
def zT (m_ : z6) (l_ : List (List Int)) (s_ : Int) (a_ : Int) : Option (LR Int (Unit ⊕ Bool)) :=
 bif decide (a_ < m_.Inputs) then (
  Option.bind (loop (fun s => y9 m_ l_ s_ a_ s.1 s.2) (false, 0)) fun t7 =>
  xo a_ t7)
 else (
  some (.done (.inl ())))
def ya (m_ : z6) (l_ : List (List Int)) (s_ : Int) : Option (LR Int (Unit ⊕ Bool)) :=
 bif decide (s_ < ((m_.Rows.length : Nat) : Int)) then (
  Option.bind (loop (fun s => zT m_ l_ s_ s) 0) fun t4 =>
  match t4 with
  | .inl p => xq s_
  | .inr p => some (.done (.inr p)))
 else (
  some (.done (.inl ())))
def xa (m_ : z6) (l_ : List (List Int)) : Option Bool :=
 Option.bind (loop (fun s => ya m_ l_ s) 0) fun t2 =>
 match t2 with
 | .inl p => wy
 | .inr p => some p
def yG (m_ : z6) (l_ : List (List Int)) (f_ : Int) : Option Bool :=
 Option.bind (wc m_ l_) fun r_6 =>
 Option.bind (yb m_ l_) fun r_7 =>
 Option.bind (zK m_ l_) fun r_8 =>
 bif r_6.2 != f_ then (
  some false)
 else (
  bif r_7.2 != f_ then (
   some false)
  else (
   bif r_8.2 != f_ then (
    some false)
   else (
    bif f_ != 0 then (
     bif (w64 (((r_6.1.States.length : Nat) : Int) + ((r_6.1.Edges.length : Nat) : Int))) == 0 then (
      bif !r_7.1 then (
       bif !r_8.1 then (
        Option.bind (Za) fun r_9 =>
        some r_9)
       else (
        some false))
      else (
       some false))
     else (
      some false))
    else (
     Option.bind (qq m_ l_) fun r_10 =>
     Option.bind (kI r_6.1 r_10) fun r_11 =>
     bif r_11 then (
      Option.bind (wM m_ l_) fun r_12 =>
      bif r_7.1 == r_12 then (
       Option.bind (xa m_ l_) fun r_13 =>
       bif r_8.1 == r_13 then (
        Option.bind (Za) fun r_14 =>
        some r_14)
       else (
        some false))
      else (
       some false))
     else (
      some false)))))
def xO (m_ : z6) (l_ : List (List Int)) (r_2 : Int) : Option Bool :=
 bif r_2 == 0 then (
  Option.bind (kU l_ m_.Inputs) fun r_15 =>
  yG m_ l_ r_15)
 else (
  yG m_ l_ r_2)
def qz (m_ : z6) (l_ : List (List Int)) (k_ : Int) : Option Bool :=
 Option.bind (kZ m_) fun r_ =>
 bif r_ != 0 then (
  some true)
 else (
  Option.bind (Xz l_) fun r_1 =>
  bif r_1 != 0 then (
   some true)
  else (
   Option.bind (kV m_) fun r_2 =>
   Option.bind (w8 m_) fun r_3 =>
   Option.bind (yH m_) fun r_4 =>
   Option.bind (yQ m_ (mn k_ 3)) fun r_5 =>
   bif r_2 != 0 then (
    bif r_3.2 != r_2 then (
     some false)
    else (
     bif r_4.2 != r_2 then (
      some false)
     else (
      bif r_5.2 != r_2 then (
       some false)
      else (
       xO m_ l_ r_2))))
   else (
    xO m_ l_ r_2)))
abbrev F0_ := eSl 1 true (eI .i64)
abbrev F1_ := eOs 1 true (eI .i64)
abbrev F2_ := eSl 1 false (eI .i64)
abbrev F3_ := eOs 1 true (eOs 1 true eB)
abbrev F4_ := eSl 1 true (eSl 1 true eB)
abbrev F5_ := eSl 1 false (eSl 1 false eB)
abbrev F6_ := yN (eI .i64) (eI .i64)
abbrev F7_ := eSl 1 true F0_
abbrev F8_ := eSl 1 false F2_
abbrev F9_ := eOs 1 false F2_
abbrev zfv := eSl 2 true F6_
abbrev uC := eSl 2 false F6_
abbrev qh := Zc (eI .i64) (eI .i64) (eI .i64)
abbrev zgc := eSl 1 true zfv
abbrev zgb := eSl 1 false uC
abbrev zde := yZ (eOs 1 true eB) F3_
abbrev zat := yZ (eSl 1 true eB) F4_
abbrev z0P := yZ (eSl 1 false eB) F5_
abbrev z6C := w7 (eI .i64) (eI .i64) zgc
abbrev yK := w7 (eI .i64) (eI .i64) zgb
abbrev z8f := eSp yK
def rpN {α : Type _} (n : Nat) (a : α) (l : List α) : List α := Nat.rec l (fun _ r => a :: r) n
end Go.Own

namespace Go.Proofs
open Go.Shelf
def Tryz.so104_ren : Go.Shelf.Ren := ⟨fun | 6 => 104 | 15 => 119 | 14 => 118 | 28 => 131 | 29 => 132 | 20 => 123 | 21 => 124 | 22 => 125 | 23 => 126 | 24 => 127 | 25 => 128 | 26 => 129 | 27 => 130 | 46 => 134 | 47 => 135 | 48 => 136 | 49 => 137 | 50 => 138 | 57 => 139 | n => n, fun | 22 => 29 | 24 => 77 | 25 => 90 | 3 => 3 | 39 => 152 | 0 => 0 | 53 => 164 | 55 => 166 | 4 => 4 | 46 => 157 | 45 => 156 | 50 => 161 | 5 => 5 | 9 => 9 | 66 => 167 | 70 => 171 | 76 => 173 | 77 => 174 | n => n, fun | n => n⟩
theorem Tryz.so104 : Go.Proofs.SlLaysF0.n6 Tryz.prog Tryz.so104_ren := {
 mixed := by kernel_rfl
 f6 := ⟨Tryz.f104.name, by decide, Tryz.func104.trans (congrArg some (by kernel_rfl))⟩
 f14 := ⟨Tryz.f118.name, by decide, Tryz.func118.trans (congrArg some (by kernel_rfl))⟩
 f15 := Tryz.func119.trans (congrArg some (by kernel_rfl))
 f20 := ⟨Tryz.f123.name, by decide, Tryz.func123.trans (congrArg some (by kernel_rfl))⟩
 f21 := ⟨Tryz.f124.name, by decide, Tryz.func124.trans (congrArg some (by kernel_rfl))⟩
 f22 := ⟨Tryz.f125.name, by decide, Tryz.func125.trans (congrArg some (by kernel_rfl))⟩
 f23 := ⟨Tryz.f126.name, by decide, Tryz.func126.trans (congrArg some (by kernel_rfl))⟩
 f24 := ⟨Tryz.f127.name, by decide, Tryz.func127.trans (congrArg some (by kernel_rfl))⟩
 f25 := ⟨Tryz.f128.name, by decide, Tryz.func128.trans (congrArg some (by kernel_rfl))⟩
 f26 := ⟨Tryz.f129.name, by decide, Tryz.func129.trans (congrArg some (by kernel_rfl))⟩
 f27 := ⟨Tryz.f130.name, by decide, Tryz.func130.trans (congrArg some (by kernel_rfl))⟩
 f28 := Tryz.func131.trans (congrArg some (by kernel_rfl))
 f29 := Tryz.func132.trans (congrArg some (by kernel_rfl))
 f46 := ⟨Tryz.f134.name, by decide, Tryz.func134.trans (congrArg some (by kernel_rfl))⟩
 f47 := Tryz.func135.trans (congrArg some (by kernel_rfl))
 f48 := Tryz.func136.trans (congrArg some (by kernel_rfl))
 f49 := ⟨Tryz.f137.name, by decide, Tryz.func137.trans (congrArg some (by kernel_rfl))⟩
 f50 := ⟨Tryz.f138.name, by decide, Tryz.func138.trans (congrArg some (by kernel_rfl))⟩
 f57 := ⟨Tryz.f139.name, by decide, Tryz.func139.trans (congrArg some (by kernel_rfl))⟩
 t0 := Tryz.underlying0
 a0 := Tryz.isAgg0
 z0 := Tryz.sizeOf0
 v0 := Tryz.zeroValue0
 t3 := Tryz.underlying3
 a3 := Tryz.isAgg3
 z3 := Tryz.sizeOf3
 v3 := Tryz.zeroValue3
 t4 := Tryz.underlying4
 a4 := Tryz.isAgg4
 z4 := Tryz.sizeOf4
 v4 := Tryz.zeroValue4
 t5 := Tryz.underlying5
 a5 := Tryz.isAgg5
 z5 := Tryz.sizeOf5
 v5 := Tryz.zeroValue5
 t9 := Tryz.underlying9
 a9 := Tryz.isAgg9
 z9 := Tryz.sizeOf9
 v9 := Tryz.zeroValue9
 t22 := Tryz.underlying29
 a22 := Tryz.isAgg29
 z22 := Tryz.sizeOf29
 v22 := Tryz.zeroValue29
 t25 := Tryz.underlying90
 a25 := Tryz.isAgg90
 z25 := Tryz.sizeOf90
 v25 := Tryz.zeroValue90
 t39 := Tryz.underlying152
 a39 := Tryz.isAgg152
 z39 := Tryz.sizeOf152
 v39 := Tryz.zeroValue152
 t45 := Tryz.underlying156
 a45 := Tryz.isAgg156
 z45 := Tryz.sizeOf156
 v45 := Tryz.zeroValue156
 t46 := Tryz.underlying157
 a46 := Tryz.isAgg157
 z46 := Tryz.sizeOf157
 v46 := Tryz.zeroValue157
 t50 := Tryz.underlying161
 a50 := Tryz.isAgg161
 z50 := Tryz.sizeOf161
 v50 := Tryz.zeroValue161
 t53 := Tryz.underlying164
 a53 := Tryz.isAgg164
 z53 := Tryz.sizeOf164
 v53 := Tryz.zeroValue164
 t55 := Tryz.underlying166
 a55 := Tryz.isAgg166
 z55 := Tryz.sizeOf166
 v55 := Tryz.zeroValue166
 t66 := Tryz.underlying167
 a66 := Tryz.isAgg167
 z66 := Tryz.sizeOf167
 v66 := Tryz.zeroValue167
 t70 := Tryz.underlying171
 a70 := Tryz.isAgg171
 z70 := Tryz.sizeOf171
 v70 := Tryz.zeroValue171
 t76 := Tryz.underlying173
 a76 := Tryz.isAgg173
 z76 := Tryz.sizeOf173
 v76 := Tryz.zeroValue173
 t77 := Tryz.underlying174
 a77 := Tryz.isAgg174
 z77 := Tryz.sizeOf174
 v77 := Tryz.zeroValue174 }
end Go.Proofs
