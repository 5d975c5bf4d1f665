/- -/
import Derived.Test.YtkelmheleahmpaaGreatDoorPartB
import Derived.Test.YtkelmheleahmpaaGreatDoorProg
import Derived.Test.YtkelmheleahmpaaGreatDoorPartD
import Derived.Test.YtkelmheleahmpaaGreatDoorPartC
import Derived.Shelf.SlSortCmp.NoneTotal
import Derived.Ground.SlsfProg
set_option linter.unusedVariables false
set_option linter.unusedSimpArgs false
namespace Go.Ex
open Go.Proofs
theorem q3 : EqP Tryz.prog 3 [.int .i64 0] false 1 := z8s (k := .int .i64) Tryz.underlying3 ⟨_, (by kernel_rfl : Tryz.prog.info? 3 = some Tryz.t3), rfl⟩ rfl
theorem q34 : EqP Tryz.prog 34 (z5B 2 [.int .i64 0]) true 2 := K1 Tryz.underlying34 q3 ⟨_, (by kernel_rfl : Tryz.prog.info? 34 = some Tryz.t34), rfl⟩
def i34 : EI := ⟨.array 2 3, 2, 16, some [.int .i64 0, .int .i64 0], true⟩
theorem z9q : z4V Tryz.prog 34 i34 := ⟨⟨Tryz.t34, by kernel_rfl, rfl, rfl, fun z h => by cases h; exact ⟨_, rfl, rfl, Xn rfl, rfl, ⟨_, rfl⟩⟩⟩, Tryz.underlying34, fun _ => kB q34 rfl rfl (Nat.le_of_ble_eq_true (by kernel_rfl)) (by decide)⟩
theorem q35 : EqP Tryz.prog 35 (ZJ [([.int .i64 0, .int .i64 0], true), ([.int .i64 0, .int .i64 0], true), ([.int .i64 0, .int .i64 0], true)]) true 3 := uH Tryz.underlying35 (by kernel_rfl) ⟨_, (by kernel_rfl : Tryz.prog.info? 35 = some Tryz.t35), rfl⟩ (by decide) (zL.cons (by decide) rfl (q34.mono (by decide)) (zL.cons (by decide) rfl (q34.mono (by decide)) (zL.cons (by decide) rfl (q34.mono (by decide)) (zL.nil))))
def i35 : EI := ⟨.struct [(0, 34), (2, 34), (4, 34)], 6, 48, some [.int .i64 0, .int .i64 0, .int .i64 0, .int .i64 0, .int .i64 0, .int .i64 0], true⟩
theorem zhm : z4V Tryz.prog 35 i35 := ⟨⟨Tryz.t35, by kernel_rfl, rfl, rfl, fun z h => by cases h; exact ⟨_, rfl, rfl, Xn rfl, rfl, ⟨_, rfl⟩⟩⟩, ⟨_, Tryz.underlying35, by kernel_rfl, by
  intro f hf
  simp only [List.mem_cons, List.not_mem_nil, or_false] at hf
  rcases hf with rfl | rfl | rfl
  ·exact ⟨Tryz.t34, by kernel_rfl⟩
  ·exact ⟨Tryz.t34, by kernel_rfl⟩
  ·exact ⟨Tryz.t34, by kernel_rfl⟩⟩, fun _ => kB q35 rfl rfl (Nat.le_of_ble_eq_true (by kernel_rfl)) (by decide)⟩
theorem q36 : EqP Tryz.prog 36 (ZJ [([.int .i64 0, .int .i64 0], true), ([.int .i64 0, .int .i64 0], true), ([.int .i64 0, .int .i64 0], true)]) true 3 := uH Tryz.underlying36 (by kernel_rfl) ⟨_, (by kernel_rfl : Tryz.prog.info? 36 = some Tryz.t36), rfl⟩ (by decide) (zL.cons (by decide) rfl (q34.mono (by decide)) (zL.cons (by decide) rfl (q34.mono (by decide)) (zL.cons (by decide) rfl (q34.mono (by decide)) (zL.nil))))
def i36 : EI := ⟨.struct [(0, 34), (2, 34), (4, 34)], 6, 48, some [.int .i64 0, .int .i64 0, .int .i64 0, .int .i64 0, .int .i64 0, .int .i64 0], true⟩
theorem zcV : z4V Tryz.prog 36 i36 := ⟨⟨Tryz.t36, by kernel_rfl, rfl, rfl, fun z h => by cases h; exact ⟨_, rfl, rfl, Xn rfl, rfl, ⟨_, rfl⟩⟩⟩, ⟨_, Tryz.underlying36, by kernel_rfl, by
  intro f hf
  simp only [List.mem_cons, List.not_mem_nil, or_false] at hf
  rcases hf with rfl | rfl | rfl
  ·exact ⟨Tryz.t34, by kernel_rfl⟩
  ·exact ⟨Tryz.t34, by kernel_rfl⟩
  ·exact ⟨Tryz.t34, by kernel_rfl⟩⟩, fun _ => kB q36 rfl rfl (Nat.le_of_ble_eq_true (by kernel_rfl)) (by decide)⟩
theorem q59 : EqP Tryz.prog 59 (ZJ [([.int .i64 0], false), ([.int .i64 0], false), ([.int .i64 0], false)]) true 2 := uH Tryz.underlying59 (by kernel_rfl) ⟨_, (by kernel_rfl : Tryz.prog.info? 59 = some Tryz.t59), rfl⟩ (by decide) (zL.cons (by decide) rfl (q3.mono (by decide)) (zL.cons (by decide) rfl (q3.mono (by decide)) (zL.cons (by decide) rfl (q3.mono (by decide)) (zL.nil))))
def i59 : EI := ⟨.struct [(0, 3), (1, 3), (2, 3)], 3, 24, some [.int .i64 0, .int .i64 0, .int .i64 0], true⟩
theorem zhl : z4V Tryz.prog 59 i59 := ⟨⟨Tryz.t59, by kernel_rfl, rfl, rfl, fun z h => by cases h; exact ⟨_, rfl, rfl, Xn rfl, rfl, ⟨_, rfl⟩⟩⟩, ⟨_, Tryz.underlying59, by kernel_rfl, by
  intro f hf
  simp only [List.mem_cons, List.not_mem_nil, or_false] at hf
  rcases hf with rfl | rfl | rfl
  ·exact ⟨Tryz.t3, by kernel_rfl⟩
  ·exact ⟨Tryz.t3, by kernel_rfl⟩
  ·exact ⟨Tryz.t3, by kernel_rfl⟩⟩, fun _ => kB q59 rfl rfl (Nat.le_of_ble_eq_true (by kernel_rfl)) (by decide)⟩
theorem q60 : EqP Tryz.prog 60 (ZJ [([.int .i64 0], false), ([.int .i64 0], false), ([.int .i64 0], false)]) true 2 := uH Tryz.underlying60 (by kernel_rfl) ⟨_, (by kernel_rfl : Tryz.prog.info? 60 = some Tryz.t60), rfl⟩ (by decide) (zL.cons (by decide) rfl (q3.mono (by decide)) (zL.cons (by decide) rfl (q3.mono (by decide)) (zL.cons (by decide) rfl (q3.mono (by decide)) (zL.nil))))
def i60 : EI := ⟨.struct [(0, 3), (1, 3), (2, 3)], 3, 24, some [.int .i64 0, .int .i64 0, .int .i64 0], true⟩
theorem zcU : z4V Tryz.prog 60 i60 := ⟨⟨Tryz.t60, by kernel_rfl, rfl, rfl, fun z h => by cases h; exact ⟨_, rfl, rfl, Xn rfl, rfl, ⟨_, rfl⟩⟩⟩, ⟨_, Tryz.underlying60, by kernel_rfl, by
  intro f hf
  simp only [List.mem_cons, List.not_mem_nil, or_false] at hf
  rcases hf with rfl | rfl | rfl
  ·exact ⟨Tryz.t3, by kernel_rfl⟩
  ·exact ⟨Tryz.t3, by kernel_rfl⟩
  ·exact ⟨Tryz.t3, by kernel_rfl⟩⟩, fun _ => kB q60 rfl rfl (Nat.le_of_ble_eq_true (by kernel_rfl)) (by decide)⟩
theorem q61 : EqP Tryz.prog 61 (ZJ [([.int .i64 0], false), ([.int .i64 0], false), ([.int .i64 0], false)]) true 2 := uH Tryz.underlying61 (by kernel_rfl) ⟨_, (by kernel_rfl : Tryz.prog.info? 61 = some Tryz.t61), rfl⟩ (by decide) (zL.cons (by decide) rfl (q3.mono (by decide)) (zL.cons (by decide) rfl (q3.mono (by decide)) (zL.cons (by decide) rfl (q3.mono (by decide)) (zL.nil))))
def i61 : EI := ⟨.struct [(0, 3), (1, 3), (2, 3)], 3, 24, some [.int .i64 0, .int .i64 0, .int .i64 0], true⟩
theorem z9p : z4V Tryz.prog 61 i61 := ⟨⟨Tryz.t61, by kernel_rfl, rfl, rfl, fun z h => by cases h; exact ⟨_, rfl, rfl, Xn rfl, rfl, ⟨_, rfl⟩⟩⟩, ⟨_, Tryz.underlying61, by kernel_rfl, by
  intro f hf
  simp only [List.mem_cons, List.not_mem_nil, or_false] at hf
  rcases hf with rfl | rfl | rfl
  ·exact ⟨Tryz.t3, by kernel_rfl⟩
  ·exact ⟨Tryz.t3, by kernel_rfl⟩
  ·exact ⟨Tryz.t3, by kernel_rfl⟩⟩, fun _ => kB q61 rfl rfl (Nat.le_of_ble_eq_true (by kernel_rfl)) (by decide)⟩
def i64 : EI := ⟨.slice 5, 1, 24, some [.slice none 0 0], false⟩
theorem q73 : EqP Tryz.prog 73 (z5B 3 [.int .i64 0, .int .i64 0]) true 3 := K1 Tryz.underlying73 q34 ⟨_, (by kernel_rfl : Tryz.prog.info? 73 = some Tryz.t73), rfl⟩
def i73 : EI := ⟨.array 3 34, 6, 48, some [.int .i64 0, .int .i64 0, .int .i64 0, .int .i64 0, .int .i64 0, .int .i64 0], true⟩
theorem zcT : z4V Tryz.prog 73 i73 := ⟨⟨Tryz.t73, by kernel_rfl, rfl, rfl, fun z h => by cases h; exact ⟨_, rfl, rfl, Xn rfl, rfl, ⟨_, rfl⟩⟩⟩, Tryz.underlying73, fun _ => kB q73 rfl rfl (Nat.le_of_ble_eq_true (by kernel_rfl)) (by decide)⟩
theorem zi6 : EqP Tryz.prog 104 (ZJ [([.int .i64 0], false), ([.int .i64 0], false)]) true 2 := uH Tryz.underlying104 (by kernel_rfl) ⟨_, (by kernel_rfl : Tryz.prog.info? 104 = some Tryz.t104), rfl⟩ (by decide) (zL.cons (by decide) rfl (q3.mono (by decide)) (zL.cons (by decide) rfl (q3.mono (by decide)) (zL.nil)))
def zie : EI := ⟨.struct [(0, 3), (1, 3)], 2, 16, some [.int .i64 0, .int .i64 0], true⟩
theorem zfq : z4V Tryz.prog 104 zie := ⟨⟨Tryz.t104, by kernel_rfl, rfl, rfl, fun z h => by cases h; exact ⟨_, rfl, rfl, Xn rfl, rfl, ⟨_, rfl⟩⟩⟩, ⟨_, Tryz.underlying104, by kernel_rfl, by
  intro f hf
  simp only [List.mem_cons, List.not_mem_nil, or_false] at hf
  rcases hf with rfl | rfl
  ·exact ⟨Tryz.t3, by kernel_rfl⟩
  ·exact ⟨Tryz.t3, by kernel_rfl⟩⟩, fun _ => kB zi6 rfl rfl (Nat.le_of_ble_eq_true (by kernel_rfl)) (by decide)⟩
theorem zi5 : EqP Tryz.prog 105 (ZJ [([.int .i64 0], false), ([.int .i64 0], false)]) true 2 := uH Tryz.underlying105 (by kernel_rfl) ⟨_, (by kernel_rfl : Tryz.prog.info? 105 = some Tryz.t105), rfl⟩ (by decide) (zL.cons (by decide) rfl (q3.mono (by decide)) (zL.cons (by decide) rfl (q3.mono (by decide)) (zL.nil)))
def zid : EI := ⟨.struct [(0, 3), (1, 3)], 2, 16, some [.int .i64 0, .int .i64 0], true⟩
theorem zb6 : z4V Tryz.prog 105 zid := ⟨⟨Tryz.t105, by kernel_rfl, rfl, rfl, fun z h => by cases h; exact ⟨_, rfl, rfl, Xn rfl, rfl, ⟨_, rfl⟩⟩⟩, ⟨_, Tryz.underlying105, by kernel_rfl, by
  intro f hf
  simp only [List.mem_cons, List.not_mem_nil, or_false] at hf
  rcases hf with rfl | rfl
  ·exact ⟨Tryz.t3, by kernel_rfl⟩
  ·exact ⟨Tryz.t3, by kernel_rfl⟩⟩, fun _ => kB zi5 rfl rfl (Nat.le_of_ble_eq_true (by kernel_rfl)) (by decide)⟩
theorem zi4 : EqP Tryz.prog 109 (z5B 3 [.int .i64 0]) true 2 := K1 Tryz.underlying109 q3 ⟨_, (by kernel_rfl : Tryz.prog.info? 109 = some Tryz.t109), rfl⟩
def zic : EI := ⟨.array 3 3, 3, 24, some [.int .i64 0, .int .i64 0, .int .i64 0], true⟩
theorem zb5 : z4V Tryz.prog 109 zic := ⟨⟨Tryz.t109, by kernel_rfl, rfl, rfl, fun z h => by cases h; exact ⟨_, rfl, rfl, Xn rfl, rfl, ⟨_, rfl⟩⟩⟩, Tryz.underlying109, fun _ => kB zi4 rfl rfl (Nat.le_of_ble_eq_true (by kernel_rfl)) (by decide)⟩
theorem zi3 : EqP Tryz.prog 137 (ZJ [([.int .i64 0], false), ([.int .i64 0], false), ([.int .i64 0], false)]) true 2 := uH Tryz.underlying137 (by kernel_rfl) ⟨_, (by kernel_rfl : Tryz.prog.info? 137 = some Tryz.t137), rfl⟩ (by decide) (zL.cons (by decide) rfl (q3.mono (by decide)) (zL.cons (by decide) rfl (q3.mono (by decide)) (zL.cons (by decide) rfl (q3.mono (by decide)) (zL.nil))))
def zib : EI := ⟨.struct [(0, 3), (1, 3), (2, 3)], 3, 24, some [.int .i64 0, .int .i64 0, .int .i64 0], true⟩
theorem zfp : z4V Tryz.prog 137 zib := ⟨⟨Tryz.t137, by kernel_rfl, rfl, rfl, fun z h => by cases h; exact ⟨_, rfl, rfl, Xn rfl, rfl, ⟨_, rfl⟩⟩⟩, ⟨_, Tryz.underlying137, by kernel_rfl, by
  intro f hf
  simp only [List.mem_cons, List.not_mem_nil, or_false] at hf
  rcases hf with rfl | rfl | rfl
  ·exact ⟨Tryz.t3, by kernel_rfl⟩
  ·exact ⟨Tryz.t3, by kernel_rfl⟩
  ·exact ⟨Tryz.t3, by kernel_rfl⟩⟩, fun _ => kB zi3 rfl rfl (Nat.le_of_ble_eq_true (by kernel_rfl)) (by decide)⟩
theorem zi2 : EqP Tryz.prog 138 (ZJ [([.int .i64 0], false), ([.int .i64 0], false), ([.int .i64 0], false)]) true 2 := uH Tryz.underlying138 (by kernel_rfl) ⟨_, (by kernel_rfl : Tryz.prog.info? 138 = some Tryz.t138), rfl⟩ (by decide) (zL.cons (by decide) rfl (q3.mono (by decide)) (zL.cons (by decide) rfl (q3.mono (by decide)) (zL.cons (by decide) rfl (q3.mono (by decide)) (zL.nil))))
def zia : EI := ⟨.struct [(0, 3), (1, 3), (2, 3)], 3, 24, some [.int .i64 0, .int .i64 0, .int .i64 0], true⟩
theorem zb4 : z4V Tryz.prog 138 zia := ⟨⟨Tryz.t138, by kernel_rfl, rfl, rfl, fun z h => by cases h; exact ⟨_, rfl, rfl, Xn rfl, rfl, ⟨_, rfl⟩⟩⟩, ⟨_, Tryz.underlying138, by kernel_rfl, by
  intro f hf
  simp only [List.mem_cons, List.not_mem_nil, or_false] at hf
  rcases hf with rfl | rfl | rfl
  ·exact ⟨Tryz.t3, by kernel_rfl⟩
  ·exact ⟨Tryz.t3, by kernel_rfl⟩
  ·exact ⟨Tryz.t3, by kernel_rfl⟩⟩, fun _ => kB zi2 rfl rfl (Nat.le_of_ble_eq_true (by kernel_rfl)) (by decide)⟩
end Go.Ex

namespace Go.Own
open Go.Proofs
def zfo : Value → Bool
 | .int _ _ => true
 | _ => false
theorem z2h : ∀ {z vs us : List Value} {r : Bool}, z.all zfo = true → z.length = vs.length → yQ vs us = some r → Go.Ex.z1d z vs = true ∧ Go.Ex.yQ vs us = some r
 | [], [], us, r, _, _, h => by
  cases us with
  | nil => simp only [yQ, Option.some.injEq] at h; subst h; exact ⟨rfl, rfl⟩
  | cons u us => simp [yQ] at h
 | a :: z, v :: vs, us, r, hz, hl, h => by
  have q : ∃ k x u' k' y, v = .int k x ∧ us = .int k' y :: u' ∧ k = k' := by
   cases us with
   | nil => cases v <;> simp [yQ] at h
   | cons u us =>
    cases v <;> cases u <;> simp [yQ] at h
    exact ⟨_, _, _, _, _, rfl, rfl, h.1⟩
  obtain ⟨k, x, u', k', y, rfl, rfl, hk⟩ := q
  simp only [yQ, hk, if_true, Option.map_eq_some_iff] at h
  obtain ⟨r', e1, rfl⟩ := h
  simp only [List.all_cons, Bool.and_eq_true] at hz
  obtain ⟨q1, q2⟩ := z2h hz.2 (by simpa using hl) e1
  refine ⟨?_, by simp [Go.Ex.yQ, hk, q2]⟩
  cases a <;> first | (simp [zfo] at hz; done) | simpa [Go.Ex.z1d] using q1
 | [], _ :: _, _, _, _, hl, _ => by simp at hl
 | _ :: _, [], _, _, _, hl, _ => by simp at hl
variable {P : Program}
theorem W4 {t n : Nat} {i : Go.Ex.EI} (h : Go.Ex.z9C P t i) {z : List Value} (hz : i.zero = some z) (hi : z.all zfo = true) (hs : i.size = n) (hn : z.length = n) : z9C P t n := {
 guard := h.guard
 run := fun vs us r w hv hu he => by
  obtain ⟨q1, q2⟩ := z2h hi (by rw [hn, hv]) he
  exact h.run vs us r w (by rw [hs]; exact hv) (by rw [hs]; exact hu) (by simpa only [Go.Ex.zfu, hz] using q1) q2 }
variable {h : Array Obj}{S : zn}
theorem zk {v : Value} (hv : v.oneCell' = true) : zJ S h (.atom v) [v] [] := by simp only [zJ, Rep]; exact ⟨⟨trivial, hv⟩, trivial⟩
theorem xu (sz : Nat) : zJ S h (.osl sz true []) [.slice none 0 0] [] := by
 simp only [zJ]
 exact ⟨none, 0, rfl, (fun _ => rfl), Nat.le_refl _, Nat.zero_le _, by simp, .inl ⟨trivial, rfl, rfl, trivial⟩⟩
variable {a : A}
theorem z6B {c : List Value} (q : zJ S h a c []) : ∀ n, zN S h (List.replicate n a) (List.replicate n c).flatten []
 | 0 => by simp [zN]
 | n + 1 => by
  rw [List.replicate_succ, List.replicate_succ, List.flatten_cons]
  simp only [zN]
  exact ⟨c, _, [], [], rfl, rfl, q, z6B q n⟩
theorem zih {c c' : List Value} (q : zJ S h a c []) (e : c' = c) : zJ S h a c' [] := e ▸ q
variable {fs : List A}
theorem x4 {cs : List Value} (q : zN S h fs cs []) : zJ S h (.agg fs) cs [] := by simpa only [zJ] using q
theorem yq : zN S h [] [] [] := by simp [zN]
theorem zo {c1 c2 : List Value} (q1 : zJ S h a c1 []) (q2 : zN S h fs c2 []) : zN S h (a :: fs) (c1 ++ c2) [] := by simp only [zN]; exact ⟨c1, c2, [], [], rfl, rfl, q1, q2⟩
def ti1 : TI := ⟨.other, 1, 8, some (.atom .nilFunc), false⟩
theorem zbR : qL Tryz.prog 1 ti1 := ⟨⟨Tryz.t1, by kernel_rfl, rfl, rfl, fun z h => by cases h; exact ⟨_, rfl, rfl, fun S h => zk rfl⟩⟩, ⟨_, Tryz.underlying1, rfl⟩, by intro h; cases h⟩
def ti2 : TI := ⟨.int .i64, 1, 8, some (.atom (.int .i64 0)), false⟩
theorem zbQ : qL Tryz.prog 2 ti2 := ⟨⟨Tryz.t2, by kernel_rfl, rfl, rfl, fun z h => by cases h; exact ⟨_, rfl, rfl, fun S h => zk rfl⟩⟩, Tryz.underlying2, by intro h; cases h⟩
def ti3 : TI := ⟨.int .i64, 1, 8, some (.atom (.int .i64 0)), false⟩
theorem zbP : qL Tryz.prog 3 ti3 := ⟨⟨Tryz.t3, by kernel_rfl, rfl, rfl, fun z h => by cases h; exact ⟨_, rfl, rfl, fun S h => zk rfl⟩⟩, Tryz.underlying3, by intro h; cases h⟩
def ti4 : TI := ⟨.bool, 1, 1, some (.atom (.bool false)), false⟩
theorem zbO : qL Tryz.prog 4 ti4 := ⟨⟨Tryz.t4, by kernel_rfl, rfl, rfl, fun z h => by cases h; exact ⟨_, rfl, rfl, fun S h => zk rfl⟩⟩, Tryz.underlying4, by intro h; cases h⟩
def ti5 : TI := ⟨.int .u8, 1, 1, some (.atom (.int .u8 0)), false⟩
theorem zbN : qL Tryz.prog 5 ti5 := ⟨⟨Tryz.t5, by kernel_rfl, rfl, rfl, fun z h => by cases h; exact ⟨_, rfl, rfl, fun S h => zk rfl⟩⟩, Tryz.underlying5, by intro h; cases h⟩
def ti9 : TI := ⟨.str, 1, 16, some (.atom (.string ⟨#[]⟩)), false⟩
theorem zbM : qL Tryz.prog 9 ti9 := ⟨⟨Tryz.t9, by kernel_rfl, rfl, rfl, fun z h => by cases h; exact ⟨_, rfl, rfl, fun S h => zk rfl⟩⟩, Tryz.underlying9, by intro h; cases h⟩
def zgY : TI := ⟨.slice 103, 1, 24, some (.osl 1 true []), false⟩
theorem zaf : qL Tryz.prog 22 zgY := ⟨⟨Tryz.t22, by kernel_rfl, rfl, rfl, fun z h => by cases h; exact ⟨_, rfl, rfl, fun S h => xu _⟩⟩, Tryz.underlying22, by intro h; cases h⟩
def zgX : TI := ⟨.struct [(0, 1), (1, 1), (2, 1), (3, 1), (4, 1)], 5, 32, some (.agg [.atom (.int .u8 0), .atom (.int .u8 0), .atom (.int .u8 0), .atom (.bool false), .osl 1 true []]), false⟩
theorem zae : qL Tryz.prog 24 zgX := ⟨⟨Tryz.t24, by kernel_rfl, rfl, rfl, fun z h => by cases h; exact ⟨_, rfl, rfl, fun S h => x4 (zo (zk rfl) (zo (zk rfl) (zo (zk rfl) (zo (zk rfl) (zo (xu _) (yq))))))⟩⟩, ⟨_, Tryz.underlying24, by kernel_rfl, by
  intro f hf
  simp only [List.mem_cons, List.not_mem_nil, or_false] at hf
  rcases hf with rfl | rfl | rfl | rfl | rfl
  ·exact ⟨Tryz.t5, by kernel_rfl⟩
  ·exact ⟨Tryz.t5, by kernel_rfl⟩
  ·exact ⟨Tryz.t5, by kernel_rfl⟩
  ·exact ⟨Tryz.t4, by kernel_rfl⟩
  ·exact ⟨Tryz.t22, by kernel_rfl⟩⟩, by intro h; cases h⟩
def zgW : TI := ⟨.slice 64, 1, 24, some (.osl 1 true []), false⟩
theorem zad : qL Tryz.prog 25 zgW := ⟨⟨Tryz.t25, by kernel_rfl, rfl, rfl, fun z h => by cases h; exact ⟨_, rfl, rfl, fun S h => xu _⟩⟩, Tryz.underlying25, by intro h; cases h⟩
def zgV : TI := ⟨.struct [(0, 5), (5, 1)], 6, 56, some (.agg [.agg [.atom (.int .u8 0), .atom (.int .u8 0), .atom (.int .u8 0), .atom (.bool false), .osl 1 true []], .osl 1 true []]), false⟩
theorem zac : qL Tryz.prog 27 zgV := ⟨⟨Tryz.t27, by kernel_rfl, rfl, rfl, fun z h => by cases h; exact ⟨_, rfl, rfl, fun S h => x4 (zo (x4 (zo (zk rfl) (zo (zk rfl) (zo (zk rfl) (zo (zk rfl) (zo (xu _) (yq))))))) (zo (xu _) (yq)))⟩⟩, ⟨_, Tryz.underlying27, by kernel_rfl, by
  intro f hf
  simp only [List.mem_cons, List.not_mem_nil, or_false] at hf
  rcases hf with rfl | rfl
  ·exact ⟨Tryz.t24, by kernel_rfl⟩
  ·exact ⟨Tryz.t25, by kernel_rfl⟩⟩, by intro h; cases h⟩
def zgU : TI := ⟨.slice 102, 1, 24, some (.osl 1 true []), false⟩
theorem zab : qL Tryz.prog 28 zgU := ⟨⟨Tryz.t28, by kernel_rfl, rfl, rfl, fun z h => by cases h; exact ⟨_, rfl, rfl, fun S h => xu _⟩⟩, Tryz.underlying28, by intro h; cases h⟩
def zgT : TI := ⟨.struct [(0, 1), (1, 1), (2, 1)], 3, 40, some (.agg [.atom (.int .i64 0), .atom (.int .i64 0), .osl 1 true []]), false⟩
theorem zaa : qL Tryz.prog 30 zgT := ⟨⟨Tryz.t30, by kernel_rfl, rfl, rfl, fun z h => by cases h; exact ⟨_, rfl, rfl, fun S h => x4 (zo (zk rfl) (zo (zk rfl) (zo (xu _) (yq))))⟩⟩, ⟨_, Tryz.underlying30, by kernel_rfl, by
  intro f hf
  simp only [List.mem_cons, List.not_mem_nil, or_false] at hf
  rcases hf with rfl | rfl | rfl
  ·exact ⟨Tryz.t3, by kernel_rfl⟩
  ·exact ⟨Tryz.t3, by kernel_rfl⟩
  ·exact ⟨Tryz.t28, by kernel_rfl⟩⟩, by intro h; cases h⟩
def zgS : TI := ⟨.slice 51, 1, 24, some (.osl 1 true []), false⟩
theorem za9 : qL Tryz.prog 31 zgS := ⟨⟨Tryz.t31, by kernel_rfl, rfl, rfl, fun z h => by cases h; exact ⟨_, rfl, rfl, fun S h => xu _⟩⟩, Tryz.underlying31, by intro h; cases h⟩
def zgR : TI := ⟨.array 2 3, 2, 16, some (.agg [.atom (.int .i64 0), .atom (.int .i64 0)]), true⟩
theorem z59 : qL Tryz.prog 34 zgR := ⟨⟨Tryz.t34, by kernel_rfl, rfl, rfl, fun z h => by cases h; exact ⟨_, rfl, rfl, fun S h => x4 (zo (zk rfl) (zo (zk rfl) (yq)))⟩⟩, Tryz.underlying34, fun _ => W4 (Go.Ex.z9q.eqn rfl) rfl rfl rfl rfl⟩
def zgQ : TI := ⟨.struct [(0, 2), (2, 2), (4, 2)], 6, 48, some (.agg [.agg [.atom (.int .i64 0), .atom (.int .i64 0)], .agg [.atom (.int .i64 0), .atom (.int .i64 0)], .agg [.atom (.int .i64 0), .atom (.int .i64 0)]]), true⟩
theorem za8 : qL Tryz.prog 36 zgQ := ⟨⟨Tryz.t36, by kernel_rfl, rfl, rfl, fun z h => by cases h; exact ⟨_, rfl, rfl, fun S h => x4 (zo (x4 (zo (zk rfl) (zo (zk rfl) (yq)))) (zo (x4 (zo (zk rfl) (zo (zk rfl) (yq)))) (zo (x4 (zo (zk rfl) (zo (zk rfl) (yq)))) (yq))))⟩⟩, ⟨_, Tryz.underlying36, by kernel_rfl, by
  intro f hf
  simp only [List.mem_cons, List.not_mem_nil, or_false] at hf
  rcases hf with rfl | rfl | rfl
  ·exact ⟨Tryz.t34, by kernel_rfl⟩
  ·exact ⟨Tryz.t34, by kernel_rfl⟩
  ·exact ⟨Tryz.t34, by kernel_rfl⟩⟩, fun _ => W4 (Go.Ex.zcV.eqn rfl) rfl rfl rfl rfl⟩
def zgP : TI := ⟨.int .i64, 1, 8, some (.atom (.int .i64 0)), false⟩
theorem za7 : qL Tryz.prog 37 zgP := ⟨⟨Tryz.t37, by kernel_rfl, rfl, rfl, fun z h => by cases h; exact ⟨_, rfl, rfl, fun S h => zk rfl⟩⟩, Tryz.underlying37, by intro h; cases h⟩
def zgO : TI := ⟨.other, 1, 8, some (.atom .nilFunc), false⟩
theorem za6 : qL Tryz.prog 46 zgO := ⟨⟨Tryz.t46, by kernel_rfl, rfl, rfl, fun z h => by cases h; exact ⟨_, rfl, rfl, fun S h => zk rfl⟩⟩, ⟨_, Tryz.underlying46, rfl⟩, by intro h; cases h⟩
def zgN : TI := ⟨.slice 60, 1, 24, some (.osl 3 true []), false⟩
theorem za5 : qL Tryz.prog 47 zgN := ⟨⟨Tryz.t47, by kernel_rfl, rfl, rfl, fun z h => by cases h; exact ⟨_, rfl, rfl, fun S h => xu _⟩⟩, Tryz.underlying47, by intro h; cases h⟩
def zgM : TI := ⟨.other, 1, 8, some (.atom .nilFunc), false⟩
theorem za4 : qL Tryz.prog 48 zgM := ⟨⟨Tryz.t48, by kernel_rfl, rfl, rfl, fun z h => by cases h; exact ⟨_, rfl, rfl, fun S h => zk rfl⟩⟩, ⟨_, Tryz.underlying48, rfl⟩, by intro h; cases h⟩
def zgL : TI := ⟨.slice 34, 1, 24, some (.osl 2 true []), false⟩
theorem za3 : qL Tryz.prog 49 zgL := ⟨⟨Tryz.t49, by kernel_rfl, rfl, rfl, fun z h => by cases h; exact ⟨_, rfl, rfl, fun S h => xu _⟩⟩, Tryz.underlying49, by intro h; cases h⟩
def zgK : TI := ⟨.slice 3, 1, 24, some (.osl 1 true []), false⟩
theorem za2 : qL Tryz.prog 51 zgK := ⟨⟨Tryz.t51, by kernel_rfl, rfl, rfl, fun z h => by cases h; exact ⟨_, rfl, rfl, fun S h => xu _⟩⟩, Tryz.underlying51, by intro h; cases h⟩
def zgJ : TI := ⟨.slice 61, 1, 24, some (.osl 3 true []), false⟩
theorem za1 : qL Tryz.prog 56 zgJ := ⟨⟨Tryz.t56, by kernel_rfl, rfl, rfl, fun z h => by cases h; exact ⟨_, rfl, rfl, fun S h => xu _⟩⟩, Tryz.underlying56, by intro h; cases h⟩
def zgI : TI := ⟨.other, 1, 8, some (.atom .nilFunc), false⟩
theorem za0 : qL Tryz.prog 58 zgI := ⟨⟨Tryz.t58, by kernel_rfl, rfl, rfl, fun z h => by cases h; exact ⟨_, rfl, rfl, fun S h => zk rfl⟩⟩, ⟨_, Tryz.underlying58, rfl⟩, by intro h; cases h⟩
def zgH : TI := ⟨.struct [(0, 1), (1, 1), (2, 1)], 3, 24, some (.agg [.atom (.int .i64 0), .atom (.int .i64 0), .atom (.int .i64 0)]), true⟩
theorem z9Z : qL Tryz.prog 60 zgH := ⟨⟨Tryz.t60, by kernel_rfl, rfl, rfl, fun z h => by cases h; exact ⟨_, rfl, rfl, fun S h => x4 (zo (zk rfl) (zo (zk rfl) (zo (zk rfl) (yq))))⟩⟩, ⟨_, Tryz.underlying60, by kernel_rfl, by
  intro f hf
  simp only [List.mem_cons, List.not_mem_nil, or_false] at hf
  rcases hf with rfl | rfl | rfl
  ·exact ⟨Tryz.t3, by kernel_rfl⟩
  ·exact ⟨Tryz.t3, by kernel_rfl⟩
  ·exact ⟨Tryz.t3, by kernel_rfl⟩⟩, fun _ => W4 (Go.Ex.zcU.eqn rfl) rfl rfl rfl rfl⟩
def zgG : TI := ⟨.struct [(0, 1), (1, 1), (2, 1)], 3, 24, some (.agg [.atom (.int .i64 0), .atom (.int .i64 0), .atom (.int .i64 0)]), true⟩
theorem z58 : qL Tryz.prog 61 zgG := ⟨⟨Tryz.t61, by kernel_rfl, rfl, rfl, fun z h => by cases h; exact ⟨_, rfl, rfl, fun S h => x4 (zo (zk rfl) (zo (zk rfl) (zo (zk rfl) (yq))))⟩⟩, ⟨_, Tryz.underlying61, by kernel_rfl, by
  intro f hf
  simp only [List.mem_cons, List.not_mem_nil, or_false] at hf
  rcases hf with rfl | rfl | rfl
  ·exact ⟨Tryz.t3, by kernel_rfl⟩
  ·exact ⟨Tryz.t3, by kernel_rfl⟩
  ·exact ⟨Tryz.t3, by kernel_rfl⟩⟩, fun _ => W4 (Go.Ex.z9p.eqn rfl) rfl rfl rfl rfl⟩
def zgF : TI := ⟨.slice 5, 1, 24, some (.osl 1 true []), false⟩
theorem z9Y : qL Tryz.prog 64 zgF := ⟨⟨Tryz.t64, by kernel_rfl, rfl, rfl, fun z h => by cases h; exact ⟨_, rfl, rfl, fun S h => xu _⟩⟩, Tryz.underlying64, by intro h; cases h⟩
def zgE : TI := ⟨.other, 1, 8, some (.atom (.map none)), false⟩
theorem z9X : qL Tryz.prog 67 zgE := ⟨⟨Tryz.t67, by kernel_rfl, rfl, rfl, fun z h => by cases h; exact ⟨_, rfl, rfl, fun S h => zk rfl⟩⟩, ⟨_, Tryz.underlying67, rfl⟩, by intro h; cases h⟩
def zgD : TI := ⟨.other, 1, 8, some (.atom (.map none)), false⟩
theorem z9W : qL Tryz.prog 68 zgD := ⟨⟨Tryz.t68, by kernel_rfl, rfl, rfl, fun z h => by cases h; exact ⟨_, rfl, rfl, fun S h => zk rfl⟩⟩, ⟨_, Tryz.underlying68, rfl⟩, by intro h; cases h⟩
def zgC : TI := ⟨.other, 1, 8, some (.atom (.map none)), false⟩
theorem z9V : qL Tryz.prog 69 zgC := ⟨⟨Tryz.t69, by kernel_rfl, rfl, rfl, fun z h => by cases h; exact ⟨_, rfl, rfl, fun S h => zk rfl⟩⟩, ⟨_, Tryz.underlying69, rfl⟩, by intro h; cases h⟩
def zgB : TI := ⟨.struct [(0, 1), (1, 1), (2, 1)], 3, 24, some (.agg [.atom (.map none), .atom (.map none), .atom (.map none)]), false⟩
theorem z9U : qL Tryz.prog 71 zgB := ⟨⟨Tryz.t71, by kernel_rfl, rfl, rfl, fun z h => by cases h; exact ⟨_, rfl, rfl, fun S h => x4 (zo (zk rfl) (zo (zk rfl) (zo (zk rfl) (yq))))⟩⟩, ⟨_, Tryz.underlying71, by kernel_rfl, by
  intro f hf
  simp only [List.mem_cons, List.not_mem_nil, or_false] at hf
  rcases hf with rfl | rfl | rfl
  ·exact ⟨Tryz.t67, by kernel_rfl⟩
  ·exact ⟨Tryz.t68, by kernel_rfl⟩
  ·exact ⟨Tryz.t69, by kernel_rfl⟩⟩, by intro h; cases h⟩
def zgA : TI := ⟨.array 3 34, 6, 48, some (.agg [.agg [.atom (.int .i64 0), .atom (.int .i64 0)], .agg [.atom (.int .i64 0), .atom (.int .i64 0)], .agg [.atom (.int .i64 0), .atom (.int .i64 0)]]), true⟩
theorem z9T : qL Tryz.prog 73 zgA := ⟨⟨Tryz.t73, by kernel_rfl, rfl, rfl, fun z h => by cases h; exact ⟨_, rfl, rfl, fun S h => x4 (zo (x4 (zo (zk rfl) (zo (zk rfl) (yq)))) (zo (x4 (zo (zk rfl) (zo (zk rfl) (yq)))) (zo (x4 (zo (zk rfl) (zo (zk rfl) (yq)))) (yq))))⟩⟩, Tryz.underlying73, fun _ => W4 (Go.Ex.zcT.eqn rfl) rfl rfl rfl rfl⟩
def zgz : TI := ⟨.slice 82, 1, 24, some (.osl 5 true []), false⟩
theorem z9S : qL Tryz.prog 75 zgz := ⟨⟨Tryz.t75, by kernel_rfl, rfl, rfl, fun z h => by cases h; exact ⟨_, rfl, rfl, fun S h => xu _⟩⟩, Tryz.underlying75, by intro h; cases h⟩
def zgy : TI := ⟨.other, 1, 8, some (.atom .nilFunc), false⟩
theorem z9R : qL Tryz.prog 78 zgy := ⟨⟨Tryz.t78, by kernel_rfl, rfl, rfl, fun z h => by cases h; exact ⟨_, rfl, rfl, fun S h => zk rfl⟩⟩, ⟨_, Tryz.underlying78, rfl⟩, by intro h; cases h⟩
def zgx : TI := ⟨.other, 1, 8, some (.atom .nilFunc), false⟩
theorem z9Q : qL Tryz.prog 80 zgx := ⟨⟨Tryz.t80, by kernel_rfl, rfl, rfl, fun z h => by cases h; exact ⟨_, rfl, rfl, fun S h => zk rfl⟩⟩, ⟨_, Tryz.underlying80, rfl⟩, by intro h; cases h⟩
def zgw : TI := ⟨.struct [(0, 1), (1, 3), (4, 1)], 5, 56, some (.agg [.osl 1 true [], .agg [.atom (.int .i64 0), .atom (.int .i64 0), .atom (.int .i64 0)], .atom .nilFunc]), false⟩
theorem z9P : qL Tryz.prog 82 zgw := ⟨⟨Tryz.t82, by kernel_rfl, rfl, rfl, fun z h => by cases h; exact ⟨_, rfl, rfl, fun S h => x4 (zo (xu _) (zo (x4 (zo (zk rfl) (zo (zk rfl) (zo (zk rfl) (yq))))) (zo (zk rfl) (yq))))⟩⟩, ⟨_, Tryz.underlying82, by kernel_rfl, by
  intro f hf
  simp only [List.mem_cons, List.not_mem_nil, or_false] at hf
  rcases hf with rfl | rfl | rfl
  ·exact ⟨Tryz.t51, by kernel_rfl⟩
  ·exact ⟨Tryz.t61, by kernel_rfl⟩
  ·exact ⟨Tryz.t80, by kernel_rfl⟩⟩, by intro h; cases h⟩
def zgv : TI := ⟨.other, 1, 8, some (.atom .nilFunc), false⟩
theorem z9O : qL Tryz.prog 85 zgv := ⟨⟨Tryz.t85, by kernel_rfl, rfl, rfl, fun z h => by cases h; exact ⟨_, rfl, rfl, fun S h => zk rfl⟩⟩, ⟨_, Tryz.underlying85, rfl⟩, by intro h; cases h⟩
def zgu : TI := ⟨.slice 4, 1, 24, some (.osl 1 true []), false⟩
theorem z9N : qL Tryz.prog 86 zgu := ⟨⟨Tryz.t86, by kernel_rfl, rfl, rfl, fun z h => by cases h; exact ⟨_, rfl, rfl, fun S h => xu _⟩⟩, Tryz.underlying86, by intro h; cases h⟩
def zgt : TI := ⟨.ptr 95, 1, 8, some (.atom (.pointer none)), false⟩
theorem z9M : qL Tryz.prog 90 zgt := ⟨⟨Tryz.t90, by kernel_rfl, rfl, rfl, fun z h => by cases h; exact ⟨_, rfl, rfl, fun S h => zk rfl⟩⟩, Tryz.underlying90, by intro h; cases h⟩
def zgs : TI := ⟨.slice 117, 1, 24, some (.osl 1 true []), false⟩
theorem z9L : qL Tryz.prog 91 zgs := ⟨⟨Tryz.t91, by kernel_rfl, rfl, rfl, fun z h => by cases h; exact ⟨_, rfl, rfl, fun S h => xu _⟩⟩, Tryz.underlying91, by intro h; cases h⟩
def zgr : TI := ⟨.slice 91, 1, 24, some (.osl 1 true []), false⟩
theorem z9K : qL Tryz.prog 93 zgr := ⟨⟨Tryz.t93, by kernel_rfl, rfl, rfl, fun z h => by cases h; exact ⟨_, rfl, rfl, fun S h => xu _⟩⟩, Tryz.underlying93, by intro h; cases h⟩
def zgq : TI := ⟨.struct [(0, 1), (1, 1)], 2, 48, some (.agg [.osl 1 true [], .osl 1 true []]), false⟩
theorem z9J : qL Tryz.prog 95 zgq := ⟨⟨Tryz.t95, by kernel_rfl, rfl, rfl, fun z h => by cases h; exact ⟨_, rfl, rfl, fun S h => x4 (zo (xu _) (zo (xu _) (yq)))⟩⟩, ⟨_, Tryz.underlying95, by kernel_rfl, by
  intro f hf
  simp only [List.mem_cons, List.not_mem_nil, or_false] at hf
  rcases hf with rfl | rfl
  ·exact ⟨Tryz.t93, by kernel_rfl⟩
  ·exact ⟨Tryz.t91, by kernel_rfl⟩⟩, by intro h; cases h⟩
def zc6 : TI := ⟨.slice 105, 1, 24, some (.osl 2 true []), false⟩
theorem z7w : qL Tryz.prog 102 zc6 := ⟨⟨Tryz.t102, by kernel_rfl, rfl, rfl, fun z h => by cases h; exact ⟨_, rfl, rfl, fun S h => xu _⟩⟩, Tryz.underlying102, by intro h; cases h⟩
def zc5 : TI := ⟨.int .u16, 1, 2, some (.atom (.int .u16 0)), false⟩
theorem z7v : qL Tryz.prog 103 zc5 := ⟨⟨Tryz.t103, by kernel_rfl, rfl, rfl, fun z h => by cases h; exact ⟨_, rfl, rfl, fun S h => zk rfl⟩⟩, Tryz.underlying103, by intro h; cases h⟩
def zc4 : TI := ⟨.struct [(0, 1), (1, 1)], 2, 16, some (.agg [.atom (.int .i64 0), .atom (.int .i64 0)]), true⟩
theorem z7u : qL Tryz.prog 105 zc4 := ⟨⟨Tryz.t105, by kernel_rfl, rfl, rfl, fun z h => by cases h; exact ⟨_, rfl, rfl, fun S h => x4 (zo (zk rfl) (zo (zk rfl) (yq)))⟩⟩, ⟨_, Tryz.underlying105, by kernel_rfl, by
  intro f hf
  simp only [List.mem_cons, List.not_mem_nil, or_false] at hf
  rcases hf with rfl | rfl
  ·exact ⟨Tryz.t3, by kernel_rfl⟩
  ·exact ⟨Tryz.t3, by kernel_rfl⟩⟩, fun _ => W4 (Go.Ex.zb6.eqn rfl) rfl rfl rfl rfl⟩
def zc3 : TI := ⟨.array 3 3, 3, 24, some (.agg [.atom (.int .i64 0), .atom (.int .i64 0), .atom (.int .i64 0)]), true⟩
theorem z7t : qL Tryz.prog 109 zc3 := ⟨⟨Tryz.t109, by kernel_rfl, rfl, rfl, fun z h => by cases h; exact ⟨_, rfl, rfl, fun S h => x4 (zo (zk rfl) (zo (zk rfl) (zo (zk rfl) (yq))))⟩⟩, Tryz.underlying109, fun _ => W4 (Go.Ex.zb5.eqn rfl) rfl rfl rfl rfl⟩
def zc2 : TI := ⟨.array 3 9, 3, 48, some (.agg [.atom (.string ⟨#[]⟩), .atom (.string ⟨#[]⟩), .atom (.string ⟨#[]⟩)]), false⟩
theorem z7s : qL Tryz.prog 112 zc2 := ⟨⟨Tryz.t112, by kernel_rfl, rfl, rfl, fun z h => by cases h; exact ⟨_, rfl, rfl, fun S h => x4 (zo (zk rfl) (zo (zk rfl) (zo (zk rfl) (yq))))⟩⟩, Tryz.underlying112, by intro h; cases h⟩
def zc1 : TI := ⟨.int .u64, 1, 8, some (.atom (.int .u64 0)), false⟩
theorem z7r : qL Tryz.prog 117 zc1 := ⟨⟨Tryz.t117, by kernel_rfl, rfl, rfl, fun z h => by cases h; exact ⟨_, rfl, rfl, fun S h => zk rfl⟩⟩, Tryz.underlying117, by intro h; cases h⟩
def zc0 : TI := ⟨.other, 1, 8, some (.atom .nilFunc), false⟩
theorem z7q : qL Tryz.prog 123 zc0 := ⟨⟨Tryz.t123, by kernel_rfl, rfl, rfl, fun z h => by cases h; exact ⟨_, rfl, rfl, fun S h => zk rfl⟩⟩, ⟨_, Tryz.underlying123, rfl⟩, by intro h; cases h⟩
def zbZ : TI := ⟨.other, 1, 8, some (.atom .nilFunc), false⟩
theorem z7p : qL Tryz.prog 129 zbZ := ⟨⟨Tryz.t129, by kernel_rfl, rfl, rfl, fun z h => by cases h; exact ⟨_, rfl, rfl, fun S h => zk rfl⟩⟩, ⟨_, Tryz.underlying129, rfl⟩, by intro h; cases h⟩
def zbY : TI := ⟨.other, 1, 8, some (.atom .nilFunc), false⟩
theorem z7o : qL Tryz.prog 134 zbY := ⟨⟨Tryz.t134, by kernel_rfl, rfl, rfl, fun z h => by cases h; exact ⟨_, rfl, rfl, fun S h => zk rfl⟩⟩, ⟨_, Tryz.underlying134, rfl⟩, by intro h; cases h⟩
def zbX : TI := ⟨.other, 1, 8, some (.atom .nilFunc), false⟩
theorem z7n : qL Tryz.prog 135 zbX := ⟨⟨Tryz.t135, by kernel_rfl, rfl, rfl, fun z h => by cases h; exact ⟨_, rfl, rfl, fun S h => zk rfl⟩⟩, ⟨_, Tryz.underlying135, rfl⟩, by intro h; cases h⟩
def zbW : TI := ⟨.struct [(0, 1), (1, 1), (2, 1)], 3, 24, some (.agg [.atom (.int .i64 0), .atom (.int .i64 0), .atom (.int .i64 0)]), true⟩
theorem z7m : qL Tryz.prog 138 zbW := ⟨⟨Tryz.t138, by kernel_rfl, rfl, rfl, fun z h => by cases h; exact ⟨_, rfl, rfl, fun S h => x4 (zo (zk rfl) (zo (zk rfl) (zo (zk rfl) (yq))))⟩⟩, ⟨_, Tryz.underlying138, by kernel_rfl, by
  intro f hf
  simp only [List.mem_cons, List.not_mem_nil, or_false] at hf
  rcases hf with rfl | rfl | rfl
  ·exact ⟨Tryz.t3, by kernel_rfl⟩
  ·exact ⟨Tryz.t3, by kernel_rfl⟩
  ·exact ⟨Tryz.t3, by kernel_rfl⟩⟩, fun _ => W4 (Go.Ex.zb4.eqn rfl) rfl rfl rfl rfl⟩
def zbV : TI := ⟨.other, 1, 8, some (.atom .nilFunc), false⟩
theorem z7l : qL Tryz.prog 141 zbV := ⟨⟨Tryz.t141, by kernel_rfl, rfl, rfl, fun z h => by cases h; exact ⟨_, rfl, rfl, fun S h => zk rfl⟩⟩, ⟨_, Tryz.underlying141, rfl⟩, by intro h; cases h⟩
def zbU : TI := ⟨.other, 1, 8, some (.atom .nilFunc), false⟩
theorem z7k : qL Tryz.prog 148 zbU := ⟨⟨Tryz.t148, by kernel_rfl, rfl, rfl, fun z h => by cases h; exact ⟨_, rfl, rfl, fun S h => zk rfl⟩⟩, ⟨_, Tryz.underlying148, rfl⟩, by intro h; cases h⟩
def zbT : TI := ⟨.slice 138, 1, 24, some (.osl 3 true []), false⟩
theorem z7j : qL Tryz.prog 149 zbT := ⟨⟨Tryz.t149, by kernel_rfl, rfl, rfl, fun z h => by cases h; exact ⟨_, rfl, rfl, fun S h => xu _⟩⟩, Tryz.underlying149, by intro h; cases h⟩
def zbS : TI := ⟨.array 24 5, 24, 24, some (.agg [.atom (.int .u8 0), .atom (.int .u8 0), .atom (.int .u8 0), .atom (.int .u8 0), .atom (.int .u8 0), .atom (.int .u8 0), .atom (.int .u8 0), .atom (.int .u8 0), .atom (.int .u8 0), .atom (.int .u8 0), .atom (.int .u8 0), .atom (.int .u8 0), .atom (.int .u8 0), .atom (.int .u8 0), .atom (.int .u8 0), .atom (.int .u8 0), .atom (.int .u8 0), .atom (.int .u8 0), .atom (.int .u8 0), .atom (.int .u8 0), .atom (.int .u8 0), .atom (.int .u8 0), .atom (.int .u8 0), .atom (.int .u8 0)]), false⟩
theorem z7i : qL Tryz.prog 150 zbS := ⟨⟨Tryz.t150, by kernel_rfl, rfl, rfl, fun z h => by cases h; exact ⟨_, rfl, rfl, fun S h => x4 (zo (zk rfl) (zo (zk rfl) (zo (zk rfl) (zo (zk rfl) (zo (zk rfl) (zo (zk rfl) (zo (zk rfl) (zo (zk rfl) (zo (zk rfl) (zo (zk rfl) (zo (zk rfl) (zo (zk rfl) (zo (zk rfl) (zo (zk rfl) (zo (zk rfl) (zo (zk rfl) (zo (zk rfl) (zo (zk rfl) (zo (zk rfl) (zo (zk rfl) (zo (zk rfl) (zo (zk rfl) (zo (zk rfl) (zo (zk rfl) (yq)))))))))))))))))))))))))⟩⟩, Tryz.underlying150, by intro h; cases h⟩
def tiL : List (Nat × TI) := [(1, ti1), (2, ti2), (3, ti3), (4, ti4), (5, ti5), (9, ti9), (22, zgY), (24, zgX), (25, zgW), (27, zgV), (28, zgU), (30, zgT), (31, zgS), (34, zgR), (36, zgQ), (37, zgP), (46, zgO), (47, zgN), (48, zgM), (49, zgL), (51, zgK), (56, zgJ), (58, zgI), (60, zgH), (61, zgG), (64, zgF), (67, zgE), (68, zgD), (69, zgC), (71, zgB), (73, zgA), (75, zgz), (78, zgy), (80, zgx), (82, zgw), (85, zgv), (86, zgu), (90, zgt), (91, zgs), (93, zgr), (95, zgq), (102, zc6), (103, zc5), (105, zc4), (109, zc3), (112, zc2), (117, zc1), (123, zc0), (129, zbZ), (134, zbY), (135, zbX), (138, zbW), (141, zbV), (148, zbU), (149, zbT), (150, zbS)]
def wm : TT := fun t => (tiL.find? fun p => p.1 == t).map (·.2)
def z78 (P : Program) : List (Nat × TI) → Prop
 | [] => True
 | p :: l => qL P p.1 p.2 ∧ z78 P l
theorem z78.mem : ∀ {l : List (Nat × TI)}, z78 P l → ∀ p ∈ l, qL P p.1 p.2
 | p :: _, h, q, hq => by
  rcases List.mem_cons.1 hq with rfl | hq
  ·exact h.1
  ·exact z78.mem h.2 q hq
 | [], _, _, hq => by cases hq
theorem zbL : z78 Tryz.prog tiL := ⟨zbR, zbQ, zbP, zbO, zbN, zbM, zaf, zae, zad, zac, zab, zaa, za9, z59, za8, za7, za6, za5, za4, za3, za2, za1, za0, z9Z, z58, z9Y, z9X, z9W, z9V, z9U, z9T, z9S, z9R, z9Q, z9P, z9O, z9N, z9M, z9L, z9K, z9J, z7w, z7v, z7u, z7t, z7s, z7r, z7q, z7p, z7o, z7n, z7m, z7l, z7k, z7j, z7i, trivial⟩
theorem zD : xH Tryz.prog wm := by
 intro t i h
 unfold wm at h
 rw [Option.map_eq_some_iff] at h
 obtain ⟨p, h1, rfl⟩ := h
 have h2 := List.find?_some h1
 have h3 := zbL.mem p (List.mem_of_find?_eq_some h1)
 rw [beq_iff_eq.1 h2] at h3
 exact h3
theorem zin : wm 1 = some ⟨.other, 1, 8, some (.atom .nilFunc), false⟩ := rfl
theorem zim : wm 2 = some ⟨.int .i64, 1, 8, some (.atom (.int .i64 0)), false⟩ := rfl
theorem zil : wm 3 = some ⟨.int .i64, 1, 8, some (.atom (.int .i64 0)), false⟩ := rfl
theorem zik : wm 4 = some ⟨.bool, 1, 1, some (.atom (.bool false)), false⟩ := rfl
theorem zij : wm 5 = some ⟨.int .u8, 1, 1, some (.atom (.int .u8 0)), false⟩ := rfl
theorem zii : wm 9 = some ⟨.str, 1, 16, some (.atom (.string ⟨#[]⟩)), false⟩ := rfl
theorem zg8 : wm 22 = some ⟨.slice 103, 1, 24, some (.osl 1 true []), false⟩ := rfl
theorem zg7 : wm 24 = some ⟨.struct [(0, 1), (1, 1), (2, 1), (3, 1), (4, 1)], 5, 32, some (.agg [.atom (.int .u8 0), .atom (.int .u8 0), .atom (.int .u8 0), .atom (.bool false), .osl 1 true []]), false⟩ := rfl
theorem zg6 : wm 25 = some ⟨.slice 64, 1, 24, some (.osl 1 true []), false⟩ := rfl
theorem zg5 : wm 27 = some ⟨.struct [(0, 5), (5, 1)], 6, 56, some (.agg [.agg [.atom (.int .u8 0), .atom (.int .u8 0), .atom (.int .u8 0), .atom (.bool false), .osl 1 true []], .osl 1 true []]), false⟩ := rfl
theorem zg4 : wm 28 = some ⟨.slice 102, 1, 24, some (.osl 1 true []), false⟩ := rfl
theorem zg3 : wm 30 = some ⟨.struct [(0, 1), (1, 1), (2, 1)], 3, 40, some (.agg [.atom (.int .i64 0), .atom (.int .i64 0), .osl 1 true []]), false⟩ := rfl
theorem zg2 : wm 31 = some ⟨.slice 51, 1, 24, some (.osl 1 true []), false⟩ := rfl
theorem zg1 : wm 34 = some ⟨.array 2 3, 2, 16, some (.agg [.atom (.int .i64 0), .atom (.int .i64 0)]), true⟩ := rfl
theorem zg0 : wm 36 = some ⟨.struct [(0, 2), (2, 2), (4, 2)], 6, 48, some (.agg [.agg [.atom (.int .i64 0), .atom (.int .i64 0)], .agg [.atom (.int .i64 0), .atom (.int .i64 0)], .agg [.atom (.int .i64 0), .atom (.int .i64 0)]]), true⟩ := rfl
theorem zfZ : wm 37 = some ⟨.int .i64, 1, 8, some (.atom (.int .i64 0)), false⟩ := rfl
theorem zfY : wm 46 = some ⟨.other, 1, 8, some (.atom .nilFunc), false⟩ := rfl
theorem zfX : wm 47 = some ⟨.slice 60, 1, 24, some (.osl 3 true []), false⟩ := rfl
theorem zfW : wm 48 = some ⟨.other, 1, 8, some (.atom .nilFunc), false⟩ := rfl
theorem zfV : wm 49 = some ⟨.slice 34, 1, 24, some (.osl 2 true []), false⟩ := rfl
theorem zfU : wm 51 = some ⟨.slice 3, 1, 24, some (.osl 1 true []), false⟩ := rfl
theorem zfT : wm 56 = some ⟨.slice 61, 1, 24, some (.osl 3 true []), false⟩ := rfl
theorem zfS : wm 58 = some ⟨.other, 1, 8, some (.atom .nilFunc), false⟩ := rfl
theorem zfR : wm 60 = some ⟨.struct [(0, 1), (1, 1), (2, 1)], 3, 24, some (.agg [.atom (.int .i64 0), .atom (.int .i64 0), .atom (.int .i64 0)]), true⟩ := rfl
theorem zfQ : wm 61 = some ⟨.struct [(0, 1), (1, 1), (2, 1)], 3, 24, some (.agg [.atom (.int .i64 0), .atom (.int .i64 0), .atom (.int .i64 0)]), true⟩ := rfl
theorem zfP : wm 64 = some ⟨.slice 5, 1, 24, some (.osl 1 true []), false⟩ := rfl
theorem zfO : wm 67 = some ⟨.other, 1, 8, some (.atom (.map none)), false⟩ := rfl
theorem zfN : wm 68 = some ⟨.other, 1, 8, some (.atom (.map none)), false⟩ := rfl
theorem zfM : wm 69 = some ⟨.other, 1, 8, some (.atom (.map none)), false⟩ := rfl
theorem zfL : wm 71 = some ⟨.struct [(0, 1), (1, 1), (2, 1)], 3, 24, some (.agg [.atom (.map none), .atom (.map none), .atom (.map none)]), false⟩ := rfl
theorem zfK : wm 73 = some ⟨.array 3 34, 6, 48, some (.agg [.agg [.atom (.int .i64 0), .atom (.int .i64 0)], .agg [.atom (.int .i64 0), .atom (.int .i64 0)], .agg [.atom (.int .i64 0), .atom (.int .i64 0)]]), true⟩ := rfl
theorem zfJ : wm 75 = some ⟨.slice 82, 1, 24, some (.osl 5 true []), false⟩ := rfl
theorem zfI : wm 78 = some ⟨.other, 1, 8, some (.atom .nilFunc), false⟩ := rfl
theorem zfH : wm 80 = some ⟨.other, 1, 8, some (.atom .nilFunc), false⟩ := rfl
theorem zfG : wm 82 = some ⟨.struct [(0, 1), (1, 3), (4, 1)], 5, 56, some (.agg [.osl 1 true [], .agg [.atom (.int .i64 0), .atom (.int .i64 0), .atom (.int .i64 0)], .atom .nilFunc]), false⟩ := rfl
theorem zfF : wm 85 = some ⟨.other, 1, 8, some (.atom .nilFunc), false⟩ := rfl
theorem zfE : wm 86 = some ⟨.slice 4, 1, 24, some (.osl 1 true []), false⟩ := rfl
theorem zfD : wm 90 = some ⟨.ptr 95, 1, 8, some (.atom (.pointer none)), false⟩ := rfl
theorem zfC : wm 91 = some ⟨.slice 117, 1, 24, some (.osl 1 true []), false⟩ := rfl
theorem zfB : wm 93 = some ⟨.slice 91, 1, 24, some (.osl 1 true []), false⟩ := rfl
theorem zfA : wm 95 = some ⟨.struct [(0, 1), (1, 1)], 2, 48, some (.agg [.osl 1 true [], .osl 1 true []]), false⟩ := rfl
theorem zdy : wm 102 = some ⟨.slice 105, 1, 24, some (.osl 2 true []), false⟩ := rfl
theorem zdx : wm 103 = some ⟨.int .u16, 1, 2, some (.atom (.int .u16 0)), false⟩ := rfl
theorem zdw : wm 105 = some ⟨.struct [(0, 1), (1, 1)], 2, 16, some (.agg [.atom (.int .i64 0), .atom (.int .i64 0)]), true⟩ := rfl
theorem zdv : wm 109 = some ⟨.array 3 3, 3, 24, some (.agg [.atom (.int .i64 0), .atom (.int .i64 0), .atom (.int .i64 0)]), true⟩ := rfl
theorem zdu : wm 112 = some ⟨.array 3 9, 3, 48, some (.agg [.atom (.string ⟨#[]⟩), .atom (.string ⟨#[]⟩), .atom (.string ⟨#[]⟩)]), false⟩ := rfl
theorem zdt : wm 117 = some ⟨.int .u64, 1, 8, some (.atom (.int .u64 0)), false⟩ := rfl
theorem zds : wm 123 = some ⟨.other, 1, 8, some (.atom .nilFunc), false⟩ := rfl
theorem zdr : wm 129 = some ⟨.other, 1, 8, some (.atom .nilFunc), false⟩ := rfl
theorem zdq : wm 134 = some ⟨.other, 1, 8, some (.atom .nilFunc), false⟩ := rfl
theorem zdp : wm 135 = some ⟨.other, 1, 8, some (.atom .nilFunc), false⟩ := rfl
theorem zdo : wm 138 = some ⟨.struct [(0, 1), (1, 1), (2, 1)], 3, 24, some (.agg [.atom (.int .i64 0), .atom (.int .i64 0), .atom (.int .i64 0)]), true⟩ := rfl
theorem zdn : wm 141 = some ⟨.other, 1, 8, some (.atom .nilFunc), false⟩ := rfl
theorem zdm : wm 148 = some ⟨.other, 1, 8, some (.atom .nilFunc), false⟩ := rfl
theorem zdl : wm 149 = some ⟨.slice 138, 1, 24, some (.osl 3 true []), false⟩ := rfl
theorem zdk : wm 150 = some ⟨.array 24 5, 24, 24, some (.agg [.atom (.int .u8 0), .atom (.int .u8 0), .atom (.int .u8 0), .atom (.int .u8 0), .atom (.int .u8 0), .atom (.int .u8 0), .atom (.int .u8 0), .atom (.int .u8 0), .atom (.int .u8 0), .atom (.int .u8 0), .atom (.int .u8 0), .atom (.int .u8 0), .atom (.int .u8 0), .atom (.int .u8 0), .atom (.int .u8 0), .atom (.int .u8 0), .atom (.int .u8 0), .atom (.int .u8 0), .atom (.int .u8 0), .atom (.int .u8 0), .atom (.int .u8 0), .atom (.int .u8 0), .atom (.int .u8 0), .atom (.int .u8 0)]), false⟩ := rfl
attribute [go_sem] zin zim zil zik zij zii zg8 zg7 zg6 zg5 zg4 zg3 zg2 zg1 zg0 zfZ zfY zfX zfW zfV zfU zfT zfS zfR zfQ zfP zfO zfN zfM zfL zfK zfJ zfI zfH zfG zfF zfE zfD zfC zfB zfA zdy zdx zdw zdv zdu zdt zds zdr zdq zdp zdo zdn zdm zdl zdk
structure xp (α : Type) where
 e0 : α
 e1 : α
 deriving DecidableEq
instance {α : Type} [BEq α] : BEq (xp α) := ⟨fun x y => (x.e0 == y.e0) && (x.e1 == y.e1)⟩
section
variable {α : Type}
def Vz (f : α → A) (x : xp α) : A := .agg [f x.e0, f x.e1]
instance (f : α → A) [h : Vi f] : Vi (Vz f) := ⟨fun x => by simp [Vz, A.isD, A.areD, h.isD]⟩
instance (f g : α → A) [h : Y0 f g] : Y0 (Vz f) (Vz g) := ⟨fun x => by simp [Vz, A.loose, A.looses, h.lo]⟩
instance (f g : α → A) [h : KI f g] : KI (Vz f) (Vz g) := ⟨fun x => by simp [Vz, A.live, A.lives, h.live], fun x => by simp [Vz, A.shut, A.shuts, h.sh]⟩
instance (f : α → A) [h : qo f] : qo (Vz f) := ⟨fun x y q => by
 simp only [Vz, A.agg.injEq, List.cons.injEq, and_true] at q
 cases x; cases y
 simp only [xp.mk.injEq]
 exact ⟨h.inj _ _ q.1, h.inj _ _ q.2⟩⟩
end
structure YI (α : Type) where
 e0 : α
 e1 : α
 e2 : α
 deriving DecidableEq
section
variable {α : Type}
def zd3 (f : α → A) (x : YI α) : A := .agg [f x.e0, f x.e1, f x.e2]
end
section
variable {α : Type}
def YI.toL (x : YI α) : List α := [x.e0, x.e1, x.e2]
def YI.ofL : List α → YI α → YI α
 | [x0, x1, x2], _ => ⟨x0, x1, x2⟩
 | _, d => d
theorem YI.toL_ofL (l : List α) (d : YI α) (h : l.length = 3) : (YI.ofL l d).toL = l := by
 match l, h with
 | [x0, x1, x2], _ => rfl
def YI.setI (x : YI α) (i : Int) (v : α) : YI α := YI.ofL (x.toL.set i.toNat v) x
theorem YI.setL (f : α → A) (x : YI α) (i : Int) (v : α) : (x.toL.map f).set i.toNat (f v) = ((YI.setI x i v).toL).map f := by
 unfold YI.setI
 rw [YI.toL_ofL _ _ (by simp [YI.toL]), List.map_set]
end
structure z8 where
 State : Int
 Input : Int
 Next : Int
instance : BEq z8 := ⟨fun x y => (x.State == y.State) && (x.Input == y.Input) && (x.Next == y.Next)⟩
def zX (f0 : Int → A) (f1 : Int → A) (f2 : Int → A) (x : z8) : A := .agg [f0 x.State, f1 x.Input, f2 x.Next]
instance (f0 : Int → A) (f1 : Int → A) (f2 : Int → A) [h0 : Vi f0] [h1 : Vi f1] [h2 : Vi f2] : Vi (zX f0 f1 f2) := ⟨fun x => by simp [zX, A.isD, A.areD, h0.isD, h1.isD, h2.isD]⟩
instance (f0 : Int → A) (f1 : Int → A) (f2 : Int → A) (g0 : Int → A) (g1 : Int → A) (g2 : Int → A) [h0 : Y0 f0 g0] [h1 : Y0 f1 g1] [h2 : Y0 f2 g2] : Y0 (zX f0 f1 f2) (zX g0 g1 g2) := ⟨fun x => by simp [zX, A.loose, A.looses, h0.lo, h1.lo, h2.lo]⟩
instance (f0 : Int → A) (f1 : Int → A) (f2 : Int → A) (g0 : Int → A) (g1 : Int → A) (g2 : Int → A) [h0 : KI f0 g0] [h1 : KI f1 g1] [h2 : KI f2 g2] : KI (zX f0 f1 f2) (zX g0 g1 g2) := ⟨fun x => by simp [zX, A.live, A.lives, h0.live, h1.live, h2.live], fun x => by simp [zX, A.shut, A.shuts, h0.sh, h1.sh, h2.sh]⟩
instance (f0 : Int → A) (f1 : Int → A) (f2 : Int → A) [h0 : qo f0] [h1 : qo f1] [h2 : qo f2] : qo (zX f0 f1 f2) := ⟨fun x y h => by
 simp only [zX, A.agg.injEq, List.cons.injEq, and_true] at h
 cases x; cases y
 simp only [z8.mk.injEq]
 exact ⟨h0.inj _ _ h.1, h1.inj _ _ h.2.1, h2.inj _ _ h.2.2⟩⟩
structure yk where
 States : Int
 Inputs : Int
 Outputs : Int
 Partial : Bool
 Edges : List Int
def uV (f0 : Int → A) (f1 : Int → A) (f2 : Int → A) (f3 : Bool → A) (f4 : List Int → A) (x : yk) : A := .agg [f0 x.States, f1 x.Inputs, f2 x.Outputs, f3 x.Partial, f4 x.Edges]
instance (f0 : Int → A) (f1 : Int → A) (f2 : Int → A) (f3 : Bool → A) (f4 : List Int → A) (g0 : Int → A) (g1 : Int → A) (g2 : Int → A) (g3 : Bool → A) (g4 : List Int → A) [h0 : Y0 f0 g0] [h1 : Y0 f1 g1] [h2 : Y0 f2 g2] [h3 : Y0 f3 g3] [h4 : Y0 f4 g4] : Y0 (uV f0 f1 f2 f3 f4) (uV g0 g1 g2 g3 g4) := ⟨fun x => by simp [uV, A.loose, A.looses, h0.lo, h1.lo, h2.lo, h3.lo, h4.lo]⟩
instance (f0 : Int → A) (f1 : Int → A) (f2 : Int → A) (f3 : Bool → A) (f4 : List Int → A) [h0 : qo f0] [h1 : qo f1] [h2 : qo f2] [h3 : qo f3] [h4 : qo f4] : qo (uV f0 f1 f2 f3 f4) := ⟨fun x y h => by
 simp only [uV, A.agg.injEq, List.cons.injEq, and_true] at h
 cases x; cases y
 simp only [yk.mk.injEq]
 exact ⟨h0.inj _ _ h.1, h1.inj _ _ h.2.1, h2.inj _ _ h.2.2.1, h3.inj _ _ h.2.2.2.1, h4.inj _ _ h.2.2.2.2⟩⟩
structure wc where
 M : yk
 L : List (List Int)
def uU (f0 : yk → A) (f1 : List (List Int) → A) (x : wc) : A := .agg [f0 x.M, f1 x.L]
instance (f0 : yk → A) (f1 : List (List Int) → A) (g0 : yk → A) (g1 : List (List Int) → A) [h0 : Y0 f0 g0] [h1 : Y0 f1 g1] : Y0 (uU f0 f1) (uU g0 g1) := ⟨fun x => by simp [uU, A.loose, A.looses, h0.lo, h1.lo]⟩
instance (f0 : yk → A) (f1 : List (List Int) → A) [h0 : qo f0] [h1 : qo f1] : qo (uU f0 f1) := ⟨fun x y h => by
 simp only [uU, A.agg.injEq, List.cons.injEq, and_true] at h
 cases x; cases y
 simp only [wc.mk.injEq]
 exact ⟨h0.inj _ _ h.1, h1.inj _ _ h.2⟩⟩
structure ze where
 To : Int
 Out : Int
def wM (f0 : Int → A) (f1 : Int → A) (x : ze) : A := .agg [f0 x.To, f1 x.Out]
instance (f0 : Int → A) (f1 : Int → A) [h0 : Vi f0] [h1 : Vi f1] : Vi (wM f0 f1) := ⟨fun x => by simp [wM, A.isD, A.areD, h0.isD, h1.isD]⟩
instance (f0 : Int → A) (f1 : Int → A) (g0 : Int → A) (g1 : Int → A) [h0 : Y0 f0 g0] [h1 : Y0 f1 g1] : Y0 (wM f0 f1) (wM g0 g1) := ⟨fun x => by simp [wM, A.loose, A.looses, h0.lo, h1.lo]⟩
instance (f0 : Int → A) (f1 : Int → A) (g0 : Int → A) (g1 : Int → A) [h0 : KI f0 g0] [h1 : KI f1 g1] : KI (wM f0 f1) (wM g0 g1) := ⟨fun x => by simp [wM, A.live, A.lives, h0.live, h1.live], fun x => by simp [wM, A.shut, A.shuts, h0.sh, h1.sh]⟩
instance (f0 : Int → A) (f1 : Int → A) [h0 : qo f0] [h1 : qo f1] : qo (wM f0 f1) := ⟨fun x y h => by
 simp only [wM, A.agg.injEq, List.cons.injEq, and_true] at h
 cases x; cases y
 simp only [ze.mk.injEq]
 exact ⟨h0.inj _ _ h.1, h1.inj _ _ h.2⟩⟩
structure z6 where
 Inputs : Int
 Outputs : Int
 Rows : List (List ze)
def vS (f0 : Int → A) (f1 : Int → A) (f2 : List (List ze) → A) (x : z6) : A := .agg [f0 x.Inputs, f1 x.Outputs, f2 x.Rows]
instance (f0 : Int → A) (f1 : Int → A) (f2 : List (List ze) → A) (g0 : Int → A) (g1 : Int → A) (g2 : List (List ze) → A) [h0 : Y0 f0 g0] [h1 : Y0 f1 g1] [h2 : Y0 f2 g2] : Y0 (vS f0 f1 f2) (vS g0 g1 g2) := ⟨fun x => by simp [vS, A.loose, A.looses, h0.lo, h1.lo, h2.lo]⟩
instance (f0 : Int → A) (f1 : Int → A) (f2 : List (List ze) → A) [h0 : qo f0] [h1 : qo f1] [h2 : qo f2] : qo (vS f0 f1 f2) := ⟨fun x y h => by
 simp only [vS, A.agg.injEq, List.cons.injEq, and_true] at h
 cases x; cases y
 simp only [z6.mk.injEq]
 exact ⟨h0.inj _ _ h.1, h1.inj _ _ h.2.1, h2.inj _ _ h.2.2⟩⟩
structure zh where
 states_ : List (Int × Bool)
 edges_ : List ((xp Int) × Bool)
 pairs_ : List (z8 × Bool)
def zQ (f0 : List (Int × Bool) → A) (f1 : List ((xp Int) × Bool) → A) (f2 : List (z8 × Bool) → A) (x : zh) : A := .agg [f0 x.states_, f1 x.edges_, f2 x.pairs_]
structure zj where
 state_ : Int
 from_ : Int
 input_ : Int
def ZK (f0 : Int → A) (f1 : Int → A) (f2 : Int → A) (x : zj) : A := .agg [f0 x.state_, f1 x.from_, f2 x.input_]
instance (f0 : Int → A) (f1 : Int → A) (f2 : Int → A) [h0 : Vi f0] [h1 : Vi f1] [h2 : Vi f2] : Vi (ZK f0 f1 f2) := ⟨fun x => by simp [ZK, A.isD, A.areD, h0.isD, h1.isD, h2.isD]⟩
structure zb where
 word_ : List Int
 pair_ : z8
 has_ : Int ⊕ (Int × Int) ⊕ z8
def zc (f0 : List Int → A) (f1 : z8 → A) (f2 : Int ⊕ (Int × Int) ⊕ z8 → A) (x : zb) : A := .agg [f0 x.word_, f1 x.pair_, f2 x.has_]
instance (f0 : List Int → A) (f1 : z8 → A) (f2 : Int ⊕ (Int × Int) ⊕ z8 → A) [h0 : Vi f0] [h1 : Vi f1] [h2 : Vi f2] : Vi (zc f0 f1 f2) := ⟨fun x => by simp [zc, A.isD, A.areD, h0.isD, h1.isD, h2.isD]⟩
instance (f0 : List Int → A) (f1 : z8 → A) (f2 : Int ⊕ (Int × Int) ⊕ z8 → A) (g0 : List Int → A) (g1 : z8 → A) (g2 : Int ⊕ (Int × Int) ⊕ z8 → A) [h0 : KI f0 g0] [h1 : KI f1 g1] [h2 : KI f2 g2] : KI (zc f0 f1 f2) (zc g0 g1 g2) := ⟨fun x => by simp [zc, A.live, A.lives, h0.live, h1.live, h2.live], fun x => by simp [zc, A.shut, A.shuts, h0.sh, h1.sh, h2.sh]⟩
structure za where
 State : Int
 Input : Int
 Next : Int
def vK (f0 : Int → A) (f1 : Int → A) (f2 : Int → A) (x : za) : A := .agg [f0 x.State, f1 x.Input, f2 x.Next]
instance (f0 : Int → A) (f1 : Int → A) (f2 : Int → A) [h0 : Vi f0] [h1 : Vi f1] [h2 : Vi f2] : Vi (vK f0 f1 f2) := ⟨fun x => by simp [vK, A.isD, A.areD, h0.isD, h1.isD, h2.isD]⟩
instance (f0 : Int → A) (f1 : Int → A) (f2 : Int → A) (g0 : Int → A) (g1 : Int → A) (g2 : Int → A) [h0 : Y0 f0 g0] [h1 : Y0 f1 g1] [h2 : Y0 f2 g2] : Y0 (vK f0 f1 f2) (vK g0 g1 g2) := ⟨fun x => by simp [vK, A.loose, A.looses, h0.lo, h1.lo, h2.lo]⟩
instance (f0 : Int → A) (f1 : Int → A) (f2 : Int → A) [h0 : qo f0] [h1 : qo f1] [h2 : qo f2] : qo (vK f0 f1 f2) := ⟨fun x y h => by
 simp only [vK, A.agg.injEq, List.cons.injEq, and_true] at h
 cases x; cases y
 simp only [za.mk.injEq]
 exact ⟨h0.inj _ _ h.1, h1.inj _ _ h.2.1, h2.inj _ _ h.2.2⟩⟩
structure y7 where
 States : xp Int
 Edges : xp Int
 Pairs : xp Int
def xh (f0 : xp Int → A) (f1 : xp Int → A) (f2 : xp Int → A) (x : y7) : A := .agg [f0 x.States, f1 x.Edges, f2 x.Pairs]
instance (f0 : xp Int → A) (f1 : xp Int → A) (f2 : xp Int → A) (g0 : xp Int → A) (g1 : xp Int → A) (g2 : xp Int → A) [h0 : Y0 f0 g0] [h1 : Y0 f1 g1] [h2 : Y0 f2 g2] : Y0 (xh f0 f1 f2) (xh g0 g1 g2) := ⟨fun x => by simp [xh, A.loose, A.looses, h0.lo, h1.lo, h2.lo]⟩
instance (f0 : xp Int → A) (f1 : xp Int → A) (f2 : xp Int → A) [h0 : qo f0] [h1 : qo f1] [h2 : qo f2] : qo (xh f0 f1 f2) := ⟨fun x y h => by
 simp only [xh, A.agg.injEq, List.cons.injEq, and_true] at h
 cases x; cases y
 simp only [y7.mk.injEq]
 exact ⟨h0.inj _ _ h.1, h1.inj _ _ h.2.1, h2.inj _ _ h.2.2⟩⟩
structure zz where
 sets_ : List (List Int)
 want_ : List Int
def yY (f0 : List (List Int) → A) (f1 : List Int → A) (x : zz) : A := .agg [f0 x.sets_, f1 x.want_]
instance (f0 : List (List Int) → A) (f1 : List Int → A) (g0 : List (List Int) → A) (g1 : List Int → A) [h0 : Y0 f0 g0] [h1 : Y0 f1 g1] : Y0 (yY f0 f1) (yY g0 g1) := ⟨fun x => by simp [yY, A.loose, A.looses, h0.lo, h1.lo]⟩
instance (f0 : List (List Int) → A) (f1 : List Int → A) [h0 : qo f0] [h1 : qo f1] : qo (yY f0 f1) := ⟨fun x y h => by
 simp only [yY, A.agg.injEq, List.cons.injEq, and_true] at h
 cases x; cases y
 simp only [zz.mk.injEq]
 exact ⟨h0.inj _ _ h.1, h1.inj _ _ h.2⟩⟩
instance : zeN (K := xp Int) (Vz (eI .i64)) := ⟨fun x y => by
 obtain ⟨_, _⟩ := x
 obtain ⟨_, _⟩ := y
 simp only [Vz, eI, Vh, QL, QL.keyLs, zP, BEq.beq, Option.map_some, Option.some.injEq, Value.agg.injEq, List.cons_append, List.nil_append, List.append_nil, Array.mk.injEq, List.cons.injEq, Value.int.injEq, true_and, and_true, Bool.and_eq_true, decide_eq_true_eq, and_assoc]⟩
instance : zeN (K := z8) (zX (eI .i64) (eI .i64) (eI .i64)) := ⟨fun x y => by
 obtain ⟨_, _, _⟩ := x
 obtain ⟨_, _, _⟩ := y
 simp only [zX, eI, Vh, QL, QL.keyLs, zP, BEq.beq, Option.map_some, Option.some.injEq, Value.agg.injEq, List.cons_append, List.nil_append, List.append_nil, Array.mk.injEq, List.cons.injEq, Value.int.injEq, true_and, and_true, Bool.and_eq_true, decide_eq_true_eq, and_assoc]⟩
def zcL : Int ⊕ (Int × Int) ⊕ z8 → Nat
 | (.inl _) => 46
 | (.inr (.inl _)) => 47
 | (.inr (.inr _)) => 48
def zdb : Int ⊕ (Int × Int) ⊕ z8 → List A
 | (.inl c) => [.sptr (I c)]
 | (.inr (.inl c)) => [.sptr (I c.1), .sptr (I c.2)]
 | (.inr (.inr c)) => [.sptr (.agg [I c.State, I c.Input, I c.Next])]
def zF (x : Int ⊕ (Int × Int) ⊕ z8) : A := .fn (zcL x) (zdb x)
instance : Vi zF := ⟨fun _ => rfl⟩
instance : KI zF zF := ⟨fun _ => rfl, fun _ => rfl⟩
def Zf (x_ : yk) (fh : List (List ze)) : Option z6 :=
 some (z6.mk (w64 (1 + (w64 (Int.tmod x_.Inputs 3)))) (w64 (1 + (w64 (Int.tmod x_.Outputs 3)))) fh)
def Ze (s_ : Int) (ez : List (List ze)) : Option (LR (List (List ze) × Int) (List (List ze))) :=
 some (.next (ez, w64 (s_ + 1)))
def Zd (ba : List (List ze)) (s_ : Int) (row : List ze) : Option (LR (List (List ze) × Int) (List (List ze))) :=
 gd (ba.length + ([row] : List (List ze)).length ≤ 4294967296) <|
 Ze s_ (ba ++ ([row] : List (List ze)))
def j7 (i_ : Int) (gi : List ze) : Option (LR (List ze × Int) (List ze)) :=
 some (.next (gi, w64 (i_ + 1)))
def vR (x_ : yk) (cj : List ze) (i_ : Int) (v_ : Int) : Option (LR (List ze × Int) (List ze)) :=
 bif x_.Partial then (
  gd ((4 : Int) ≠ 0) <|
  bif (Int.tmod v_ 4) == 3 then (
   gd (cj.length + ([(ze.mk (-1) (-1))] : List ze).length ≤ 4294967296) <|
   j7 i_ (cj ++ ([(ze.mk (-1) (-1))] : List ze)))
  else (
   gd ((4 : Int) ≠ 0) <|
   gd (((w64 (1 + (w64 (Int.tmod x_.States 6)))) : Int) ≠ 0) <|
   gd ((4 : Int) ≠ 0) <|
   gd (((w64 (1 + (w64 (Int.tmod x_.States 6)))) : Int) ≠ 0) <|
   gd (((w64 (1 + (w64 (Int.tmod x_.Outputs 3)))) : Int) ≠ 0) <|
   gd (cj.length + ([(ze.mk (Int.tmod (w64 (Int.tdiv v_ 4)) (w64 (1 + (w64 (Int.tmod x_.States 6))))) (Int.tmod (w64 (Int.tdiv (w64 (Int.tdiv v_ 4)) (w64 (1 + (w64 (Int.tmod x_.States 6)))))) (w64 (1 + (w64 (Int.tmod x_.Outputs 3))))))] : List ze).length ≤ 4294967296) <|
   j7 i_ (cj ++ ([(ze.mk (Int.tmod (w64 (Int.tdiv v_ 4)) (w64 (1 + (w64 (Int.tmod x_.States 6))))) (Int.tmod (w64 (Int.tdiv (w64 (Int.tdiv v_ 4)) (w64 (1 + (w64 (Int.tmod x_.States 6)))))) (w64 (1 + (w64 (Int.tmod x_.Outputs 3))))))] : List ze))))
 else (
  gd ((4 : Int) ≠ 0) <|
  gd (((w64 (1 + (w64 (Int.tmod x_.States 6)))) : Int) ≠ 0) <|
  gd ((4 : Int) ≠ 0) <|
  gd (((w64 (1 + (w64 (Int.tmod x_.States 6)))) : Int) ≠ 0) <|
  gd (((w64 (1 + (w64 (Int.tmod x_.Outputs 3)))) : Int) ≠ 0) <|
  gd (cj.length + ([(ze.mk (Int.tmod (w64 (Int.tdiv v_ 4)) (w64 (1 + (w64 (Int.tmod x_.States 6))))) (Int.tmod (w64 (Int.tdiv (w64 (Int.tdiv v_ 4)) (w64 (1 + (w64 (Int.tmod x_.States 6)))))) (w64 (1 + (w64 (Int.tmod x_.Outputs 3))))))] : List ze).length ≤ 4294967296) <|
  j7 i_ (cj ++ ([(ze.mk (Int.tmod (w64 (Int.tdiv v_ 4)) (w64 (1 + (w64 (Int.tmod x_.States 6))))) (Int.tmod (w64 (Int.tdiv (w64 (Int.tdiv v_ 4)) (w64 (1 + (w64 (Int.tmod x_.States 6)))))) (w64 (1 + (w64 (Int.tmod x_.Outputs 3))))))] : List ze)))
def j6 (x_ : yk) (s_ : Int) (cj : List ze) (i_ : Int) : Option (LR (List ze × Int) (List ze)) :=
 bif decide (i_ < (w64 (1 + (w64 (Int.tmod x_.Inputs 3))))) then (
  bif decide ((w64 ((w64 (s_ * (w64 (1 + (w64 (Int.tmod x_.Inputs 3)))))) + i_)) < ((x_.Edges.length : Nat) : Int)) then (
   (idx x_.Edges (w64 ((w64 (s_ * (w64 (1 + (w64 (Int.tmod x_.Inputs 3)))))) + i_))).bind fun gj =>
   vR x_ cj i_ (w64 (gj)))
  else (
   vR x_ cj i_ 0))
 else (
  some (.done cj))
def Zc (x_ : yk) (ba : List (List ze)) (s_ : Int) : Option (LR (List (List ze) × Int) (List (List ze))) :=
 bif decide (s_ < (w64 (1 + (w64 (Int.tmod x_.States 6))))) then (
  (loop (fun s => j6 x_ s_ s.1 s.2) (([] : List ze), 0)).bind fun t5 =>
  Zd ba s_ t5)
 else (
  some (.done ba))
def YA (x_ : yk) : Option z6 :=
 gd ((6 : Int) ≠ 0) <|
 gd ((3 : Int) ≠ 0) <|
 gd ((3 : Int) ≠ 0) <|
 (loop (fun s => Zc x_ s.1 s.2) (([] : List (List ze)), 0)).bind fun t2 =>
 Zf x_ t2
def Zb (out : List Int) : Option (List Int) :=
 some out
def Za (w_ : List Int) (inputs : Int) (most : Int) (ai : List Int) (k_ : Int) : Option (LR (List Int × Int) (List Int)) :=
 bif decide (k_ < ((w_.length : Nat) : Int)) then (
  bif decide (k_ < most) then (
   (idx w_ k_).bind fun bf =>
   gd ((inputs : Int) ≠ 0) <|
   gd (ai.length + ([Int.tmod (w64 (bf)) inputs] : List Int).length ≤ 4294967296) <|
   some (.next ((ai ++ ([Int.tmod (w64 (bf)) inputs] : List Int)), w64 (k_ + 1))))
  else (
   some (.done ai)))
 else (
  some (.done ai))
def Yz (w_ : List Int) (inputs : Int) (most : Int) : Option (List Int) :=
 (loop (fun s => Za w_ inputs most s.1 s.2) (([] : List Int), 0)).bind fun t2 =>
 Zb t2
def kA : Option Int :=
 some 0
def vZ (a_ : List Int) (b_ : List Int) (i_ : Int) : Option (LR Int (Unit ⊕ Int)) :=
 bif decide (i_ < ((a_.length : Nat) : Int)) then (
  (idx a_ i_).bind fun fp =>
  (idx b_ i_).bind fun fq =>
  bif decide (fp < fq) then (
   some (.done (.inr (-1))))
  else (
   (idx a_ i_).bind fun ic =>
   (idx b_ i_).bind fun ie =>
   bif decide (ic > ie) then (
    some (.done (.inr 1)))
   else (
    some (.next (w64 (i_ + 1))))))
 else (
  some (.done (.inl ())))
def vQ (a_ : List Int) (b_ : List Int) : Option Int :=
 bif ((a_.length : Nat) : Int) != ((b_.length : Nat) : Int) then (
  bif decide (((a_.length : Nat) : Int) < ((b_.length : Nat) : Int)) then (
   some (-1))
  else (
   some 1))
 else (
  (loop (fun s => vZ a_ b_ s) 0).bind fun t2 =>
  match t2 with
  | .inl p => kA
  | .inr p => some p)
def Y1 (w_ : List Int) (co : Int) (bn : List (List Int)) : Option (List (List Int)) :=
 gd (([] : List Int).length + w_.length ≤ 4294967296) <|
 (idx bn co).bind fun bc =>
 some (bn.set co.toNat w_)
def kb (co : Int) (dy : List (List Int)) (i_ : Int) : Option (LR (List (List Int) × Int) (List (List Int))) :=
 bif decide (i_ > co) then (
  (idx dy (w64 (i_ - 1))).bind fun cn =>
  (idx dy i_).bind fun iv =>
  some (.next ((dy.set i_.toNat cn), w64 (i_ - 1))))
 else (
  some (.done dy))
def qE (l_ : List (List Int)) (w_ : List Int) (co : Int) : Option (List (List Int)) :=
 gd (l_.length + ([[]] : List (List Int)).length ≤ 4294967296) <|
 (loop (fun s => kb co s.1 s.2) ((l_ ++ ([[]] : List (List Int))), w64 ((((l_ ++ ([[]] : List (List Int))).length : Nat) : Int) - 1))).bind fun t4 =>
 Y1 w_ co t4
def Y2 (l_ : List (List Int)) (w_ : List Int) (co : Int) : Option (List (List Int)) :=
 bif decide (co < ((l_.length : Nat) : Int)) then (
  (idx l_ co).bind fun gb =>
  (vQ gb w_).bind fun r_ =>
  bif r_ == 0 then (
   some l_)
  else (
   qE l_ w_ co))
 else (
  qE l_ w_ co)
def ka (l_ : List (List Int)) (w_ : List Int) (dv : Int) (d0 : Int) : Option (LR (Int × Int) Int) :=
 bif decide (dv < d0) then (
  gd ((2 : Int) ≠ 0) <|
  (idx l_ (w64 (Int.tdiv (w64 (dv + d0)) 2))).bind fun gc =>
  (vQ gc w_).bind fun ah =>
  bif decide (ah < 0) then (
   some (.next (w64 ((w64 (Int.tdiv (w64 (dv + d0)) 2)) + 1), d0)))
  else (
   some (.next (dv, w64 (Int.tdiv (w64 (dv + d0)) 2)))))
 else (
  some (.done dv))
def XQ (l_ : List (List Int)) (w_ : List Int) : Option (List (List Int)) :=
 (loop (fun s => ka l_ w_ s.1 s.2) (0, ((l_.length : Nat) : Int))).bind fun t5 =>
 Y2 l_ w_ t5
def YX (out : List (List Int)) : Option (List (List Int)) :=
 some out
def wZ (l_ : List (List Int)) (ai : List (List Int)) (i_ : Int) : Option (LR (List (List Int) × Int) (List (List Int))) :=
 bif decide (i_ < ((l_.length : Nat) : Int)) then (
  (idx l_ i_).bind fun bc =>
  (XQ ai bc).bind fun r_ =>
  some (.next (r_, w64 (i_ + 1))))
 else (
  some (.done ai))
def Zm (l_ : List (List Int)) : Option (List (List Int)) :=
 (loop (fun s => wZ l_ s.1 s.2) (([] : List (List Int)), 0)).bind fun t2 =>
 YX t2
def Z9 (r_ : z6) (l_ : List (List Int)) : Option (z6 × List (List Int)) :=
 (Zm l_).bind fun ah =>
 some (r_, ah)
def kZ (x_ : wc) (r_ : z6) (bn : List (List Int)) (i_ : Int) : Option (LR (List (List Int) × Int) (List (List Int))) :=
 bif decide (i_ < ((x_.L.length : Nat) : Int)) then (
  bif decide (i_ < 12) then (
   (idx x_.L i_).bind fun ig =>
   (Yz ig r_.Inputs 8).bind fun am =>
   gd (bn.length + ([am] : List (List Int)).length ≤ 4294967296) <|
   some (.next ((bn ++ ([am] : List (List Int))), w64 (i_ + 1))))
  else (
   some (.done bn)))
 else (
  some (.done bn))
def Zp (x_ : wc) : Option (z6 × List (List Int)) :=
 (YA x_.M).bind fun r_ =>
 (loop (fun s => kZ x_ r_ s.1 s.2) (([] : List (List Int)), 0)).bind fun t2 =>
 Z9 r_ t2
def kY : Option ze :=
 some (ze.mk (-1) (-1))
def j5 (m_ : z6) (x_ : ze) : Option Bool :=
 (kY).bind fun r_ =>
 bif (x_.To == r_.To) && ((x_.Out == r_.Out) && true) then (
  some true)
 else (
  bif decide (x_.To ≥ 0) then (
   bif decide (x_.To < ((m_.Rows.length : Nat) : Int)) then (
    bif decide (x_.Out ≥ 0) then (
     some (decide (x_.Out < m_.Outputs)))
    else (
     some false))
   else (
    some false))
  else (
   some false))
def qg (x_ : ze) (x1 : z6) : Option Bool :=
 (j5 x1 x_).bind fun r_ =>
 some (!r_)
def yH : Option Int :=
 some (-1)
def zO (s_ : List ze) (f_ : z6) (x8 : Int) : Option (LR Int (Unit ⊕ Int)) :=
 bif decide (x8 < ((s_.length : Nat) : Int)) then (
  (idx s_ x8).bind fun dn =>
  (qg dn f_).bind fun r_ =>
  bif r_ then (
   some (.done (.inr x8)))
  else (
   some (.next (w64 (x8 + 1)))))
 else (
  some (.done (.inl ())))
def yl (s_ : List ze) (f_ : z6) : Option Int :=
 (loop (fun s => zO s_ f_ s) 0).bind fun t2 =>
 match t2 with
 | .inl p => yH
 | .inr p => some p
def zV (s_ : List ze) (f_ : z6) : Option Bool :=
 (yl s_ f_).bind fun r_ =>
 some (decide (r_ ≥ 0))
def jG : Option Int :=
 some 0
def wj (m_ : z6) (gk : Int) : Option (LR Int (Unit ⊕ Int)) :=
 bif decide (gk < ((m_.Rows.length : Nat) : Int)) then (
  (idx m_.Rows gk).bind fun ar =>
  bif ((ar.length : Nat) : Int) != m_.Inputs then (
   some (.done (.inr 1)))
  else (
   (zV ar m_).bind fun r_ =>
   bif r_ then (
    some (.done (.inr 1)))
   else (
    some (.next (w64 (gk + 1))))))
 else (
  some (.done (.inl ())))
def u9 (m_ : z6) : Option Int :=
 bif decide (m_.Inputs > 16) then (
  some 3)
 else (
  bif decide (m_.Outputs > 16) then (
   some 3)
  else (
   bif decide (((m_.Rows.length : Nat) : Int) > 64) then (
    some 3)
   else (
    bif decide (m_.Inputs < 1) then (
     some 1)
    else (
     bif decide (m_.Outputs < 1) then (
      some 1)
     else (
      bif decide (((m_.Rows.length : Nat) : Int) < 1) then (
       some 1)
      else (
       (loop (fun s => wj m_ s) 0).bind fun t2 =>
       match t2 with
       | .inl p => jG
       | .inr p => some p))))))
def kK (c_ : Int) (x1 : Int) : Option Bool :=
 bif decide (c_ < 0) then (
  some true)
 else (
  some (decide (c_ ≥ x1)))
def wq : Option Int :=
 some (-1)
def yc (s_ : List Int) (f_ : Int) (x8 : Int) : Option (LR Int (Unit ⊕ Int)) :=
 bif decide (x8 < ((s_.length : Nat) : Int)) then (
  (idx s_ x8).bind fun dn =>
  (kK dn f_).bind fun r_ =>
  bif r_ then (
   some (.done (.inr x8)))
  else (
   some (.next (w64 (x8 + 1)))))
 else (
  some (.done (.inl ())))
def xV (s_ : List Int) (f_ : Int) : Option Int :=
 (loop (fun s => yc s_ f_ s) 0).bind fun t2 =>
 match t2 with
 | .inl p => wq
 | .inr p => some p
def x5 (s_ : List Int) (f_ : Int) : Option Bool :=
 (xV s_ f_).bind fun r_ =>
 some (decide (r_ ≥ 0))
def jv (w_ : List Int) (inputs : Int) : Option Int :=
 bif decide (inputs > 16) then (
  some 3)
 else (
  bif decide (((w_.length : Nat) : Int) > 256) then (
   some 3)
  else (
   bif decide (inputs < 1) then (
    some 1)
   else (
    (x5 w_ inputs).bind fun r_ =>
    bif r_ then (
     some 1)
    else (
     some 0))))
def Y7 : Option Int :=
 some 0
def u6 (l_ : List (List Int)) (inputs : Int) (gl : Int) : Option (LR Int (Unit ⊕ Int)) :=
 bif decide (gl < ((l_.length : Nat) : Int)) then (
  (idx l_ gl).bind fun bc =>
  (jv bc inputs).bind fun r_ =>
  bif r_ != 0 then (
   some (.done (.inr r_)))
  else (
   some (.next (w64 (gl + 1)))))
 else (
  some (.done (.inl ())))
def jy (l_ : List (List Int)) (inputs : Int) : Option Int :=
 bif decide (inputs > 16) then (
  some 3)
 else (
  bif decide (((l_.length : Nat) : Int) > 4096) then (
   some 3)
  else (
   bif decide (inputs < 1) then (
    some 1)
   else (
    (loop (fun s => u6 l_ inputs s) 0).bind fun t2 =>
    match t2 with
    | .inl p => Y7
    | .inr p => some p)))
def jf (x_ : Int) : Option Bool :=
 some (x_ != x_)
def vE (x_ : Int) (y_ : Int) : Option Int :=
 (jf x_).bind fun r_ =>
 (jf y_).bind fun ah =>
 bif r_ then (
  bif ah then (
   some 0)
  else (
   some (-1)))
 else (
  bif ah then (
   some 1)
  else (
   bif decide (x_ < y_) then (
    some (-1))
   else (
    bif decide (x_ > y_) then (
     some 1)
    else (
     some 0))))
def xG (s1 : List Int) (s2 : List Int) : Option Int :=
 bif decide (((s1.length : Nat) : Int) < ((s2.length : Nat) : Int)) then (
  some (-1))
 else (
  some 0)
def ym (s1 : List Int) (s2 : List Int) (dw : Int) : Option (LR Int (Unit ⊕ Int)) :=
 bif decide (dw < ((s1.length : Nat) : Int)) then (
  (idx s1 dw).bind fun gm =>
  bif decide (dw ≥ ((s2.length : Nat) : Int)) then (
   some (.done (.inr 1)))
  else (
   (idx s2 dw).bind fun ft =>
   (vE gm ft).bind fun r_ =>
   bif r_ != 0 then (
    some (.done (.inr r_)))
   else (
    some (.next (w64 (dw + 1))))))
 else (
  some (.done (.inl ())))
def xv (s1 : List Int) (s2 : List Int) : Option Int :=
 (loop (fun s => ym s1 s2 s) 0).bind fun t2 =>
 match t2 with
 | .inl p => xG s1 s2
 | .inr p => some p
def Zh : Option Int :=
 some 0
def uJ (vals : List Int) (x8 : Int) : Option (LR Int (Unit ⊕ Int)) :=
 bif decide (x8 < ((vals.length : Nat) : Int)) then (
  (idx vals x8).bind fun gu =>
  bif gu != 0 then (
   some (.done (.inr gu)))
  else (
   some (.next (w64 (x8 + 1)))))
 else (
  some (.done (.inl ())))
def YC (vals : List Int) : Option Int :=
 (loop (fun s => uJ vals s) 0).bind fun t2 =>
 match t2 with
 | .inl p => Zh
 | .inr p => some p
def yR (a_ : List Int) (b_ : List Int) : Option Int :=
 (vE ((a_.length : Nat) : Int) ((b_.length : Nat) : Int)).bind fun r_ =>
 (xv a_ b_).bind fun ah =>
 (YC ([r_, ah])).bind fun am =>
 some am
def jS : Option Bool :=
 some true
def u7 (l_ : List (List Int)) (i_ : Int) : Option (LR Int (Unit ⊕ Bool)) :=
 bif decide (i_ < ((l_.length : Nat) : Int)) then (
  (idx l_ (w64 (i_ - 1))).bind fun bc =>
  (idx l_ i_).bind fun cn =>
  (yR bc cn).bind fun r_ =>
  bif decide (r_ ≥ 0) then (
   some (.done (.inr false)))
  else (
   some (.next (w64 (i_ + 1)))))
 else (
  some (.done (.inl ())))
def Zs (l_ : List (List Int)) : Option Bool :=
 (loop (fun s => u7 l_ s) 1).bind fun t2 =>
 match t2 with
 | .inl p => jS
 | .inr p => some p
def Y6 (n_ : Int) : Option Int :=
 some n_
def u3 (l_ : List (List Int)) (dt : Int) (x7 : Int) : Option (LR (Int × Int) Int) :=
 bif decide (x7 < ((l_.length : Nat) : Int)) then (
  (idx l_ x7).bind fun bc =>
  some (.next (w64 (dt + ((bc.length : Nat) : Int)), w64 (x7 + 1))))
 else (
  some (.done dt))
def jx (l_ : List (List Int)) : Option Int :=
 (loop (fun s => u3 l_ s.1 s.2) (0, 0)).bind fun t2 =>
 Y6 t2
def Zt (l_ : List (List Int)) (inputs : Int) : Option Int :=
 (jy l_ inputs).bind fun r_ =>
 bif r_ != 0 then (
  some r_)
 else (
  (Zs l_).bind fun ah =>
  bif !ah then (
   some 1)
  else (
   (jx l_).bind fun am =>
   bif decide (am > 65536) then (
    some 3)
   else (
    some 0)))
def xP (m_ : z6) (l_ : List (List Int)) : Option Int :=
 (u9 m_).bind fun r_ =>
 bif r_ != 0 then (
  some r_)
 else (
  (Zt l_ m_.Inputs).bind fun ah =>
  some ah)
def uW : Option zh :=
 some (zh.mk (QG ([] : List (Int × Bool)) 0 true) ([] : List ((xp Int) × Bool)) ([] : List (z8 × Bool)))
def yP (al : List (Int × Bool)) (ap : List ((xp Int) × Bool)) (cb : Int) (d8 : Int) (bf : Int) (ak : ze) (bg : List (z8 × Bool)) : Option (LR ((List (Int × Bool)) × (List ((xp Int) × Bool)) × (List (z8 × Bool)) × Int × Int × Int × Int) zh) :=
 some (.next ((QG al ak.To true), (QG ap (xp.mk cb bf) true), bg, ak.To, cb, bf, w64 (d8 + 1)))
def xx (m_ : z6) (w_ : List Int) (al : List (Int × Bool)) (ap : List ((xp Int) × Bool)) (aq : List (z8 × Bool)) (cb : Int) (bj : Int) (bo : Int) (d8 : Int) : Option (LR ((List (Int × Bool)) × (List ((xp Int) × Bool)) × (List (z8 × Bool)) × Int × Int × Int × Int) zh) :=
 bif decide (d8 < ((w_.length : Nat) : Int)) then (
  (idx w_ d8).bind fun bf =>
  (idx m_.Rows cb).bind fun ar =>
  (idx ar bf).bind fun ak =>
  bif ak.To == (-1) then (
   some (.done (zh.mk al ap aq)))
  else (
   bif bj != (-1) then (
    yP al ap cb d8 bf ak (QG aq (z8.mk bj bo bf) true))
   else (
    yP al ap cb d8 bf ak aq)))
 else (
  some (.done (zh.mk al ap aq)))
def xz (m_ : z6) (w_ : List Int) (x_ : zh) : Option zh :=
 (loop (fun s => xx m_ w_ s.1 s.2.1 s.2.2.1 s.2.2.2.1 s.2.2.2.2.1 s.2.2.2.2.2.1 s.2.2.2.2.2.2) (x_.states_, x_.edges_, x_.pairs_, 0, (-1), (-1), 0)).bind fun t1 =>
 some t1
def uQ (al : List (Int × Bool)) (ap : List ((xp Int) × Bool)) (aq : List (z8 × Bool)) : Option zh :=
 some (zh.mk al ap aq)
def xi (m_ : z6) (l_ : List (List Int)) (bl : List (Int × Bool)) (bt : List ((xp Int) × Bool)) (bg : List (z8 × Bool)) (dw : Int) : Option (LR ((List (Int × Bool)) × (List ((xp Int) × Bool)) × (List (z8 × Bool)) × Int) (((List (Int × Bool)) × (List ((xp Int) × Bool)) × (List (z8 × Bool))))) :=
 bif decide (dw < ((l_.length : Nat) : Int)) then (
  (idx l_ dw).bind fun bc =>
  (xz m_ bc (zh.mk bl bt bg)).bind fun ah =>
  some (.next (ah.states_, ah.edges_, ah.pairs_, w64 (dw + 1))))
 else (
  some (.done (bl, bt, bg)))
def yC (m_ : z6) (l_ : List (List Int)) : Option zh :=
 (uW).bind fun r_ =>
 (loop (fun s => xi m_ l_ s.1 s.2.1 s.2.2.1 s.2.2.2) (r_.states_, r_.edges_, r_.pairs_, 0)).bind fun t2 =>
 uQ t2.1 t2.2.1 t2.2.2
def zR (s_ : List Int) : Option (List Int) :=
 gd (([] : List Int).length + s_.length ≤ 4294967296) <|
 some s_
def zY (s_ : List Int) : Option (List Int) :=
 gd ((0 : Int) ≤ 0 ∧ (0 : Int) ≤ ((s_.length : Nat) : Int) ∧ (((s_.length : Nat) : Int) : Int) ≤ ((s_.length : Nat) : Int) ∧ (((s_.length : Nat) : Int) : Int) ≤ ((s_.length : Nat) : Int)) <|
 some ((s_.drop 0).take (((s_.length : Nat) : Int).toNat - 0))
def jR (m_ : z6) (from_ : Int) : Option (z6 × Int) :=
 some (m_, from_)
variable {σ : Type}
def yx (da : Int) (fw : List Bool) (fj : List zj) : Option (LR (List Bool × List zj × Int) ((σ × List Bool × List zj))) :=
 some (.next (fw, fj, w64 (da + 1)))
def xy (a7 : zj) (yr : σ × Bool) (ar : List ze) (cw : List Bool) (ca : List zj) (da : Int) : Option (LR (List Bool × List zj × Int) ((σ × List Bool × List zj))) :=
 bif decide (da < ((ar.length : Nat) : Int)) then (
  (idx ar da).bind fun ak =>
  bif ak.To != (-1) then (
   (idx cw ak.To).bind fun gw =>
   bif !gw then (
    (idx cw ak.To).bind fun io =>
    gd (ca.length + ([(zj.mk ak.To a7.state_ da)] : List zj).length ≤ 4294967296) <|
    yx da (cw.set ak.To.toNat true) (ca ++ ([(zj.mk ak.To a7.state_ da)] : List zj)))
   else (
    yx da cw ca))
  else (
   yx da cw ca))
 else (
  some (.done (yr.1, cw, ca)))
def wn (x0 : z6) (yy : σ → zj → Option (σ × Bool)) (fg : σ) (fk : List Bool) (bk : List zj) : Option (LR (σ × List Bool × List zj) σ) :=
 bif decide (((bk.length : Nat) : Int) > 0) then (
  (idx bk 0).bind fun a7 =>
  gd ((0 : Int) ≤ 1 ∧ (1 : Int) ≤ ((bk.length : Nat) : Int)) <|
  (yy fg a7).bind fun yr =>
  bif !yr.2 then (
   some (.done yr.1))
  else (
   (idx x0.Rows a7.state_).bind fun ar =>
   (loop (fun s => xy a7 yr ar s.1 s.2.1 s.2.2) (fk, (bk.drop (1 : Int).toNat), 0)).bind fun t2 =>
   some (.next t2)))
 else (
  some (.done fg))
def vV (x0 : z6) (x1 : Int) {σ : Type} (yy : σ → zj → Option (σ × Bool)) (sg : σ) : Option σ :=
 gd ((0 : Int) ≤ ((x0.Rows.length : Nat) : Int) ∧ (((x0.Rows.length : Nat) : Int) : Int) ≤ 4294967296) <|
 (idx (List.replicate ((x0.Rows.length : Nat) : Int).toNat false) x1).bind fun ii =>
 (loop (fun s => wn x0 yy s.1 s.2.1 s.2.2) (sg, ((List.replicate ((x0.Rows.length : Nat) : Int).toNat false).set x1.toNat true), ([(zj.mk x1 (-1) (-1))] : List zj))).bind fun t1 =>
 some t1
def jQ (l_ : List (List Int)) (is : List Bool) : Option (List (List Int) × List Bool) :=
 some (l_, is)
def xF (bn : List (List Int)) (ck : List Bool) (bw : zj) : Option (LR (List (List Int) × List Bool) Empty) :=
 (idx ck bw.state_).bind fun gv =>
 bif bw.from_ != (-1) then (
  (idx bn bw.from_).bind fun bc =>
  (zR bc).bind fun ah =>
  gd (ah.length + ([bw.input_] : List Int).length ≤ 4294967296) <|
  (zY (ah ++ ([bw.input_] : List Int))).bind fun am =>
  (idx bn bw.state_).bind fun cn =>
  some (.next ((bn.set bw.state_.toNat am), (ck.set bw.state_.toNat true))))
 else (
  some (.next (bn, (ck.set bw.state_.toNat true))))
def Zq (m_ : z6) (from_ : Int) : Option (List (List Int) × List Bool) :=
 gd ((0 : Int) ≤ ((m_.Rows.length : Nat) : Int) ∧ (((m_.Rows.length : Nat) : Int) : Int) ≤ 4294967296) <|
 gd ((0 : Int) ≤ ((m_.Rows.length : Nat) : Int) ∧ (((m_.Rows.length : Nat) : Int) : Int) ≤ 4294967296) <|
 (jR m_ from_).bind fun r_ =>
 (vV r_.1 r_.2 (yOf (fun s x => xF s.1 s.2 x)) (.next ((List.replicate ((m_.Rows.length : Nat) : Int).toNat ([] : List Int)), (List.replicate ((m_.Rows.length : Nat) : Int).toNat false)))).bind fun t2 =>
 match t2 with
 | .next (bn, ck) => (
  jQ bn ck)
 | .done z => nomatch z
def jY (m_ : z6) : Option (List (List Int) × List Bool × Int) :=
 (u9 m_).bind fun r_ =>
 bif r_ != 0 then (
  some (([] : List (List Int)), ([] : List Bool), r_))
 else (
  (Zq m_ 0).bind fun ah =>
  some (ah.1, ah.2, 0))
def qm (out : List zb) : Option (List zb) :=
 some out
def xk (av : Int) (ay : List zb) : Option (LR (List zb × Int) (List zb)) :=
 some (.next (ay, w64 (av + 1)))
def xj (a9 : Int) (cr : List zb) : Option (LR (List zb × Int) (List zb)) :=
 some (.next (cr, w64 (a9 + 1)))
def wR (cd : Int) (cp : List zb) : Option (LR (List zb × Int) (List zb)) :=
 some (.next (cp, w64 (cd + 1)))
def wO (av : Int) (a9 : Int) (am : List Int) (bu : List ze) (cx : List zb) (cd : Int) : Option (LR (List zb × Int) (List zb)) :=
 bif decide (cd < ((bu.length : Nat) : Int)) then (
  (idx bu cd).bind fun bi =>
  bif bi.To != (-1) then (
   (zR (am ++ ([a9] : List Int))).bind fun au =>
   (zY au).bind fun aw =>
   gd (aw.length + ([cd] : List Int).length ≤ 4294967296) <|
   gd (cx.length + ([(zb.mk (aw ++ ([cd] : List Int)) (z8.mk av a9 cd) (.inr (.inr (z8.mk av a9 cd))))] : List zb).length ≤ 4294967296) <|
   wR cd (cx ++ ([(zb.mk (aw ++ ([cd] : List Int)) (z8.mk av a9 cd) (.inr (.inr (z8.mk av a9 cd))))] : List zb)))
  else (
   wR cd cx))
 else (
  some (.done cx))
def wP (m_ : z6) (goal : Int) (r_ : List (List Int) × List Bool × Int) (av : Int) (ar : List ze) (br : List zb) (a9 : Int) : Option (LR (List zb × Int) (List zb)) :=
 bif decide (a9 < ((ar.length : Nat) : Int)) then (
  (idx ar a9).bind fun ak =>
  bif ak.To == (-1) then (
   xj a9 br)
  else (
   (idx r_.1 av).bind fun ij =>
   (zR ij).bind fun ah =>
   (zY ah).bind fun am =>
   gd (am.length + ([a9] : List Int).length ≤ 4294967296) <|
   bif goal == 1 then (
    gd (br.length + ([(zb.mk (am ++ ([a9] : List Int)) (z8.mk av a9 0) (.inr (.inl (av, a9))))] : List zb).length ≤ 4294967296) <|
    xj a9 (br ++ ([(zb.mk (am ++ ([a9] : List Int)) (z8.mk av a9 0) (.inr (.inl (av, a9))))] : List zb)))
   else (
    (idx m_.Rows ak.To).bind fun bu =>
    (loop (fun s => wO av a9 am bu s.1 s.2) (br, 0)).bind fun t6 =>
    xj a9 t6)))
 else (
  some (.done br))
def wQ (m_ : z6) (goal : Int) (r_ : List (List Int) × List Bool × Int) (ai : List zb) (av : Int) : Option (LR (List zb × Int) (List zb)) :=
 bif decide (av < ((m_.Rows.length : Nat) : Int)) then (
  (idx m_.Rows av).bind fun ar =>
  (idx r_.2.1 av).bind fun u_ =>
  bif !u_ then (
   xk av ai)
  else (
   bif goal == 0 then (
    (idx r_.1 av).bind fun fl =>
    gd (ai.length + ([(zb.mk fl (z8.mk av 0 0) (.inl av))] : List zb).length ≤ 4294967296) <|
    xk av (ai ++ ([(zb.mk fl (z8.mk av 0 0) (.inl av))] : List zb)))
   else (
    (loop (fun s => wP m_ goal r_ av ar s.1 s.2) (ai, 0)).bind fun t4 =>
    xk av t4)))
 else (
  some (.done ai))
def v7 (m_ : z6) (goal : Int) : Option (List zb) :=
 (jY m_).bind fun r_ =>
 (loop (fun s => wQ m_ goal r_ s.1 s.2) (([] : List zb), 0)).bind fun t2 =>
 qm t2
def jb (x0 : Int) (x_ : zh) : Option Bool :=
 (some ((z4P x_.states_ x0).getD false)).bind fun val =>
 some val
def ja (x0 : Int) (x1 : Int) (x_ : zh) : Option Bool :=
 (some ((z4P x_.edges_ (xp.mk x0 x1)).getD false)).bind fun val =>
 some val
def j9 (x0 : z8) (x_ : zh) : Option Bool :=
 (some ((z4P x_.pairs_ x0).getD false)).bind fun val =>
 some val
def W0 (f : Int ⊕ (Int × Int) ⊕ z8) (x : zh) : Option Bool :=
 match f with
 | (.inl c) => jb c x
 | (.inr (.inl c)) => ja c.1 c.2 x
 | (.inr (.inr c)) => j9 c x
def wU (s_ : List (List Int)) : Option (List (List Int)) :=
 gd (([] : List (List Int)).length + s_.length ≤ 4294967296) <|
 some s_
def u4 (a_ : List Int) (b_ : List Int) : Option Bool :=
 (yR a_ b_).bind fun r_ =>
 some (r_ == 0)
def xM (s_ : List (List Int)) : Option (List (List Int)) :=
 some s_
def yM (k_ : Int) : Option (LR Int (Unit ⊕ List (List Int))) :=
 some (.next (w64 (k_ + 1)))
def y5 (du : List (List Int)) (ct : Int) : Option (LR Int (Unit ⊕ List (List Int))) :=
 gd ((0 : Int) ≤ ct ∧ (ct : Int) ≤ ((du.length : Nat) : Int)) <|
 gd ((0 : Int) ≤ ct ∧ (ct : Int) ≤ ((du.length : Nat) : Int)) <|
 gd ((0 : Int) ≤ ct ∧ (ct : Int) ≤ (((du.take ct.toNat ++ List.replicate (du.length - ct.toNat) []).length : Nat) : Int)) <|
 some (.done (.inr ((du.take ct.toNat ++ List.replicate (du.length - ct.toNat) []).take ct.toNat)))
def y4 (k2 : Int) (gx : List (List Int)) (gy : Int) : Option (LR (List (List Int) × Int × Int) ((List (List Int) × Int))) :=
 some (.next (gx, gy, w64 (k2 + 1)))
def y3 (k_ : Int) (dj : List (List Int)) (ee : Int) (k2 : Int) : Option (LR (List (List Int) × Int × Int) ((List (List Int) × Int))) :=
 bif decide (k2 < ((dj.length - k_.toNat : Nat) : Int)) then (
  gd ((0 : Int) ≤ k_ ∧ (0 : Int) ≤ k2) <|
  (idx dj (k_ + k2)).bind fun ge =>
  gd ((0 : Int) ≤ k_ ∧ (0 : Int) ≤ w64 (k2 - 1)) <|
  (idx dj (k_ + (w64 (k2 - 1)))).bind fun gf =>
  (u4 ge gf).bind fun ah =>
  bif !ah then (
   gd ((0 : Int) ≤ k_ ∧ (0 : Int) ≤ k2) <|
   (idx dj (k_ + k2)).bind fun gg =>
   (idx dj ee).bind fun iw =>
   y4 k2 (dj.set ee.toNat gg) (w64 (ee + 1)))
  else (
   y4 k2 dj ee))
 else (
  some (.done (dj, ee)))
def yg (s_ : List (List Int)) (k_ : Int) : Option (LR Int (Unit ⊕ List (List Int))) :=
 bif decide (k_ < ((s_.length : Nat) : Int)) then (
  (idx s_ k_).bind fun dn =>
  (idx s_ (w64 (k_ - 1))).bind fun gh =>
  (u4 dn gh).bind fun r_ =>
  bif r_ then (
   gd ((0 : Int) ≤ k_ ∧ (k_ : Int) ≤ ((s_.length : Nat) : Int)) <|
   (loop (fun s => y3 k_ s.1 s.2.1 s.2.2) (s_, k_, 1)).bind fun t5 =>
   y5 t5.1 t5.2)
  else (
   yM k_))
 else (
  some (.done (.inl ())))
def yz (s_ : List (List Int)) (eq : Unit) : Option (List (List Int)) :=
 bif decide (((s_.length : Nat) : Int) < 2) then (
  some s_)
 else (
  (loop (fun s => yg s_ s) 1).bind fun t2 =>
  match t2 with
  | .inl p => xM s_
  | .inr p => some p)
def x6 (s_ : List (List Int)) : Option (List (List Int)) :=
 some s_
def qP (out : List (List Int × Bool)) : Option (List (List Int) × Int) :=
 gd (∀ q ∈ out, q.2 = true) <|
 some ((out.map (·.1)), 0)
def xJ (am : List (List Int)) (ay : List (List Int × Bool)) (eg : Int) : Option (LR ((List (List Int × Bool)) × Int) ((List (List Int × Bool)))) :=
 bif decide (eg < ((am.length - (0 : Int).toNat : Nat) : Int)) then (
  gd ((0 : Int) ≤ 0 ∧ (0 : Int) ≤ eg) <|
  (idx ay (0 + eg)).bind fun dh =>
  (zR dh.1).bind fun aw =>
  (zY aw).bind fun bm =>
  (idx ay eg).bind fun d9 =>
  some (.next ((ay.set eg.toNat (bm, true)), w64 (eg + 1))))
 else (
  some (.done ay))
def k7 (l_ : List (List Int)) : Option (List (List Int) × Int) :=
 (wU l_).bind fun r_ =>
 (z5j (fun x y => yR x y) r_).bind fun sorted =>
 (yz sorted ()).bind fun ah =>
 (x6 ah).bind fun am =>
 bif decide (((am.length : Nat) : Int) > 4096) then (
  some (([] : List (List Int)), 3))
 else (
  (jx am).bind fun au =>
  bif decide (au > 65536) then (
   some (([] : List (List Int)), 3))
  else (
   (loop (fun s => xJ am s.1 s.2) ((am.map fun q => (q, false)), 0)).bind fun t2 =>
   qP t2))
def Wb (l_ : List (List Int)) (inputs : Int) : Option (List (List Int) × Int) :=
 (jy l_ inputs).bind fun r_ =>
 bif r_ != 0 then (
  some (([] : List (List Int)), r_))
 else (
  (k7 l_).bind fun ah =>
  some (ah.1, ah.2))
def vT (m_ : z6) (ai : List (List Int)) : Option (List (List Int) × Int) :=
 bif decide (((ai.length : Nat) : Int) > 4096) then (
  some (([] : List (List Int)), 3))
 else (
  (Wb ai m_.Inputs).bind fun am =>
  some (am.1, am.2))
def xC (eb : Int) (bl : List (Int × Bool)) (bt : List ((xp Int) × Bool)) (bg : List (z8 × Bool)) (br : List (List Int)) : Option (LR ((List (Int × Bool)) × (List ((xp Int) × Bool)) × (List (z8 × Bool)) × List (List Int) × Int) (List (List Int))) :=
 some (.next (bl, bt, bg, br, w64 (eb + 1)))
def wy (m_ : z6) (au : List zb) (al : List (Int × Bool)) (ap : List ((xp Int) × Bool)) (aq : List (z8 × Bool)) (ay : List (List Int)) (eb : Int) : Option (LR ((List (Int × Bool)) × (List ((xp Int) × Bool)) × (List (z8 × Bool)) × List (List Int) × Int) (List (List Int))) :=
 bif decide (eb < ((au.length : Nat) : Int)) then (
  (idx au eb).bind fun ax =>
  (W0 ax.has_ (zh.mk al ap aq)).bind fun aw =>
  bif !aw then (
   (xz m_ ax.word_ (zh.mk al ap aq)).bind fun bm =>
   (zR ax.word_).bind fun ce =>
   (zY ce).bind fun dm =>
   gd (ay.length + ([dm] : List (List Int)).length ≤ 4294967296) <|
   xC eb bm.states_ bm.edges_ bm.pairs_ (ay ++ ([dm] : List (List Int))))
  else (
   xC eb al ap aq ay))
 else (
  some (.done ay))
def vU (m_ : z6) (goal : Int) (ah : zh) (out : List (List Int)) : Option (List (List Int) × Int) :=
 (v7 m_ goal).bind fun au =>
 (loop (fun s => wy m_ au s.1 s.2.1 s.2.2.1 s.2.2.2.1 s.2.2.2.2) (ah.states_, ah.edges_, ah.pairs_, out, 0)).bind fun t3 =>
 vT m_ t3
def xA (l_ : List (List Int)) (cr : List (List Int)) (gn : Int) : Option (LR (List (List Int) × Int) (List (List Int))) :=
 bif decide (gn < ((l_.length : Nat) : Int)) then (
  (idx l_ gn).bind fun bc =>
  (zR bc).bind fun dx =>
  (zY dx).bind fun cm =>
  gd (cr.length + ([cm] : List (List Int)).length ≤ 4294967296) <|
  some (.next ((cr ++ ([cm] : List (List Int))), w64 (gn + 1))))
 else (
  some (.done cr))
def wS (m_ : z6) (l_ : List (List Int)) (goal : Int) : Option (List (List Int) × Int) :=
 (xP m_ l_).bind fun r_ =>
 bif r_ != 0 then (
  some (([] : List (List Int)), r_))
 else (
  bif decide (goal < 0) then (
   some (([] : List (List Int)), 1))
  else (
   bif decide (goal ≥ 3) then (
    some (([] : List (List Int)), 1))
   else (
    (yC m_ l_).bind fun ah =>
    gd ((0 : Int) ≤ ((l_.length : Nat) : Int) ∧ (((l_.length : Nat) : Int) : Int) ≤ 4294967296) <|
    (loop (fun s => xA l_ s.1 s.2) (([] : List (List Int)), 0)).bind fun t5 =>
    vU m_ goal ah t5)))
def Yu (m_ : z6) (s_ : Int) (i_ : Int) : Option ze :=
 bif decide (s_ < 0) then (
  some (ze.mk (-1) (-1)))
 else (
  (idx m_.Rows s_).bind fun ar =>
  (idx ar i_).bind fun ak =>
  some ak)
def uE (dp : z6 → Int → (List Int) → Option Int) (m_ : z6) (s_ : Int) (w_ : List Int) : Option Int :=
 bif ((w_.length : Nat) : Int) == 0 then (
  some s_)
 else (
  (idx w_ 0).bind fun bf =>
  (Yu m_ s_ bf).bind fun r_ =>
  gd ((0 : Int) ≤ 1 ∧ (1 : Int) ≤ ((w_.length : Nat) : Int) ∧ (((w_.length : Nat) : Int) : Int) ≤ ((w_.length : Nat) : Int)) <|
  (dp m_ r_.To (w_.drop (1 : Int).toNat)).bind fun ah =>
  some ah)
def qZ (fu : Nat) : z6 → Int → (List Int) → Option Int := Nat.rec (motive := fun _ => z6 → Int → (List Int) → Option Int) (fun _ _ _ => none) (fun _ ih => uE ih) fu
def YZ (m_ : z6) (s_ : Int) (w_ : List Int) : Option Int := qZ (w_.length + 1) m_ s_ w_
def qY (out : List Int) : Option (List Int) :=
 gd (out.length + ([0] : List Int).length ≤ 4294967296) <|
 some (out ++ ([0] : List Int))
def qX (inputs : Int) (ai : List Int) (k_ : Int) : Option (LR (List Int × Int) (List Int ⊕ List Int)) :=
 bif decide (k_ ≥ 0) then (
  (idx ai k_).bind fun dh =>
  bif decide ((w64 (dh + 1)) < inputs) then (
   (idx ai k_).bind fun d9 =>
   (idx ai k_).bind fun ip =>
   some (.done (.inr (ai.set k_.toNat (w64 (d9 + 1))))))
  else (
   (idx ai k_).bind fun iq =>
   some (.next ((ai.set k_.toNat 0), w64 (k_ - 1)))))
 else (
  some (.done (.inl ai)))
def Zn (w_ : List Int) (inputs : Int) : Option (List Int) :=
 gd (([] : List Int).length + w_.length ≤ 4294967296) <|
 (loop (fun s => qX inputs s.1 s.2) (w_, w64 (((w_.length : Nat) : Int) - 1))).bind fun t2 =>
 match t2 with
 | .inl p => qY p
 | .inr p => some p
def jW (l_ : List (List Int)) (is : List Bool) : Option (List (List Int) × List Bool) :=
 some (l_, is)
def ve (m_ : z6) (w_ : List Int) (dy : List (List Int)) (gz : List Bool) : Option (LR (List (List Int) × List Bool × List Int) ((List (List Int) × List Bool))) :=
 (Zn w_ m_.Inputs).bind fun r_ =>
 some (.next (dy, gz, r_))
def jV (m_ : z6) (from_ : Int) (bn : List (List Int)) (ck : List Bool) (w_ : List Int) : Option (LR (List (List Int) × List Bool × List Int) ((List (List Int) × List Bool))) :=
 bif decide (((w_.length : Nat) : Int) < ((m_.Rows.length : Nat) : Int)) then (
  (YZ m_ from_ w_).bind fun ah =>
  bif decide (ah ≥ 0) then (
   (idx ck ah).bind fun gv =>
   bif !gv then (
    (idx ck ah).bind fun ix =>
    (idx bn ah).bind fun bc =>
    ve m_ w_ (bn.set ah.toNat w_) (ck.set ah.toNat true))
   else (
    ve m_ w_ bn ck))
  else (
   ve m_ w_ bn ck))
 else (
  some (.done (bn, ck)))
def ZC (m_ : z6) (from_ : Int) : Option (List (List Int) × List Bool) :=
 gd ((0 : Int) ≤ ((m_.Rows.length : Nat) : Int) ∧ (((m_.Rows.length : Nat) : Int) : Int) ≤ 4294967296) <|
 gd ((0 : Int) ≤ ((m_.Rows.length : Nat) : Int) ∧ (((m_.Rows.length : Nat) : Int) : Int) ≤ 4294967296) <|
 (loop (fun s => jV m_ from_ s.1 s.2.1 s.2.2) ((List.replicate ((m_.Rows.length : Nat) : Int).toNat ([] : List Int)), (List.replicate ((m_.Rows.length : Nat) : Int).toNat false), ([] : List Int))).bind fun t2 =>
 jW t2.1 t2.2
def qG (m_ : z6) : Option (List (List Int) × List Bool) :=
 (ZC m_ 0).bind fun r_ =>
 some (r_.1, r_.2)
def kT (out : List za) : Option (List za) :=
 some out
def wY (s_ : Int) (ay : List za) : Option (LR (List za × Int) (List za)) :=
 some (.next (ay, w64 (s_ + 1)))
def qV (i_ : Int) (cr : List za) : Option (LR (List za × Int) (List za)) :=
 some (.next (cr, w64 (i_ + 1)))
def uB (k_ : Int) (gp : List za) : Option (LR (List za × Int) (List za)) :=
 some (.next (gp, w64 (k_ + 1)))
def vP (m_ : z6) (goal : Int) (s_ : Int) (i_ : Int) (ak : ze) (cp : List za) (k_ : Int) : Option (LR (List za × Int) (List za)) :=
 bif decide (k_ < m_.Inputs) then (
  bif ak.To != (-1) then (
   bif goal == 2 then (
    (idx m_.Rows ak.To).bind fun bu =>
    (idx bu k_).bind fun bi =>
    bif bi.To != (-1) then (
     gd (cp.length + ([(za.mk s_ i_ k_)] : List za).length ≤ 4294967296) <|
     uB k_ (cp ++ ([(za.mk s_ i_ k_)] : List za)))
    else (
     uB k_ cp))
   else (
    some (.done cp)))
  else (
   some (.done cp)))
 else (
  some (.done cp))
def wX (m_ : z6) (goal : Int) (s_ : Int) (i_ : Int) (ak : ze) (cx : List za) : Option (LR (List za × Int) (List za)) :=
 (loop (fun s => vP m_ goal s_ i_ ak s.1 s.2) (cx, 0)).bind fun t7 =>
 qV i_ t7
def uz (m_ : z6) (goal : Int) (s_ : Int) (br : List za) (i_ : Int) : Option (LR (List za × Int) (List za)) :=
 bif decide (i_ < m_.Inputs) then (
  (idx m_.Rows s_).bind fun ar =>
  (idx ar i_).bind fun ak =>
  bif ak.To != (-1) then (
   bif goal == 1 then (
    gd (br.length + ([(za.mk s_ i_ (-1))] : List za).length ≤ 4294967296) <|
    wX m_ goal s_ i_ ak (br ++ ([(za.mk s_ i_ (-1))] : List za)))
   else (
    wX m_ goal s_ i_ ak br))
  else (
   wX m_ goal s_ i_ ak br))
 else (
  some (.done br))
def uA (m_ : z6) (goal : Int) (r_ : List (List Int) × List Bool) (ai : List za) (s_ : Int) : Option (LR (List za × Int) (List za)) :=
 bif decide (s_ < ((m_.Rows.length : Nat) : Int)) then (
  (idx r_.2 s_).bind fun u_ =>
  bif !u_ then (
   wY s_ ai)
  else (
   bif goal == 0 then (
    gd (ai.length + ([(za.mk s_ (-1) (-1))] : List za).length ≤ 4294967296) <|
    wY s_ (ai ++ ([(za.mk s_ (-1) (-1))] : List za)))
   else (
    (loop (fun s => uz m_ goal s_ s.1 s.2) (ai, 0)).bind fun t4 =>
    wY s_ t4)))
 else (
  some (.done ai))
def Zl (m_ : z6) (goal : Int) : Option (List za) :=
 (qG m_).bind fun r_ =>
 (loop (fun s => uA m_ goal r_ s.1 s.2) (([] : List za), 0)).bind fun t2 =>
 kT t2
def x9 (k_ : Int) (bi : ze) : Option (LR (Int × Int) Bool) :=
 some (.next (bi.To, w64 (k_ + 1)))
def vA (m_ : z6) (w_ : List Int) (x_ : za) (cb : Int) (k_ : Int) : Option (LR (Int × Int) Bool) :=
 bif k_ == ((w_.length : Nat) : Int) then (
  some (.done false))
 else (
  (idx m_.Rows cb).bind fun ar =>
  (idx w_ k_).bind fun bf =>
  (idx ar bf).bind fun ak =>
  bif ak.To == (-1) then (
   some (.done false))
  else (
   (idx m_.Rows cb).bind fun bu =>
   (idx w_ k_).bind fun ik =>
   (idx bu ik).bind fun bi =>
   bif x_.State == cb then (
    (idx w_ k_).bind fun il =>
    bif x_.Input == il then (
     bif x_.Next == (-1) then (
      some (.done true))
     else (
      bif decide ((w64 (k_ + 1)) < ((w_.length : Nat) : Int)) then (
       (idx w_ (w64 (k_ + 1))).bind fun im =>
       bif im == x_.Next then (
        (idx m_.Rows bi.To).bind fun ia =>
        (idx ia x_.Next).bind fun gq =>
        bif gq.To != (-1) then (
         some (.done true))
        else (
         x9 k_ bi))
       else (
        x9 k_ bi))
      else (
       x9 k_ bi)))
    else (
     x9 k_ bi))
   else (
    x9 k_ bi)))
def un (m_ : z6) (w_ : List Int) (x_ : za) (cb : Int) (k_ : Int) : Option (LR (Int × Int) Bool) :=
 bif x_.Input == (-1) then (
  bif x_.State == cb then (
   some (.done true))
  else (
   vA m_ w_ x_ cb k_))
 else (
  vA m_ w_ x_ cb k_)
def k8 (m_ : z6) (w_ : List Int) (x_ : za) : Option Bool :=
 (loop (fun s => un m_ w_ x_ s.1 s.2) (0, 0)).bind fun t1 =>
 some t1
def qd (x_ : za) : Option Bool :=
 some ((x_.State == 0) && ((x_.Input == (-1)) && ((x_.Next == (-1)) && true)))
def vY (m_ : z6) (l_ : List (List Int)) (x_ : za) (i_ : Int) : Option (LR Int (Unit ⊕ Bool)) :=
 bif decide (i_ < ((l_.length : Nat) : Int)) then (
  (idx l_ i_).bind fun bc =>
  (k8 m_ bc x_).bind fun r_ =>
  bif r_ then (
   some (.done (.inr true)))
  else (
   some (.next (w64 (i_ + 1)))))
 else (
  some (.done (.inl ())))
def uC (m_ : z6) (l_ : List (List Int)) (x_ : za) : Option Bool :=
 (loop (fun s => vY m_ l_ x_ s) 0).bind fun t2 =>
 match t2 with
 | .inl p => qd x_
 | .inr p => some p
def qW (out : List (List Int)) : Option (List (List Int)) :=
 (Zm out).bind fun am =>
 some am
def vC (i_ : Int) (ay : List (List Int)) : Option (LR (List (List Int) × Int) (List (List Int))) :=
 some (.next (ay, w64 (i_ + 1)))
def vB (ai : List (List Int)) (i_ : Int) (fx : List Int) : Option (LR (List (List Int) × Int) (List (List Int))) :=
 gd (ai.length + ([fx] : List (List Int)).length ≤ 4294967296) <|
 vC i_ (ai ++ ([fx] : List (List Int)))
def ws (ai : List (List Int)) (i_ : Int) (ax : za) (w_ : List Int) : Option (LR (List (List Int) × Int) (List (List Int))) :=
 bif ax.Next != (-1) then (
  gd (w_.length + ([ax.Next] : List Int).length ≤ 4294967296) <|
  vB ai i_ (w_ ++ ([ax.Next] : List Int)))
 else (
  vB ai i_ w_)
def uo (m_ : z6) (r_ : List (List Int) × List Bool) (ah : List za) (ai : List (List Int)) (i_ : Int) : Option (LR (List (List Int) × Int) (List (List Int))) :=
 bif decide (i_ < ((ah.length : Nat) : Int)) then (
  (idx ah i_).bind fun ax =>
  (uC m_ ai ax).bind fun au =>
  bif au then (
   vC i_ ai)
  else (
   (idx r_.1 ax.State).bind fun u_ =>
   gd (([] : List Int).length + u_.length ≤ 4294967296) <|
   bif ax.Input != (-1) then (
    gd (u_.length + ([ax.Input] : List Int).length ≤ 4294967296) <|
    ws ai i_ ax (u_ ++ ([ax.Input] : List Int)))
   else (
    ws ai i_ ax u_)))
 else (
  some (.done ai))
def k9 (m_ : z6) (l_ : List (List Int)) (goal : Int) : Option (List (List Int)) :=
 (qG m_).bind fun r_ =>
 gd (([] : List (List Int)).length + l_.length ≤ 4294967296) <|
 (Zl m_ goal).bind fun ah =>
 (loop (fun s => uo m_ r_ ah s.1 s.2) (l_, 0)).bind fun t2 =>
 qW t2
def kU : Option Bool :=
 some true
def uD (a_ : List (List Int)) (b_ : List (List Int)) (i_ : Int) : Option (LR Int (Unit ⊕ Bool)) :=
 bif decide (i_ < ((a_.length : Nat) : Int)) then (
  (idx a_ i_).bind fun fp =>
  (idx b_ i_).bind fun fq =>
  (vQ fp fq).bind fun r_ =>
  bif r_ != 0 then (
   some (.done (.inr false)))
  else (
   some (.next (w64 (i_ + 1)))))
 else (
  some (.done (.inl ())))
def jF (a_ : List (List Int)) (b_ : List (List Int)) : Option Bool :=
 bif ((a_.length : Nat) : Int) != ((b_.length : Nat) : Int) then (
  some false)
 else (
  (loop (fun s => uD a_ b_ s) 0).bind fun t2 =>
  match t2 with
  | .inl p => kU
  | .inr p => some p)
def qb (out : List za) : Option (List za) :=
 some out
def wL (i_ : Int) (ay : List za) : Option (LR (List za × Int) (List za)) :=
 some (.next (ay, w64 (i_ + 1)))
def wK (m_ : z6) (l_ : List (List Int)) (r_ : List za) (ai : List za) (i_ : Int) : Option (LR (List za × Int) (List za)) :=
 bif decide (i_ < ((r_.length : Nat) : Int)) then (
  (idx r_ i_).bind fun ax =>
  (uC m_ l_ ax).bind fun ah =>
  bif !ah then (
   (idx r_ i_).bind fun ff =>
   gd (ai.length + ([ff] : List za).length ≤ 4294967296) <|
   wL i_ (ai ++ ([ff] : List za)))
  else (
   wL i_ ai))
 else (
  some (.done ai))
def qU (m_ : z6) (l_ : List (List Int)) (goal : Int) : Option (List za) :=
 (Zl m_ goal).bind fun r_ =>
 (loop (fun s => wK m_ l_ r_ s.1 s.2) (([] : List za), 0)).bind fun t2 =>
 qb t2
def xO (goal : Int) (x_ : zh) : Option Int :=
 (idx ([((x_.states_.length : Nat) : Int), ((x_.edges_.length : Nat) : Int), ((x_.pairs_.length : Nat) : Int)] : List Int) goal).bind fun cell =>
 some cell
def ZL (n_ : YI (xp Int)) : Option (y7 × Int) :=
 some ((y7.mk n_.e0 n_.e1 n_.e2), 0)
def xQ (m_ : z6) (ah : zh) (dt : YI (xp Int)) (bw : Int) : Option (LR (YI (xp Int) × Int) (YI (xp Int))) :=
 bif decide (bw < 3) then (
  (xO bw ah).bind fun am =>
  (v7 m_ bw).bind fun au =>
  (idx (YI.toL dt) bw).bind fun cell =>
  (some (YI.setI dt bw (xp.mk am ((au.length : Nat) : Int)))).bind fun arr =>
  some (.next (arr, w64 (bw + 1))))
 else (
  some (.done dt))
def uq (m_ : z6) (l_ : List (List Int)) : Option (y7 × Int) :=
 (xP m_ l_).bind fun r_ =>
 bif r_ != 0 then (
  some ((y7.mk (xp.mk 0 0) (xp.mk 0 0) (xp.mk 0 0)), r_))
 else (
  (yC m_ l_).bind fun ah =>
  (loop (fun s => xQ m_ ah s.1 s.2) ((YI.mk (xp.mk 0 0) (xp.mk 0 0) (xp.mk 0 0)), 0)).bind fun t2 =>
  ZL t2)
def XX : Option z6 :=
 some (z6.mk 2 2 ([[(ze.mk 1 0), (ze.mk 0 0)], [(ze.mk 0 1), (ze.mk 1 0)]]))
def yo (s_ : List z8) : Option (List z8) :=
 gd ((0 : Int) ≤ 0 ∧ (0 : Int) ≤ ((s_.length : Nat) : Int) ∧ (((s_.length : Nat) : Int) : Int) ≤ ((s_.length : Nat) : Int) ∧ (((s_.length : Nat) : Int) : Int) ≤ ((s_.length : Nat) : Int)) <|
 some ((s_.drop 0).take (((s_.length : Nat) : Int).toNat - 0))
def uP (out : List z8) : Option (List z8 × Int) :=
 (yo out).bind fun am =>
 some (am, 0)
def vp (av : Int) (ay : List z8) : Option (LR (List z8 × Int) (List z8)) :=
 some (.next (ay, w64 (av + 1)))
def uO (ah : zh) (au : List zb) (ai : List z8) (av : Int) : Option (LR (List z8 × Int) (List z8)) :=
 bif decide (av < ((au.length : Nat) : Int)) then (
  (idx au av).bind fun ax =>
  (W0 ax.has_ ah).bind fun aw =>
  bif !aw then (
   gd (ai.length + ([ax.pair_] : List z8).length ≤ 4294967296) <|
   vp av (ai ++ ([ax.pair_] : List z8)))
  else (
   vp av ai))
 else (
  some (.done ai))
def jK (m_ : z6) (l_ : List (List Int)) (goal : Int) : Option (List z8 × Int) :=
 (xP m_ l_).bind fun r_ =>
 bif r_ != 0 then (
  some (([] : List z8), r_))
 else (
  (yC m_ l_).bind fun ah =>
  (v7 m_ goal).bind fun au =>
  (loop (fun s => uO ah au s.1 s.2) (([] : List z8), 0)).bind fun t2 =>
  uP t2)
def je (r_ : List z8 × Int) (out : List (xp Int)) : Option (List (xp Int) × Int) :=
 some (out, r_.2)
def jd (r_ : List z8 × Int) (ai : List (xp Int)) (gr : Int) : Option (LR (List (xp Int) × Int) (List (xp Int))) :=
 bif decide (gr < ((r_.1.length : Nat) : Int)) then (
  (idx r_.1 gr).bind fun u_ =>
  gd (ai.length + ([(xp.mk u_.State u_.Input)] : List (xp Int)).length ≤ 4294967296) <|
  some (.next ((ai ++ ([(xp.mk u_.State u_.Input)] : List (xp Int))), w64 (gr + 1))))
 else (
  some (.done ai))
def ZM (m_ : z6) (l_ : List (List Int)) : Option (List (xp Int) × Int) :=
 (jK m_ l_ 1).bind fun r_ =>
 gd ((0 : Int) ≤ ((r_.1.length : Nat) : Int) ∧ (((r_.1.length : Nat) : Int) : Int) ≤ 4294967296) <|
 (loop (fun s => jd r_ s.1 s.2) (([] : List (xp Int)), 0)).bind fun t2 =>
 je r_ t2
def jM (out : List Int) : Option (List Int) :=
 some out
def uI (db : Int) (ay : List Int) : Option (LR (List Int × Int) (List Int)) :=
 some (.next (ay, w64 (db + 1)))
def jL (bq : List zb) (x_ : zh) (ai : List Int) (db : Int) : Option (LR (List Int × Int) (List Int)) :=
 bif decide (db < ((bq.length : Nat) : Int)) then (
  (idx bq db).bind fun fc =>
  (W0 fc.has_ x_).bind fun r_ =>
  bif r_ then (
   gd ((64 : Int) ≠ 0) <|
   (idx ai (w64 (Int.tdiv db 64))).bind fun dh =>
   gd ((64 : Int) ≠ 0) <|
   gd ((0 : Int) ≤ Int.tmod db 64) <|
   (idx ai (w64 (Int.tdiv db 64))).bind fun d9 =>
   uI db (ai.set (w64 (Int.tdiv db 64)).toNat (orK .u64 dh (z94 .u64 1 (Int.tmod db 64)))))
  else (
   uI db ai))
 else (
  some (.done ai))
def uX (bq : List zb) (x_ : zh) : Option (List Int) :=
 gd ((64 : Int) ≠ 0) <|
 gd ((0 : Int) ≤ w64 ((w64 (Int.tdiv ((bq.length : Nat) : Int) 64)) + 1) ∧ (w64 ((w64 (Int.tdiv ((bq.length : Nat) : Int) 64)) + 1) : Int) ≤ 4294967296) <|
 (loop (fun s => jL bq x_ s.1 s.2) ((List.replicate (w64 ((w64 (Int.tdiv ((bq.length : Nat) : Int) 64)) + 1)).toNat (0 : Int)), 0)).bind fun t2 =>
 jM t2
def w6 : Option Bool :=
 some true
def xZ (s1 : List Int) (s2 : List Int) (fz : Int) : Option (LR Int (Unit ⊕ Bool)) :=
 bif decide (fz < ((s1.length : Nat) : Int)) then (
  (idx s1 fz).bind fun gm =>
  (idx s2 fz).bind fun ft =>
  bif gm != ft then (
   some (.done (.inr false)))
  else (
   some (.next (w64 (fz + 1)))))
 else (
  some (.done (.inl ())))
def wD (s1 : List Int) (s2 : List Int) : Option Bool :=
 bif ((s1.length : Nat) : Int) != ((s2.length : Nat) : Int) then (
  some false)
 else (
  (loop (fun s => xZ s1 s2 s) 0).bind fun t2 =>
  match t2 with
  | .inl p => w6
  | .inr p => some p)
def wF (s_ : List Int) : Option (List Int) :=
 gd (([] : List Int).length + s_.length ≤ 4294967296) <|
 some s_
def wx : Option (List Int × Bool) :=
 some (([] : List Int), false)
def ww (i_ : Int) : Option (LR Int (Unit ⊕ (List Int × Bool))) :=
 some (.next (w64 (i_ + 1)))
def wv (c_ : zz) (many : Int) (dp : zz → (List Int) → Int → Int → Option (List Int × Bool)) (i_ : Int) (em : List Int) : Option (LR Int (Unit ⊕ (List Int × Bool))) :=
 (dp c_ em (w64 (i_ + 1)) (w64 (many - 1))).bind fun am =>
 bif am.2 then (
  gd (([i_] : List Int).length + am.1.length ≤ 4294967296) <|
  some (.done (.inr ((([i_]) ++ am.1), true))))
 else (
  ww i_)
def wt (cu : List Int) (dl : List Int) (de : Int) : Option (LR (List Int × Int) (List Int)) :=
 bif decide (de < ((cu.length : Nat) : Int)) then (
  (idx cu de).bind fun ep =>
  (idx dl de).bind fun fm =>
  (idx dl de).bind fun ib =>
  some (.next ((dl.set de.toNat (orK .u64 fm ep)), w64 (de + 1))))
 else (
  some (.done dl))
def wu (c_ : zz) (bv : List Int) (many : Int) (dp : zz → (List Int) → Int → Int → Option (List Int × Bool)) (i_ : Int) : Option (LR Int (Unit ⊕ (List Int × Bool))) :=
 bif decide ((w64 (i_ + many)) ≤ ((c_.sets_.length : Nat) : Int)) then (
  (wF bv).bind fun ah =>
  (idx c_.sets_ i_).bind fun cu =>
  (loop (fun s => wt cu s.1 s.2) (ah, 0)).bind fun t5 =>
  wv c_ many dp i_ t5)
 else (
  some (.done (.inl ())))
def wI (dp : zz → (List Int) → Int → Int → Option (List Int × Bool)) (c_ : zz) (bv : List Int) (from_ : Int) (many : Int) : Option (List Int × Bool) :=
 bif many == 0 then (
  (wD bv c_.want_).bind fun r_ =>
  some (([] : List Int), r_))
 else (
  (loop (fun s => wu c_ bv many dp s) from_).bind fun t2 =>
  match t2 with
  | .inl p => wx
  | .inr p => some p)
def uM (fu : Nat) : zz → (List Int) → Int → Int → Option (List Int × Bool) := Nat.rec (motive := fun _ => zz → (List Int) → Int → Int → Option (List Int × Bool)) (fun _ _ _ _ => none) (fun _ ih => wI ih) fu
def qH (c_ : zz) (bv : List Int) (from_ : Int) (many : Int) : Option (List Int × Bool) := uM (many.toNat + 1) c_ bv from_ many
def qA : Option (List (List Int) × Int) :=
 some (([] : List (List Int)), 0)
def qz (dz : Int) : Option (LR Int (Unit ⊕ (List (List Int) × Int))) :=
 some (.next (w64 (dz + 1)))
def qw (out : List (List Int)) : Option (LR Int (Unit ⊕ (List (List Int) × Int))) :=
 some (.done (.inr (out, 0)))
def qt (l_ : List (List Int)) (ce : List Int × Bool) (ai : List (List Int)) (gt : Int) : Option (LR (List (List Int) × Int) (List (List Int))) :=
 bif decide (gt < ((ce.1.length : Nat) : Int)) then (
  (idx ce.1 gt).bind fun u_ =>
  (idx l_ u_).bind fun bc =>
  (zR bc).bind fun dm =>
  (zY dm).bind fun dx =>
  gd (ai.length + ([dx] : List (List Int)).length ≤ 4294967296) <|
  some (.next ((ai ++ ([dx] : List (List Int))), w64 (gt + 1))))
 else (
  some (.done ai))
def qu (l_ : List (List Int)) (ah : List zb) (au : List Int) (cg : List (List Int)) (dz : Int) : Option (LR Int (Unit ⊕ (List (List Int) × Int))) :=
 bif decide (dz < (w64 (((l_.length : Nat) : Int) + 1))) then (
  (uW).bind fun aw =>
  (uX ah aw).bind fun bm =>
  (qH (zz.mk cg au) bm 0 dz).bind fun ce =>
  bif !ce.2 then (
   qz dz)
  else (
   gd ((0 : Int) ≤ ((ce.1.length : Nat) : Int) ∧ (((ce.1.length : Nat) : Int) : Int) ≤ 4294967296) <|
   (loop (fun s => qt l_ ce s.1 s.2) (([] : List (List Int)), 0)).bind fun t6 =>
   qw t6))
 else (
  some (.done (.inl ())))
def qB (l_ : List (List Int)) (ah : List zb) (au : List Int) (cg : List (List Int)) : Option (List (List Int) × Int) :=
 (loop (fun s => qu l_ ah au cg s) 0).bind fun t3 =>
 match t3 with
 | .inl p => qA
 | .inr p => some p
def qr (m_ : z6) (l_ : List (List Int)) (ah : List zb) (cq : List (List Int)) (de : Int) : Option (LR (List (List Int) × Int) (List (List Int))) :=
 bif decide (de < ((l_.length : Nat) : Int)) then (
  (idx l_ de).bind fun cn =>
  (yC m_ ([cn])).bind fun cm =>
  (uX ah cm).bind fun ew =>
  gd (cq.length + ([ew] : List (List Int)).length ≤ 4294967296) <|
  some (.next ((cq ++ ([ew] : List (List Int))), w64 (de + 1))))
 else (
  some (.done cq))
def kC (m_ : z6) (l_ : List (List Int)) (goal : Int) : Option (List (List Int) × Int) :=
 (xP m_ l_).bind fun r_ =>
 bif r_ != 0 then (
  some (([] : List (List Int)), r_))
 else (
  bif decide (goal < 0) then (
   some (([] : List (List Int)), 1))
  else (
   bif decide (goal ≥ 3) then (
    some (([] : List (List Int)), 1))
   else (
    bif decide (((l_.length : Nat) : Int) > 16) then (
     some (([] : List (List Int)), 3))
    else (
     (v7 m_ goal).bind fun ah =>
     (yC m_ l_).bind fun am =>
     (uX ah am).bind fun au =>
     (loop (fun s => qr m_ l_ ah s.1 s.2) (([] : List (List Int)), 0)).bind fun t7 =>
     qB l_ ah au t7))))
def uc (i_ : Int) : Option (List UInt8) :=
 bif decide (i_ < 10) then (
  gd ((0 : Int) ≤ i_ ∧ (i_ : Int) ≤ w64 (i_ + 1) ∧ (w64 (i_ + 1) : Int) ≤ ((([48, 49, 50, 51, 52, 53, 54, 55, 56, 57, 97, 98, 99, 100, 101, 102, 103, 104, 105, 106, 107, 108, 109, 110, 111, 112, 113, 114, 115, 116, 117, 118, 119, 120, 121, 122] : List UInt8).length : Nat) : Int)) <|
  some ((([48, 49, 50, 51, 52, 53, 54, 55, 56, 57, 97, 98, 99, 100, 101, 102, 103, 104, 105, 106, 107, 108, 109, 110, 111, 112, 113, 114, 115, 116, 117, 118, 119, 120, 121, 122] : List UInt8).take (w64 (i_ + 1)).toNat).drop i_.toNat))
 else (
  gd ((0 : Int) ≤ w64 (i_ * 2) ∧ (w64 (i_ * 2) : Int) ≤ w64 ((w64 (i_ * 2)) + 2) ∧ (w64 ((w64 (i_ * 2)) + 2) : Int) ≤ ((([48, 48, 48, 49, 48, 50, 48, 51, 48, 52, 48, 53, 48, 54, 48, 55, 48, 56, 48, 57, 49, 48, 49, 49, 49, 50, 49, 51, 49, 52, 49, 53, 49, 54, 49, 55, 49, 56, 49, 57, 50, 48, 50, 49, 50, 50, 50, 51, 50, 52, 50, 53, 50, 54, 50, 55, 50, 56, 50, 57, 51, 48, 51, 49, 51, 50, 51, 51, 51, 52, 51, 53, 51, 54, 51, 55, 51, 56, 51, 57, 52, 48, 52, 49, 52, 50, 52, 51, 52, 52, 52, 53, 52, 54, 52, 55, 52, 56, 52, 57, 53, 48, 53, 49, 53, 50, 53, 51, 53, 52, 53, 53, 53, 54, 53, 55, 53, 56, 53, 57, 54, 48, 54, 49, 54, 50, 54, 51, 54, 52, 54, 53, 54, 54, 54, 55, 54, 56, 54, 57, 55, 48, 55, 49, 55, 50, 55, 51, 55, 52, 55, 53, 55, 54, 55, 55, 55, 56, 55, 57, 56, 48, 56, 49, 56, 50, 56, 51, 56, 52, 56, 53, 56, 54, 56, 55, 56, 56, 56, 57, 57, 48, 57, 49, 57, 50, 57, 51, 57, 52, 57, 53, 57, 54, 57, 55, 57, 56, 57, 57] : List UInt8).length : Nat) : Int)) <|
  some ((([48, 48, 48, 49, 48, 50, 48, 51, 48, 52, 48, 53, 48, 54, 48, 55, 48, 56, 48, 57, 49, 48, 49, 49, 49, 50, 49, 51, 49, 52, 49, 53, 49, 54, 49, 55, 49, 56, 49, 57, 50, 48, 50, 49, 50, 50, 50, 51, 50, 52, 50, 53, 50, 54, 50, 55, 50, 56, 50, 57, 51, 48, 51, 49, 51, 50, 51, 51, 51, 52, 51, 53, 51, 54, 51, 55, 51, 56, 51, 57, 52, 48, 52, 49, 52, 50, 52, 51, 52, 52, 52, 53, 52, 54, 52, 55, 52, 56, 52, 57, 53, 48, 53, 49, 53, 50, 53, 51, 53, 52, 53, 53, 53, 54, 53, 55, 53, 56, 53, 57, 54, 48, 54, 49, 54, 50, 54, 51, 54, 52, 54, 53, 54, 54, 54, 55, 54, 56, 54, 57, 55, 48, 55, 49, 55, 50, 55, 51, 55, 52, 55, 53, 55, 54, 55, 55, 55, 56, 55, 57, 56, 48, 56, 49, 56, 50, 56, 51, 56, 52, 56, 53, 56, 54, 56, 55, 56, 56, 56, 57, 57, 48, 57, 49, 57, 50, 57, 51, 57, 52, 57, 53, 57, 54, 57, 55, 57, 56, 57, 57] : List UInt8).take (w64 ((w64 (i_ * 2)) + 2)).toNat).drop (w64 (i_ * 2)).toNat))
def yU (u_ : Int) : Option (List UInt8) :=
 none
def yV (i_ : Int) : Option (List UInt8) :=
 bif decide (i_ < 0) then (
  yU (IntKind.u64.wrap (0 - (IntKind.u64.wrap (i_)))))
 else (
  yU (IntKind.u64.wrap (i_)))
def wH (i_ : Int) (base : Int) : Option (List UInt8) :=
 bif base == 10 then (
  bif decide (0 ≤ i_) then (
   bif decide (i_ < 100) then (
    (uc i_).bind fun r_ =>
    some r_)
   else (
    yV i_))
  else (
   yV i_))
 else (
  none)
def up (i_ : Int) : Option (List UInt8) :=
 (wH i_ 10).bind fun r_ =>
 some r_
def vI (i_ : Int) : Option (List UInt8) :=
 (up i_).bind fun r_ =>
 some r_
def jN (s_ : List UInt8) : Option (List UInt8) :=
 some s_
def Yi (c_ : y7) : Option (List UInt8) :=
 (vI c_.States.e0).bind fun r_ =>
 gd (([115, 116, 97, 116, 101, 115, 32] : List UInt8).length + r_.length ≤ 4611686018427387904) <|
 gd ((([115, 116, 97, 116, 101, 115, 32] : List UInt8) ++ r_).length + ([47] : List UInt8).length ≤ 4611686018427387904) <|
 (vI c_.States.e1).bind fun ah =>
 gd (((([115, 116, 97, 116, 101, 115, 32] : List UInt8) ++ r_) ++ ([47] : List UInt8)).length + ah.length ≤ 4611686018427387904) <|
 gd (([] : List UInt8).length + (((([115, 116, 97, 116, 101, 115, 32] : List UInt8) ++ r_) ++ ([47] : List UInt8)) ++ ah).length ≤ 4611686018427387904) <|
 (vI c_.Edges.e0).bind fun am =>
 gd (([44, 32, 101, 100, 103, 101, 115, 32] : List UInt8).length + am.length ≤ 4611686018427387904) <|
 gd ((([44, 32, 101, 100, 103, 101, 115, 32] : List UInt8) ++ am).length + ([47] : List UInt8).length ≤ 4611686018427387904) <|
 (vI c_.Edges.e1).bind fun au =>
 gd (((([44, 32, 101, 100, 103, 101, 115, 32] : List UInt8) ++ am) ++ ([47] : List UInt8)).length + au.length ≤ 4611686018427387904) <|
 gd ((([] : List UInt8) ++ (((([115, 116, 97, 116, 101, 115, 32] : List UInt8) ++ r_) ++ ([47] : List UInt8)) ++ ah)).length + (((([44, 32, 101, 100, 103, 101, 115, 32] : List UInt8) ++ am) ++ ([47] : List UInt8)) ++ au).length ≤ 4611686018427387904) <|
 (vI c_.Pairs.e0).bind fun aw =>
 gd (([44, 32, 112, 97, 105, 114, 115, 32] : List UInt8).length + aw.length ≤ 4611686018427387904) <|
 gd ((([44, 32, 112, 97, 105, 114, 115, 32] : List UInt8) ++ aw).length + ([47] : List UInt8).length ≤ 4611686018427387904) <|
 (vI c_.Pairs.e1).bind fun bm =>
 gd (((([44, 32, 112, 97, 105, 114, 115, 32] : List UInt8) ++ aw) ++ ([47] : List UInt8)).length + bm.length ≤ 4611686018427387904) <|
 gd (((([] : List UInt8) ++ (((([115, 116, 97, 116, 101, 115, 32] : List UInt8) ++ r_) ++ ([47] : List UInt8)) ++ ah)) ++ (((([44, 32, 101, 100, 103, 101, 115, 32] : List UInt8) ++ am) ++ ([47] : List UInt8)) ++ au)).length + (((([44, 32, 112, 97, 105, 114, 115, 32] : List UInt8) ++ aw) ++ ([47] : List UInt8)) ++ bm).length ≤ 4611686018427387904) <|
 jN (((([] : List UInt8) ++ (((([115, 116, 97, 116, 101, 115, 32] : List UInt8) ++ r_) ++ ([47] : List UInt8)) ++ ah)) ++ (((([44, 32, 101, 100, 103, 101, 115, 32] : List UInt8) ++ am) ++ ([47] : List UInt8)) ++ au)) ++ (((([44, 32, 112, 97, 105, 114, 115, 32] : List UInt8) ++ aw) ++ ([47] : List UInt8)) ++ bm))
def ZH : Option Bool :=
 (XX).bind fun r_ =>
 (uq r_ []).bind fun ah =>
 (uq r_ ([[1], [0, 0, 1]])).bind fun am =>
 (ZM r_ ([[1], [0, 0, 1]])).bind fun au =>
 (wS r_ [] 1).bind fun aw =>
 (kC r_ ([[0], [1], [0, 0], [0, 1, 1]]) 1).bind fun bm =>
 bif ah.2 == 0 then (
  bif am.2 == 0 then (
   bif au.2 == 0 then (
    bif aw.2 == 0 then (
     bif bm.2 == 0 then (
      bif (ah.1.States.e0 == 1) && ((ah.1.States.e1 == 2) && ((ah.1.Edges.e0 == 0) && ((ah.1.Edges.e1 == 4) && ((ah.1.Pairs.e0 == 0) && ((ah.1.Pairs.e1 == 8) && true))))) then (
       (Yi ah.1).bind fun ce =>
       bif ce == ([115, 116, 97, 116, 101, 115, 32, 49, 47, 50, 44, 32, 101, 100, 103, 101, 115, 32, 48, 47, 52, 44, 32, 112, 97, 105, 114, 115, 32, 48, 47, 56] : List UInt8) then (
        bif (am.1.States.e0 == 2) && ((am.1.States.e1 == 2) && ((am.1.Edges.e0 == 3) && ((am.1.Edges.e1 == 4) && ((am.1.Pairs.e0 == 2) && ((am.1.Pairs.e1 == 8) && true))))) then (
         bif ((au.1.length : Nat) : Int) == 1 then (
          (idx au.1 0).bind fun u_ =>
          bif (u_.e0 == 1) && ((u_.e1 == 1) && true) then (
           (jF aw.1 ([[0], [1], [0, 0], [0, 1]])).bind fun dm =>
           bif dm then (
            (jF bm.1 ([[1], [0, 0], [0, 1, 1]])).bind fun dx =>
            some dx)
           else (
            some false))
          else (
           some false))
         else (
          some false))
        else (
         some false))
       else (
        some false))
      else (
       some false))
     else (
      some false))
    else (
     some false))
   else (
    some false))
  else (
   some false))
 else (
  some false)
def v6 (x_ : wc) (goal : Int) : Option Bool :=
 (Zp (wc.mk x_.M x_.L)).bind fun r_ =>
 gd ((3 : Int) ≠ 0) <|
 (wS r_.1 r_.2 (Int.tmod (w64 (goal)) 3)).bind fun ah =>
 bif ah.2 != 0 then (
  some false)
 else (
  (k9 r_.1 r_.2 (Int.tmod (w64 (goal)) 3)).bind fun am =>
  (jF ah.1 am).bind fun au =>
  bif !au then (
   some false)
  else (
   bif ((ah.1.length : Nat) : Int) != ((ah.1.length : Nat) : Int) then (
    some false)
   else (
    (qU r_.1 ah.1 (Int.tmod (w64 (goal)) 3)).bind fun aw =>
    bif decide (((aw.length : Nat) : Int) > 0) then (
     some false)
    else (
     (uq r_.1 ah.1).bind fun bm =>
     bif bm.2 == 0 then (
      (idx ([bm.1.States, bm.1.Edges, bm.1.Pairs]) (Int.tmod (w64 (goal)) 3)).bind fun ii =>
      (idx ([bm.1.States, bm.1.Edges, bm.1.Pairs]) (Int.tmod (w64 (goal)) 3)).bind fun ir =>
      bif ii.e0 == ir.e1 then (
       bif (Int.tmod (w64 (goal)) 3) != 1 then (
        (ZH).bind fun ce =>
        some ce)
       else (
        bif bm.1.States.e0 == bm.1.States.e1 then (
         (ZH).bind fun dm =>
         some dm)
        else (
         some false)))
      else (
       some false))
     else (
      some false)))))
abbrev F0_ := Vz (eI .i64)
abbrev F1_ := eSl 1 false (eI .u8)
abbrev F2_ := eSl 1 true (eI .i64)
abbrev F3_ := eOs 1 true (eI .i64)
abbrev F4_ := eSl 1 true (eI .u64)
abbrev F5_ := eSl 1 false (eI .u16)
abbrev F6_ := eOs 1 false (eI .i64)
abbrev F7_ := eSl 1 false (eI .i64)
abbrev F8_ := eSl 1 false (eI .u64)
abbrev F9_ := wM (eI .i64) (eI .i64)
abbrev z4l := eSl 1 true F2_
abbrev zbH := eSl 1 true F7_
abbrev z4U := eOs 1 false F7_
abbrev Y4 := eSl 1 false F7_
abbrev zir := eSl 1 false F8_
abbrev vL := vK (eI .i64) (eI .i64) (eI .i64)
abbrev zhy := eSl 2 true F9_
abbrev ue := eSl 2 false F9_
abbrev z1e := eOs 2 false F9_
abbrev qO := ZK (eI .i64) (eI .i64) (eI .i64)
abbrev zH := zX (eI .i64) (eI .i64) (eI .i64)
abbrev ziq := eSl 1 true zhy
abbrev zio := eSl 1 false ue
abbrev KG := uV (eI .u8) (eI .u8) (eI .u8) eB F5_
abbrev zeM := xh F0_ F0_ F0_
abbrev z9B := yY zir F8_
abbrev zey := eSp z9B
abbrev zbG := vS (eI .i64) (eI .i64) ziq
abbrev yh := vS (eI .i64) (eI .i64) zio
abbrev z8W := eSp yh
def rpN {α : Type _} (n : Nat) (a : α) (l : List α) : List α := Nat.rec l (fun _ r => a :: r) n
abbrev aLn (n : Nat) : H := .a (.atom (.int .i64 ((n : Nat) : Int)))
end Go.Own

namespace Go.Proofs
open Go.Shelf
def Tryz.so66_ren : Go.Shelf.Ren := ⟨fun | 6 => 66 | 15 => 80 | 14 => 79 | 28 => 99 | 29 => 100 | 20 => 91 | 21 => 92 | 22 => 93 | 23 => 94 | 24 => 95 | 25 => 96 | 26 => 97 | 27 => 98 | 46 => 106 | 47 => 107 | 48 => 108 | 49 => 109 | 50 => 110 | 57 => 113 | n => n, fun | 22 => 31 | 24 => 51 | 25 => 85 | 3 => 3 | 39 => 144 | 0 => 0 | 53 => 165 | 55 => 117 | 4 => 4 | 46 => 158 | 45 => 157 | 50 => 162 | 5 => 5 | 9 => 9 | 66 => 169 | 70 => 173 | 76 => 175 | 77 => 176 | n => n, fun | n => n⟩
theorem Tryz.so66 : Go.Proofs.SlLaysF0.n6 Tryz.prog Tryz.so66_ren := {
 mixed := by kernel_rfl
 f6 := ⟨Tryz.f66.name, by decide, Tryz.func66.trans (congrArg some (by kernel_rfl))⟩
 f14 := ⟨Tryz.f79.name, by decide, Tryz.func79.trans (congrArg some (by kernel_rfl))⟩
 f15 := Tryz.func80.trans (congrArg some (by kernel_rfl))
 f20 := ⟨Tryz.f91.name, by decide, Tryz.func91.trans (congrArg some (by kernel_rfl))⟩
 f21 := ⟨Tryz.f92.name, by decide, Tryz.func92.trans (congrArg some (by kernel_rfl))⟩
 f22 := ⟨Tryz.f93.name, by decide, Tryz.func93.trans (congrArg some (by kernel_rfl))⟩
 f23 := ⟨Tryz.f94.name, by decide, Tryz.func94.trans (congrArg some (by kernel_rfl))⟩
 f24 := ⟨Tryz.f95.name, by decide, Tryz.func95.trans (congrArg some (by kernel_rfl))⟩
 f25 := ⟨Tryz.f96.name, by decide, Tryz.func96.trans (congrArg some (by kernel_rfl))⟩
 f26 := ⟨Tryz.f97.name, by decide, Tryz.func97.trans (congrArg some (by kernel_rfl))⟩
 f27 := ⟨Tryz.f98.name, by decide, Tryz.func98.trans (congrArg some (by kernel_rfl))⟩
 f28 := Tryz.func99.trans (congrArg some (by kernel_rfl))
 f29 := Tryz.func100.trans (congrArg some (by kernel_rfl))
 f46 := ⟨Tryz.f106.name, by decide, Tryz.func106.trans (congrArg some (by kernel_rfl))⟩
 f47 := Tryz.func107.trans (congrArg some (by kernel_rfl))
 f48 := Tryz.func108.trans (congrArg some (by kernel_rfl))
 f49 := ⟨Tryz.f109.name, by decide, Tryz.func109.trans (congrArg some (by kernel_rfl))⟩
 f50 := ⟨Tryz.f110.name, by decide, Tryz.func110.trans (congrArg some (by kernel_rfl))⟩
 f57 := ⟨Tryz.f113.name, by decide, Tryz.func113.trans (congrArg some (by kernel_rfl))⟩
 t0 := Tryz.underlying0
 a0 := Tryz.isAgg0
 z0 := Tryz.sizeOf0
 v0 := Tryz.zeroValue0
 t3 := Tryz.underlying3
 a3 := Tryz.isAgg3
 z3 := Tryz.sizeOf3
 v3 := Tryz.zeroValue3
 t4 := Tryz.underlying4
 a4 := Tryz.isAgg4
 z4 := Tryz.sizeOf4
 v4 := Tryz.zeroValue4
 t5 := Tryz.underlying5
 a5 := Tryz.isAgg5
 z5 := Tryz.sizeOf5
 v5 := Tryz.zeroValue5
 t9 := Tryz.underlying9
 a9 := Tryz.isAgg9
 z9 := Tryz.sizeOf9
 v9 := Tryz.zeroValue9
 t22 := Tryz.underlying31
 a22 := Tryz.isAgg31
 z22 := Tryz.sizeOf31
 v22 := Tryz.zeroValue31
 t25 := Tryz.underlying85
 a25 := Tryz.isAgg85
 z25 := Tryz.sizeOf85
 v25 := Tryz.zeroValue85
 t39 := Tryz.underlying144
 a39 := Tryz.isAgg144
 z39 := Tryz.sizeOf144
 v39 := Tryz.zeroValue144
 t45 := Tryz.underlying157
 a45 := Tryz.isAgg157
 z45 := Tryz.sizeOf157
 v45 := Tryz.zeroValue157
 t46 := Tryz.underlying158
 a46 := Tryz.isAgg158
 z46 := Tryz.sizeOf158
 v46 := Tryz.zeroValue158
 t50 := Tryz.underlying162
 a50 := Tryz.isAgg162
 z50 := Tryz.sizeOf162
 v50 := Tryz.zeroValue162
 t53 := Tryz.underlying165
 a53 := Tryz.isAgg165
 z53 := Tryz.sizeOf165
 v53 := Tryz.zeroValue165
 t55 := Tryz.underlying117
 a55 := Tryz.isAgg117
 z55 := Tryz.sizeOf117
 v55 := Tryz.zeroValue117
 t66 := Tryz.underlying169
 a66 := Tryz.isAgg169
 z66 := Tryz.sizeOf169
 v66 := Tryz.zeroValue169
 t70 := Tryz.underlying173
 a70 := Tryz.isAgg173
 z70 := Tryz.sizeOf173
 v70 := Tryz.zeroValue173
 t76 := Tryz.underlying175
 a76 := Tryz.isAgg175
 z76 := Tryz.sizeOf175
 v76 := Tryz.zeroValue175
 t77 := Tryz.underlying176
 a77 := Tryz.isAgg176
 z77 := Tryz.sizeOf176
 v77 := Tryz.zeroValue176 }
end Go.Proofs
