/- -/
import Derived.Test.YtkelmheleahmpaaGreatDoorPartB
import Derived.Test.YtkelmheleahmpaaGreatDoorProg
import Derived.Test.YtkelmheleahmpaaGreatDoorPartD
import Derived.Test.YtkelmheleahmpaaGreatDoorPartC
import Derived.Shelf.SlSortCmp.NoneTotal
import Derived.Ground.SlsfProg
set_option linter.unusedVariables false
set_option linter.unusedSimpArgs false
namespace Go.Ex
open Go.Proofs
theorem q3 : EqP Tryz.prog 3 [.int .i64 0] false 1 := z81 (k := .int .i64) Tryz.underlying3 ⟨_, (by kernel_rfl : Tryz.prog.info? 3 = some Tryz.t3), rfl⟩ rfl
theorem q34 : EqP Tryz.prog 34 (z5a 2 [.int .i64 0]) true 2 := JS Tryz.underlying34 q3 ⟨_, (by kernel_rfl : Tryz.prog.info? 34 = some Tryz.t34), rfl⟩
def i34 : EI := ⟨.array 2 3, 2, 16, some [.int .i64 0, .int .i64 0], true⟩
theorem z92 : z4x Tryz.prog 34 i34 := ⟨⟨Tryz.t34, by kernel_rfl, rfl, rfl, fun z h => by cases h; exact ⟨_, rfl, rfl, Xr rfl, rfl, ⟨_, rfl⟩⟩⟩, Tryz.underlying34, fun _ => ko q34 rfl rfl (Nat.le_of_ble_eq_true (by kernel_rfl)) (by decide)⟩
theorem q35 : EqP Tryz.prog 35 (ZF [([.int .i64 0, .int .i64 0], true), ([.int .i64 0, .int .i64 0], true), ([.int .i64 0, .int .i64 0], true)]) true 3 := uJ Tryz.underlying35 (by kernel_rfl) ⟨_, (by kernel_rfl : Tryz.prog.info? 35 = some Tryz.t35), rfl⟩ (by decide) (zM.cons (by decide) rfl (q34.mono (by decide)) (zM.cons (by decide) rfl (q34.mono (by decide)) (zM.cons (by decide) rfl (q34.mono (by decide)) (zM.nil))))
def i35 : EI := ⟨.struct [(0, 34), (2, 34), (4, 34)], 6, 48, some [.int .i64 0, .int .i64 0, .int .i64 0, .int .i64 0, .int .i64 0, .int .i64 0], true⟩
theorem zhf : z4x Tryz.prog 35 i35 := ⟨⟨Tryz.t35, by kernel_rfl, rfl, rfl, fun z h => by cases h; exact ⟨_, rfl, rfl, Xr rfl, rfl, ⟨_, rfl⟩⟩⟩, ⟨_, Tryz.underlying35, by kernel_rfl, by
  intro f hf
  simp only [List.mem_cons, List.not_mem_nil, or_false] at hf
  rcases hf with rfl | rfl | rfl
  ·exact ⟨Tryz.t34, by kernel_rfl⟩
  ·exact ⟨Tryz.t34, by kernel_rfl⟩
  ·exact ⟨Tryz.t34, by kernel_rfl⟩⟩, fun _ => ko q35 rfl rfl (Nat.le_of_ble_eq_true (by kernel_rfl)) (by decide)⟩
theorem q36 : EqP Tryz.prog 36 (ZF [([.int .i64 0, .int .i64 0], true), ([.int .i64 0, .int .i64 0], true), ([.int .i64 0, .int .i64 0], true)]) true 3 := uJ Tryz.underlying36 (by kernel_rfl) ⟨_, (by kernel_rfl : Tryz.prog.info? 36 = some Tryz.t36), rfl⟩ (by decide) (zM.cons (by decide) rfl (q34.mono (by decide)) (zM.cons (by decide) rfl (q34.mono (by decide)) (zM.cons (by decide) rfl (q34.mono (by decide)) (zM.nil))))
def i36 : EI := ⟨.struct [(0, 34), (2, 34), (4, 34)], 6, 48, some [.int .i64 0, .int .i64 0, .int .i64 0, .int .i64 0, .int .i64 0, .int .i64 0], true⟩
theorem zcJ : z4x Tryz.prog 36 i36 := ⟨⟨Tryz.t36, by kernel_rfl, rfl, rfl, fun z h => by cases h; exact ⟨_, rfl, rfl, Xr rfl, rfl, ⟨_, rfl⟩⟩⟩, ⟨_, Tryz.underlying36, by kernel_rfl, by
  intro f hf
  simp only [List.mem_cons, List.not_mem_nil, or_false] at hf
  rcases hf with rfl | rfl | rfl
  ·exact ⟨Tryz.t34, by kernel_rfl⟩
  ·exact ⟨Tryz.t34, by kernel_rfl⟩
  ·exact ⟨Tryz.t34, by kernel_rfl⟩⟩, fun _ => ko q36 rfl rfl (Nat.le_of_ble_eq_true (by kernel_rfl)) (by decide)⟩
theorem q59 : EqP Tryz.prog 59 (ZF [([.int .i64 0], false), ([.int .i64 0], false), ([.int .i64 0], false)]) true 2 := uJ Tryz.underlying59 (by kernel_rfl) ⟨_, (by kernel_rfl : Tryz.prog.info? 59 = some Tryz.t59), rfl⟩ (by decide) (zM.cons (by decide) rfl (q3.mono (by decide)) (zM.cons (by decide) rfl (q3.mono (by decide)) (zM.cons (by decide) rfl (q3.mono (by decide)) (zM.nil))))
def i59 : EI := ⟨.struct [(0, 3), (1, 3), (2, 3)], 3, 24, some [.int .i64 0, .int .i64 0, .int .i64 0], true⟩
theorem zhe : z4x Tryz.prog 59 i59 := ⟨⟨Tryz.t59, by kernel_rfl, rfl, rfl, fun z h => by cases h; exact ⟨_, rfl, rfl, Xr rfl, rfl, ⟨_, rfl⟩⟩⟩, ⟨_, Tryz.underlying59, by kernel_rfl, by
  intro f hf
  simp only [List.mem_cons, List.not_mem_nil, or_false] at hf
  rcases hf with rfl | rfl | rfl
  ·exact ⟨Tryz.t3, by kernel_rfl⟩
  ·exact ⟨Tryz.t3, by kernel_rfl⟩
  ·exact ⟨Tryz.t3, by kernel_rfl⟩⟩, fun _ => ko q59 rfl rfl (Nat.le_of_ble_eq_true (by kernel_rfl)) (by decide)⟩
theorem q60 : EqP Tryz.prog 60 (ZF [([.int .i64 0], false), ([.int .i64 0], false), ([.int .i64 0], false)]) true 2 := uJ Tryz.underlying60 (by kernel_rfl) ⟨_, (by kernel_rfl : Tryz.prog.info? 60 = some Tryz.t60), rfl⟩ (by decide) (zM.cons (by decide) rfl (q3.mono (by decide)) (zM.cons (by decide) rfl (q3.mono (by decide)) (zM.cons (by decide) rfl (q3.mono (by decide)) (zM.nil))))
def i60 : EI := ⟨.struct [(0, 3), (1, 3), (2, 3)], 3, 24, some [.int .i64 0, .int .i64 0, .int .i64 0], true⟩
theorem zcI : z4x Tryz.prog 60 i60 := ⟨⟨Tryz.t60, by kernel_rfl, rfl, rfl, fun z h => by cases h; exact ⟨_, rfl, rfl, Xr rfl, rfl, ⟨_, rfl⟩⟩⟩, ⟨_, Tryz.underlying60, by kernel_rfl, by
  intro f hf
  simp only [List.mem_cons, List.not_mem_nil, or_false] at hf
  rcases hf with rfl | rfl | rfl
  ·exact ⟨Tryz.t3, by kernel_rfl⟩
  ·exact ⟨Tryz.t3, by kernel_rfl⟩
  ·exact ⟨Tryz.t3, by kernel_rfl⟩⟩, fun _ => ko q60 rfl rfl (Nat.le_of_ble_eq_true (by kernel_rfl)) (by decide)⟩
theorem q61 : EqP Tryz.prog 61 (ZF [([.int .i64 0], false), ([.int .i64 0], false), ([.int .i64 0], false)]) true 2 := uJ Tryz.underlying61 (by kernel_rfl) ⟨_, (by kernel_rfl : Tryz.prog.info? 61 = some Tryz.t61), rfl⟩ (by decide) (zM.cons (by decide) rfl (q3.mono (by decide)) (zM.cons (by decide) rfl (q3.mono (by decide)) (zM.cons (by decide) rfl (q3.mono (by decide)) (zM.nil))))
def i61 : EI := ⟨.struct [(0, 3), (1, 3), (2, 3)], 3, 24, some [.int .i64 0, .int .i64 0, .int .i64 0], true⟩
theorem z91 : z4x Tryz.prog 61 i61 := ⟨⟨Tryz.t61, by kernel_rfl, rfl, rfl, fun z h => by cases h; exact ⟨_, rfl, rfl, Xr rfl, rfl, ⟨_, rfl⟩⟩⟩, ⟨_, Tryz.underlying61, by kernel_rfl, by
  intro f hf
  simp only [List.mem_cons, List.not_mem_nil, or_false] at hf
  rcases hf with rfl | rfl | rfl
  ·exact ⟨Tryz.t3, by kernel_rfl⟩
  ·exact ⟨Tryz.t3, by kernel_rfl⟩
  ·exact ⟨Tryz.t3, by kernel_rfl⟩⟩, fun _ => ko q61 rfl rfl (Nat.le_of_ble_eq_true (by kernel_rfl)) (by decide)⟩
def i64 : EI := ⟨.slice 5, 1, 24, some [.slice none 0 0], false⟩
theorem q73 : EqP Tryz.prog 73 (z5a 3 [.int .i64 0, .int .i64 0]) true 3 := JS Tryz.underlying73 q34 ⟨_, (by kernel_rfl : Tryz.prog.info? 73 = some Tryz.t73), rfl⟩
def i73 : EI := ⟨.array 3 34, 6, 48, some [.int .i64 0, .int .i64 0, .int .i64 0, .int .i64 0, .int .i64 0, .int .i64 0], true⟩
theorem zcH : z4x Tryz.prog 73 i73 := ⟨⟨Tryz.t73, by kernel_rfl, rfl, rfl, fun z h => by cases h; exact ⟨_, rfl, rfl, Xr rfl, rfl, ⟨_, rfl⟩⟩⟩, Tryz.underlying73, fun _ => ko q73 rfl rfl (Nat.le_of_ble_eq_true (by kernel_rfl)) (by decide)⟩
theorem zhZ : EqP Tryz.prog 104 (ZF [([.int .i64 0], false), ([.int .i64 0], false)]) true 2 := uJ Tryz.underlying104 (by kernel_rfl) ⟨_, (by kernel_rfl : Tryz.prog.info? 104 = some Tryz.t104), rfl⟩ (by decide) (zM.cons (by decide) rfl (q3.mono (by decide)) (zM.cons (by decide) rfl (q3.mono (by decide)) (zM.nil)))
def zi7 : EI := ⟨.struct [(0, 3), (1, 3)], 2, 16, some [.int .i64 0, .int .i64 0], true⟩
theorem zff : z4x Tryz.prog 104 zi7 := ⟨⟨Tryz.t104, by kernel_rfl, rfl, rfl, fun z h => by cases h; exact ⟨_, rfl, rfl, Xr rfl, rfl, ⟨_, rfl⟩⟩⟩, ⟨_, Tryz.underlying104, by kernel_rfl, by
  intro f hf
  simp only [List.mem_cons, List.not_mem_nil, or_false] at hf
  rcases hf with rfl | rfl
  ·exact ⟨Tryz.t3, by kernel_rfl⟩
  ·exact ⟨Tryz.t3, by kernel_rfl⟩⟩, fun _ => ko zhZ rfl rfl (Nat.le_of_ble_eq_true (by kernel_rfl)) (by decide)⟩
theorem zhY : EqP Tryz.prog 105 (ZF [([.int .i64 0], false), ([.int .i64 0], false)]) true 2 := uJ Tryz.underlying105 (by kernel_rfl) ⟨_, (by kernel_rfl : Tryz.prog.info? 105 = some Tryz.t105), rfl⟩ (by decide) (zM.cons (by decide) rfl (q3.mono (by decide)) (zM.cons (by decide) rfl (q3.mono (by decide)) (zM.nil)))
def zi6 : EI := ⟨.struct [(0, 3), (1, 3)], 2, 16, some [.int .i64 0, .int .i64 0], true⟩
theorem zaL : z4x Tryz.prog 105 zi6 := ⟨⟨Tryz.t105, by kernel_rfl, rfl, rfl, fun z h => by cases h; exact ⟨_, rfl, rfl, Xr rfl, rfl, ⟨_, rfl⟩⟩⟩, ⟨_, Tryz.underlying105, by kernel_rfl, by
  intro f hf
  simp only [List.mem_cons, List.not_mem_nil, or_false] at hf
  rcases hf with rfl | rfl
  ·exact ⟨Tryz.t3, by kernel_rfl⟩
  ·exact ⟨Tryz.t3, by kernel_rfl⟩⟩, fun _ => ko zhY rfl rfl (Nat.le_of_ble_eq_true (by kernel_rfl)) (by decide)⟩
theorem zhX : EqP Tryz.prog 109 (z5a 3 [.int .i64 0]) true 2 := JS Tryz.underlying109 q3 ⟨_, (by kernel_rfl : Tryz.prog.info? 109 = some Tryz.t109), rfl⟩
def zi5 : EI := ⟨.array 3 3, 3, 24, some [.int .i64 0, .int .i64 0, .int .i64 0], true⟩
theorem zaK : z4x Tryz.prog 109 zi5 := ⟨⟨Tryz.t109, by kernel_rfl, rfl, rfl, fun z h => by cases h; exact ⟨_, rfl, rfl, Xr rfl, rfl, ⟨_, rfl⟩⟩⟩, Tryz.underlying109, fun _ => ko zhX rfl rfl (Nat.le_of_ble_eq_true (by kernel_rfl)) (by decide)⟩
theorem zhW : EqP Tryz.prog 137 (ZF [([.int .i64 0], false), ([.int .i64 0], false), ([.int .i64 0], false)]) true 2 := uJ Tryz.underlying137 (by kernel_rfl) ⟨_, (by kernel_rfl : Tryz.prog.info? 137 = some Tryz.t137), rfl⟩ (by decide) (zM.cons (by decide) rfl (q3.mono (by decide)) (zM.cons (by decide) rfl (q3.mono (by decide)) (zM.cons (by decide) rfl (q3.mono (by decide)) (zM.nil))))
def zi4 : EI := ⟨.struct [(0, 3), (1, 3), (2, 3)], 3, 24, some [.int .i64 0, .int .i64 0, .int .i64 0], true⟩
theorem zfe : z4x Tryz.prog 137 zi4 := ⟨⟨Tryz.t137, by kernel_rfl, rfl, rfl, fun z h => by cases h; exact ⟨_, rfl, rfl, Xr rfl, rfl, ⟨_, rfl⟩⟩⟩, ⟨_, Tryz.underlying137, by kernel_rfl, by
  intro f hf
  simp only [List.mem_cons, List.not_mem_nil, or_false] at hf
  rcases hf with rfl | rfl | rfl
  ·exact ⟨Tryz.t3, by kernel_rfl⟩
  ·exact ⟨Tryz.t3, by kernel_rfl⟩
  ·exact ⟨Tryz.t3, by kernel_rfl⟩⟩, fun _ => ko zhW rfl rfl (Nat.le_of_ble_eq_true (by kernel_rfl)) (by decide)⟩
theorem zhV : EqP Tryz.prog 138 (ZF [([.int .i64 0], false), ([.int .i64 0], false), ([.int .i64 0], false)]) true 2 := uJ Tryz.underlying138 (by kernel_rfl) ⟨_, (by kernel_rfl : Tryz.prog.info? 138 = some Tryz.t138), rfl⟩ (by decide) (zM.cons (by decide) rfl (q3.mono (by decide)) (zM.cons (by decide) rfl (q3.mono (by decide)) (zM.cons (by decide) rfl (q3.mono (by decide)) (zM.nil))))
def zi3 : EI := ⟨.struct [(0, 3), (1, 3), (2, 3)], 3, 24, some [.int .i64 0, .int .i64 0, .int .i64 0], true⟩
theorem zaJ : z4x Tryz.prog 138 zi3 := ⟨⟨Tryz.t138, by kernel_rfl, rfl, rfl, fun z h => by cases h; exact ⟨_, rfl, rfl, Xr rfl, rfl, ⟨_, rfl⟩⟩⟩, ⟨_, Tryz.underlying138, by kernel_rfl, by
  intro f hf
  simp only [List.mem_cons, List.not_mem_nil, or_false] at hf
  rcases hf with rfl | rfl | rfl
  ·exact ⟨Tryz.t3, by kernel_rfl⟩
  ·exact ⟨Tryz.t3, by kernel_rfl⟩
  ·exact ⟨Tryz.t3, by kernel_rfl⟩⟩, fun _ => ko zhV rfl rfl (Nat.le_of_ble_eq_true (by kernel_rfl)) (by decide)⟩
end Go.Ex

namespace Go.Own
open Go.Proofs
def zfd : Value → Bool
 | .int _ _ => true
 | _ => false
theorem z1Z : ∀ {z vs us : List Value} {r : Bool}, z.all zfd = true → z.length = vs.length → yN vs us = some r → Go.Ex.z13 z vs = true ∧ Go.Ex.yN vs us = some r
 | [], [], us, r, _, _, h => by
  cases us with
  | nil => simp only [yN, Option.some.injEq] at h; subst h; exact ⟨rfl, rfl⟩
  | cons u us => simp [yN] at h
 | a :: z, v :: vs, us, r, hz, hl, h => by
  have q : ∃ k x u' k' y, v = .int k x ∧ us = .int k' y :: u' ∧ k = k' := by
   cases us with
   | nil => cases v <;> simp [yN] at h
   | cons u us =>
    cases v <;> cases u <;> simp [yN] at h
    exact ⟨_, _, _, _, _, rfl, rfl, h.1⟩
  obtain ⟨k, x, u', k', y, rfl, rfl, hk⟩ := q
  simp only [yN, hk, if_true, Option.map_eq_some_iff] at h
  obtain ⟨r', e1, rfl⟩ := h
  simp only [List.all_cons, Bool.and_eq_true] at hz
  obtain ⟨q1, q2⟩ := z1Z hz.2 (by simpa using hl) e1
  refine ⟨?_, by simp [Go.Ex.yN, hk, q2]⟩
  cases a <;> first | (simp [zfd] at hz; done) | simpa [Go.Ex.z13] using q1
 | [], _ :: _, _, _, _, hl, _ => by simp at hl
 | _ :: _, [], _, _, _, hl, _ => by simp at hl
variable {P : Program}
theorem W9 {t n : Nat} {i : Go.Ex.EI} (h : Go.Ex.z9g P t i) {z : List Value} (hz : i.zero = some z) (hi : z.all zfd = true) (hs : i.size = n) (hn : z.length = n) : z9g P t n := {
 guard := h.guard
 run := fun vs us r w hv hu he => by
  obtain ⟨q1, q2⟩ := z1Z hi (by rw [hn, hv]) he
  exact h.run vs us r w (by rw [hs]; exact hv) (by rw [hs]; exact hu) (by simpa only [Go.Ex.zfj, hz] using q1) q2 }
variable {h : Array Obj}{S : zn}
theorem zl {v : Value} (hv : v.oneCell' = true) : zJ S h (.atom v) [v] [] := by simp only [zJ, Rep]; exact ⟨⟨trivial, hv⟩, trivial⟩
theorem xv (sz : Nat) : zJ S h (.osl sz true []) [.slice none 0 0] [] := by
 simp only [zJ]
 exact ⟨none, 0, rfl, (fun _ => rfl), Nat.le_refl _, Nat.zero_le _, by simp, .inl ⟨trivial, rfl, rfl, trivial⟩⟩
variable {a : A}
theorem z67 {c : List Value} (q : zJ S h a c []) : ∀ n, zO S h (List.replicate n a) (List.replicate n c).flatten []
 | 0 => by simp [zO]
 | n + 1 => by
  rw [List.replicate_succ, List.replicate_succ, List.flatten_cons]
  simp only [zO]
  exact ⟨c, _, [], [], rfl, rfl, q, z67 q n⟩
theorem zia {c c' : List Value} (q : zJ S h a c []) (e : c' = c) : zJ S h a c' [] := e ▸ q
variable {fs : List A}
theorem x4 {cs : List Value} (q : zO S h fs cs []) : zJ S h (.agg fs) cs [] := by simpa only [zJ] using q
theorem yn : zO S h [] [] [] := by simp [zO]
theorem zo {c1 c2 : List Value} (q1 : zJ S h a c1 []) (q2 : zO S h fs c2 []) : zO S h (a :: fs) (c1 ++ c2) [] := by simp only [zO]; exact ⟨c1, c2, [], [], rfl, rfl, q1, q2⟩
def ti1 : TI := ⟨.other, 1, 8, some (.atom .nilFunc), false⟩
theorem zby : qN Tryz.prog 1 ti1 := ⟨⟨Tryz.t1, by kernel_rfl, rfl, rfl, fun z h => by cases h; exact ⟨_, rfl, rfl, fun S h => zl rfl⟩⟩, ⟨_, Tryz.underlying1, rfl⟩, by intro h; cases h⟩
def ti2 : TI := ⟨.int .i64, 1, 8, some (.atom (.int .i64 0)), false⟩
theorem zbx : qN Tryz.prog 2 ti2 := ⟨⟨Tryz.t2, by kernel_rfl, rfl, rfl, fun z h => by cases h; exact ⟨_, rfl, rfl, fun S h => zl rfl⟩⟩, Tryz.underlying2, by intro h; cases h⟩
def ti3 : TI := ⟨.int .i64, 1, 8, some (.atom (.int .i64 0)), false⟩
theorem zbw : qN Tryz.prog 3 ti3 := ⟨⟨Tryz.t3, by kernel_rfl, rfl, rfl, fun z h => by cases h; exact ⟨_, rfl, rfl, fun S h => zl rfl⟩⟩, Tryz.underlying3, by intro h; cases h⟩
def ti4 : TI := ⟨.bool, 1, 1, some (.atom (.bool false)), false⟩
theorem zbv : qN Tryz.prog 4 ti4 := ⟨⟨Tryz.t4, by kernel_rfl, rfl, rfl, fun z h => by cases h; exact ⟨_, rfl, rfl, fun S h => zl rfl⟩⟩, Tryz.underlying4, by intro h; cases h⟩
def ti5 : TI := ⟨.int .u8, 1, 1, some (.atom (.int .u8 0)), false⟩
theorem zbu : qN Tryz.prog 5 ti5 := ⟨⟨Tryz.t5, by kernel_rfl, rfl, rfl, fun z h => by cases h; exact ⟨_, rfl, rfl, fun S h => zl rfl⟩⟩, Tryz.underlying5, by intro h; cases h⟩
def ti9 : TI := ⟨.str, 1, 16, some (.atom (.string ⟨#[]⟩)), false⟩
theorem zbt : qN Tryz.prog 9 ti9 := ⟨⟨Tryz.t9, by kernel_rfl, rfl, rfl, fun z h => by cases h; exact ⟨_, rfl, rfl, fun S h => zl rfl⟩⟩, Tryz.underlying9, by intro h; cases h⟩
def zgR : TI := ⟨.slice 103, 1, 24, some (.osl 1 true []), false⟩
theorem z9T : qN Tryz.prog 22 zgR := ⟨⟨Tryz.t22, by kernel_rfl, rfl, rfl, fun z h => by cases h; exact ⟨_, rfl, rfl, fun S h => xv _⟩⟩, Tryz.underlying22, by intro h; cases h⟩
def zgQ : TI := ⟨.struct [(0, 1), (1, 1), (2, 1), (3, 1), (4, 1)], 5, 32, some (.agg [.atom (.int .u8 0), .atom (.int .u8 0), .atom (.int .u8 0), .atom (.bool false), .osl 1 true []]), false⟩
theorem z9S : qN Tryz.prog 24 zgQ := ⟨⟨Tryz.t24, by kernel_rfl, rfl, rfl, fun z h => by cases h; exact ⟨_, rfl, rfl, fun S h => x4 (zo (zl rfl) (zo (zl rfl) (zo (zl rfl) (zo (zl rfl) (zo (xv _) (yn))))))⟩⟩, ⟨_, Tryz.underlying24, by kernel_rfl, by
  intro f hf
  simp only [List.mem_cons, List.not_mem_nil, or_false] at hf
  rcases hf with rfl | rfl | rfl | rfl | rfl
  ·exact ⟨Tryz.t5, by kernel_rfl⟩
  ·exact ⟨Tryz.t5, by kernel_rfl⟩
  ·exact ⟨Tryz.t5, by kernel_rfl⟩
  ·exact ⟨Tryz.t4, by kernel_rfl⟩
  ·exact ⟨Tryz.t22, by kernel_rfl⟩⟩, by intro h; cases h⟩
def zgP : TI := ⟨.slice 64, 1, 24, some (.osl 1 true []), false⟩
theorem z9R : qN Tryz.prog 25 zgP := ⟨⟨Tryz.t25, by kernel_rfl, rfl, rfl, fun z h => by cases h; exact ⟨_, rfl, rfl, fun S h => xv _⟩⟩, Tryz.underlying25, by intro h; cases h⟩
def zgO : TI := ⟨.struct [(0, 5), (5, 1)], 6, 56, some (.agg [.agg [.atom (.int .u8 0), .atom (.int .u8 0), .atom (.int .u8 0), .atom (.bool false), .osl 1 true []], .osl 1 true []]), false⟩
theorem z9Q : qN Tryz.prog 27 zgO := ⟨⟨Tryz.t27, by kernel_rfl, rfl, rfl, fun z h => by cases h; exact ⟨_, rfl, rfl, fun S h => x4 (zo (x4 (zo (zl rfl) (zo (zl rfl) (zo (zl rfl) (zo (zl rfl) (zo (xv _) (yn))))))) (zo (xv _) (yn)))⟩⟩, ⟨_, Tryz.underlying27, by kernel_rfl, by
  intro f hf
  simp only [List.mem_cons, List.not_mem_nil, or_false] at hf
  rcases hf with rfl | rfl
  ·exact ⟨Tryz.t24, by kernel_rfl⟩
  ·exact ⟨Tryz.t25, by kernel_rfl⟩⟩, by intro h; cases h⟩
def zgN : TI := ⟨.slice 102, 1, 24, some (.osl 1 true []), false⟩
theorem z9P : qN Tryz.prog 28 zgN := ⟨⟨Tryz.t28, by kernel_rfl, rfl, rfl, fun z h => by cases h; exact ⟨_, rfl, rfl, fun S h => xv _⟩⟩, Tryz.underlying28, by intro h; cases h⟩
def zgM : TI := ⟨.struct [(0, 1), (1, 1), (2, 1)], 3, 40, some (.agg [.atom (.int .i64 0), .atom (.int .i64 0), .osl 1 true []]), false⟩
theorem z9O : qN Tryz.prog 30 zgM := ⟨⟨Tryz.t30, by kernel_rfl, rfl, rfl, fun z h => by cases h; exact ⟨_, rfl, rfl, fun S h => x4 (zo (zl rfl) (zo (zl rfl) (zo (xv _) (yn))))⟩⟩, ⟨_, Tryz.underlying30, by kernel_rfl, by
  intro f hf
  simp only [List.mem_cons, List.not_mem_nil, or_false] at hf
  rcases hf with rfl | rfl | rfl
  ·exact ⟨Tryz.t3, by kernel_rfl⟩
  ·exact ⟨Tryz.t3, by kernel_rfl⟩
  ·exact ⟨Tryz.t28, by kernel_rfl⟩⟩, by intro h; cases h⟩
def zgL : TI := ⟨.slice 51, 1, 24, some (.osl 1 true []), false⟩
theorem z9N : qN Tryz.prog 31 zgL := ⟨⟨Tryz.t31, by kernel_rfl, rfl, rfl, fun z h => by cases h; exact ⟨_, rfl, rfl, fun S h => xv _⟩⟩, Tryz.underlying31, by intro h; cases h⟩
def zgK : TI := ⟨.array 2 3, 2, 16, some (.agg [.atom (.int .i64 0), .atom (.int .i64 0)]), true⟩
theorem z4H : qN Tryz.prog 34 zgK := ⟨⟨Tryz.t34, by kernel_rfl, rfl, rfl, fun z h => by cases h; exact ⟨_, rfl, rfl, fun S h => x4 (zo (zl rfl) (zo (zl rfl) (yn)))⟩⟩, Tryz.underlying34, fun _ => W9 (Go.Ex.z92.eqn rfl) rfl rfl rfl rfl⟩
def zgJ : TI := ⟨.struct [(0, 2), (2, 2), (4, 2)], 6, 48, some (.agg [.agg [.atom (.int .i64 0), .atom (.int .i64 0)], .agg [.atom (.int .i64 0), .atom (.int .i64 0)], .agg [.atom (.int .i64 0), .atom (.int .i64 0)]]), true⟩
theorem z9M : qN Tryz.prog 36 zgJ := ⟨⟨Tryz.t36, by kernel_rfl, rfl, rfl, fun z h => by cases h; exact ⟨_, rfl, rfl, fun S h => x4 (zo (x4 (zo (zl rfl) (zo (zl rfl) (yn)))) (zo (x4 (zo (zl rfl) (zo (zl rfl) (yn)))) (zo (x4 (zo (zl rfl) (zo (zl rfl) (yn)))) (yn))))⟩⟩, ⟨_, Tryz.underlying36, by kernel_rfl, by
  intro f hf
  simp only [List.mem_cons, List.not_mem_nil, or_false] at hf
  rcases hf with rfl | rfl | rfl
  ·exact ⟨Tryz.t34, by kernel_rfl⟩
  ·exact ⟨Tryz.t34, by kernel_rfl⟩
  ·exact ⟨Tryz.t34, by kernel_rfl⟩⟩, fun _ => W9 (Go.Ex.zcJ.eqn rfl) rfl rfl rfl rfl⟩
def zgI : TI := ⟨.int .i64, 1, 8, some (.atom (.int .i64 0)), false⟩
theorem z9L : qN Tryz.prog 37 zgI := ⟨⟨Tryz.t37, by kernel_rfl, rfl, rfl, fun z h => by cases h; exact ⟨_, rfl, rfl, fun S h => zl rfl⟩⟩, Tryz.underlying37, by intro h; cases h⟩
def zgH : TI := ⟨.other, 1, 8, some (.atom .nilFunc), false⟩
theorem z9K : qN Tryz.prog 46 zgH := ⟨⟨Tryz.t46, by kernel_rfl, rfl, rfl, fun z h => by cases h; exact ⟨_, rfl, rfl, fun S h => zl rfl⟩⟩, ⟨_, Tryz.underlying46, rfl⟩, by intro h; cases h⟩
def zgG : TI := ⟨.slice 60, 1, 24, some (.osl 3 true []), false⟩
theorem z9J : qN Tryz.prog 47 zgG := ⟨⟨Tryz.t47, by kernel_rfl, rfl, rfl, fun z h => by cases h; exact ⟨_, rfl, rfl, fun S h => xv _⟩⟩, Tryz.underlying47, by intro h; cases h⟩
def zgF : TI := ⟨.other, 1, 8, some (.atom .nilFunc), false⟩
theorem z9I : qN Tryz.prog 48 zgF := ⟨⟨Tryz.t48, by kernel_rfl, rfl, rfl, fun z h => by cases h; exact ⟨_, rfl, rfl, fun S h => zl rfl⟩⟩, ⟨_, Tryz.underlying48, rfl⟩, by intro h; cases h⟩
def zgE : TI := ⟨.slice 34, 1, 24, some (.osl 2 true []), false⟩
theorem z9H : qN Tryz.prog 49 zgE := ⟨⟨Tryz.t49, by kernel_rfl, rfl, rfl, fun z h => by cases h; exact ⟨_, rfl, rfl, fun S h => xv _⟩⟩, Tryz.underlying49, by intro h; cases h⟩
def zgD : TI := ⟨.slice 3, 1, 24, some (.osl 1 true []), false⟩
theorem z9G : qN Tryz.prog 51 zgD := ⟨⟨Tryz.t51, by kernel_rfl, rfl, rfl, fun z h => by cases h; exact ⟨_, rfl, rfl, fun S h => xv _⟩⟩, Tryz.underlying51, by intro h; cases h⟩
def zgC : TI := ⟨.slice 61, 1, 24, some (.osl 3 true []), false⟩
theorem z9F : qN Tryz.prog 56 zgC := ⟨⟨Tryz.t56, by kernel_rfl, rfl, rfl, fun z h => by cases h; exact ⟨_, rfl, rfl, fun S h => xv _⟩⟩, Tryz.underlying56, by intro h; cases h⟩
def zgB : TI := ⟨.other, 1, 8, some (.atom .nilFunc), false⟩
theorem z9E : qN Tryz.prog 58 zgB := ⟨⟨Tryz.t58, by kernel_rfl, rfl, rfl, fun z h => by cases h; exact ⟨_, rfl, rfl, fun S h => zl rfl⟩⟩, ⟨_, Tryz.underlying58, rfl⟩, by intro h; cases h⟩
def zgA : TI := ⟨.struct [(0, 1), (1, 1), (2, 1)], 3, 24, some (.agg [.atom (.int .i64 0), .atom (.int .i64 0), .atom (.int .i64 0)]), true⟩
theorem z9D : qN Tryz.prog 60 zgA := ⟨⟨Tryz.t60, by kernel_rfl, rfl, rfl, fun z h => by cases h; exact ⟨_, rfl, rfl, fun S h => x4 (zo (zl rfl) (zo (zl rfl) (zo (zl rfl) (yn))))⟩⟩, ⟨_, Tryz.underlying60, by kernel_rfl, by
  intro f hf
  simp only [List.mem_cons, List.not_mem_nil, or_false] at hf
  rcases hf with rfl | rfl | rfl
  ·exact ⟨Tryz.t3, by kernel_rfl⟩
  ·exact ⟨Tryz.t3, by kernel_rfl⟩
  ·exact ⟨Tryz.t3, by kernel_rfl⟩⟩, fun _ => W9 (Go.Ex.zcI.eqn rfl) rfl rfl rfl rfl⟩
def zgz : TI := ⟨.struct [(0, 1), (1, 1), (2, 1)], 3, 24, some (.agg [.atom (.int .i64 0), .atom (.int .i64 0), .atom (.int .i64 0)]), true⟩
theorem z4G : qN Tryz.prog 61 zgz := ⟨⟨Tryz.t61, by kernel_rfl, rfl, rfl, fun z h => by cases h; exact ⟨_, rfl, rfl, fun S h => x4 (zo (zl rfl) (zo (zl rfl) (zo (zl rfl) (yn))))⟩⟩, ⟨_, Tryz.underlying61, by kernel_rfl, by
  intro f hf
  simp only [List.mem_cons, List.not_mem_nil, or_false] at hf
  rcases hf with rfl | rfl | rfl
  ·exact ⟨Tryz.t3, by kernel_rfl⟩
  ·exact ⟨Tryz.t3, by kernel_rfl⟩
  ·exact ⟨Tryz.t3, by kernel_rfl⟩⟩, fun _ => W9 (Go.Ex.z91.eqn rfl) rfl rfl rfl rfl⟩
def zgy : TI := ⟨.slice 5, 1, 24, some (.osl 1 true []), false⟩
theorem z9C : qN Tryz.prog 64 zgy := ⟨⟨Tryz.t64, by kernel_rfl, rfl, rfl, fun z h => by cases h; exact ⟨_, rfl, rfl, fun S h => xv _⟩⟩, Tryz.underlying64, by intro h; cases h⟩
def zgx : TI := ⟨.other, 1, 8, some (.atom (.map none)), false⟩
theorem z9B : qN Tryz.prog 67 zgx := ⟨⟨Tryz.t67, by kernel_rfl, rfl, rfl, fun z h => by cases h; exact ⟨_, rfl, rfl, fun S h => zl rfl⟩⟩, ⟨_, Tryz.underlying67, rfl⟩, by intro h; cases h⟩
def zgw : TI := ⟨.other, 1, 8, some (.atom (.map none)), false⟩
theorem z9A : qN Tryz.prog 68 zgw := ⟨⟨Tryz.t68, by kernel_rfl, rfl, rfl, fun z h => by cases h; exact ⟨_, rfl, rfl, fun S h => zl rfl⟩⟩, ⟨_, Tryz.underlying68, rfl⟩, by intro h; cases h⟩
def zgv : TI := ⟨.other, 1, 8, some (.atom (.map none)), false⟩
theorem z9z : qN Tryz.prog 69 zgv := ⟨⟨Tryz.t69, by kernel_rfl, rfl, rfl, fun z h => by cases h; exact ⟨_, rfl, rfl, fun S h => zl rfl⟩⟩, ⟨_, Tryz.underlying69, rfl⟩, by intro h; cases h⟩
def zgu : TI := ⟨.struct [(0, 1), (1, 1), (2, 1)], 3, 24, some (.agg [.atom (.map none), .atom (.map none), .atom (.map none)]), false⟩
theorem z9y : qN Tryz.prog 71 zgu := ⟨⟨Tryz.t71, by kernel_rfl, rfl, rfl, fun z h => by cases h; exact ⟨_, rfl, rfl, fun S h => x4 (zo (zl rfl) (zo (zl rfl) (zo (zl rfl) (yn))))⟩⟩, ⟨_, Tryz.underlying71, by kernel_rfl, by
  intro f hf
  simp only [List.mem_cons, List.not_mem_nil, or_false] at hf
  rcases hf with rfl | rfl | rfl
  ·exact ⟨Tryz.t67, by kernel_rfl⟩
  ·exact ⟨Tryz.t68, by kernel_rfl⟩
  ·exact ⟨Tryz.t69, by kernel_rfl⟩⟩, by intro h; cases h⟩
def zgt : TI := ⟨.array 3 34, 6, 48, some (.agg [.agg [.atom (.int .i64 0), .atom (.int .i64 0)], .agg [.atom (.int .i64 0), .atom (.int .i64 0)], .agg [.atom (.int .i64 0), .atom (.int .i64 0)]]), true⟩
theorem z9x : qN Tryz.prog 73 zgt := ⟨⟨Tryz.t73, by kernel_rfl, rfl, rfl, fun z h => by cases h; exact ⟨_, rfl, rfl, fun S h => x4 (zo (x4 (zo (zl rfl) (zo (zl rfl) (yn)))) (zo (x4 (zo (zl rfl) (zo (zl rfl) (yn)))) (zo (x4 (zo (zl rfl) (zo (zl rfl) (yn)))) (yn))))⟩⟩, Tryz.underlying73, fun _ => W9 (Go.Ex.zcH.eqn rfl) rfl rfl rfl rfl⟩
def zgs : TI := ⟨.slice 82, 1, 24, some (.osl 5 true []), false⟩
theorem z9w : qN Tryz.prog 75 zgs := ⟨⟨Tryz.t75, by kernel_rfl, rfl, rfl, fun z h => by cases h; exact ⟨_, rfl, rfl, fun S h => xv _⟩⟩, Tryz.underlying75, by intro h; cases h⟩
def zgr : TI := ⟨.other, 1, 8, some (.atom .nilFunc), false⟩
theorem z9v : qN Tryz.prog 78 zgr := ⟨⟨Tryz.t78, by kernel_rfl, rfl, rfl, fun z h => by cases h; exact ⟨_, rfl, rfl, fun S h => zl rfl⟩⟩, ⟨_, Tryz.underlying78, rfl⟩, by intro h; cases h⟩
def zgq : TI := ⟨.other, 1, 8, some (.atom .nilFunc), false⟩
theorem z9u : qN Tryz.prog 80 zgq := ⟨⟨Tryz.t80, by kernel_rfl, rfl, rfl, fun z h => by cases h; exact ⟨_, rfl, rfl, fun S h => zl rfl⟩⟩, ⟨_, Tryz.underlying80, rfl⟩, by intro h; cases h⟩
def zgp : TI := ⟨.struct [(0, 1), (1, 3), (4, 1)], 5, 56, some (.agg [.osl 1 true [], .agg [.atom (.int .i64 0), .atom (.int .i64 0), .atom (.int .i64 0)], .atom .nilFunc]), false⟩
theorem z9t : qN Tryz.prog 82 zgp := ⟨⟨Tryz.t82, by kernel_rfl, rfl, rfl, fun z h => by cases h; exact ⟨_, rfl, rfl, fun S h => x4 (zo (xv _) (zo (x4 (zo (zl rfl) (zo (zl rfl) (zo (zl rfl) (yn))))) (zo (zl rfl) (yn))))⟩⟩, ⟨_, Tryz.underlying82, by kernel_rfl, by
  intro f hf
  simp only [List.mem_cons, List.not_mem_nil, or_false] at hf
  rcases hf with rfl | rfl | rfl
  ·exact ⟨Tryz.t51, by kernel_rfl⟩
  ·exact ⟨Tryz.t61, by kernel_rfl⟩
  ·exact ⟨Tryz.t80, by kernel_rfl⟩⟩, by intro h; cases h⟩
def zgo : TI := ⟨.other, 1, 8, some (.atom .nilFunc), false⟩
theorem z9s : qN Tryz.prog 85 zgo := ⟨⟨Tryz.t85, by kernel_rfl, rfl, rfl, fun z h => by cases h; exact ⟨_, rfl, rfl, fun S h => zl rfl⟩⟩, ⟨_, Tryz.underlying85, rfl⟩, by intro h; cases h⟩
def zgn : TI := ⟨.slice 4, 1, 24, some (.osl 1 true []), false⟩
theorem z9r : qN Tryz.prog 86 zgn := ⟨⟨Tryz.t86, by kernel_rfl, rfl, rfl, fun z h => by cases h; exact ⟨_, rfl, rfl, fun S h => xv _⟩⟩, Tryz.underlying86, by intro h; cases h⟩
def zgm : TI := ⟨.ptr 95, 1, 8, some (.atom (.pointer none)), false⟩
theorem z9q : qN Tryz.prog 90 zgm := ⟨⟨Tryz.t90, by kernel_rfl, rfl, rfl, fun z h => by cases h; exact ⟨_, rfl, rfl, fun S h => zl rfl⟩⟩, Tryz.underlying90, by intro h; cases h⟩
def zgl : TI := ⟨.slice 117, 1, 24, some (.osl 1 true []), false⟩
theorem z9p : qN Tryz.prog 91 zgl := ⟨⟨Tryz.t91, by kernel_rfl, rfl, rfl, fun z h => by cases h; exact ⟨_, rfl, rfl, fun S h => xv _⟩⟩, Tryz.underlying91, by intro h; cases h⟩
def zgk : TI := ⟨.slice 91, 1, 24, some (.osl 1 true []), false⟩
theorem z9o : qN Tryz.prog 93 zgk := ⟨⟨Tryz.t93, by kernel_rfl, rfl, rfl, fun z h => by cases h; exact ⟨_, rfl, rfl, fun S h => xv _⟩⟩, Tryz.underlying93, by intro h; cases h⟩
def zgj : TI := ⟨.struct [(0, 1), (1, 1)], 2, 48, some (.agg [.osl 1 true [], .osl 1 true []]), false⟩
theorem z9n : qN Tryz.prog 95 zgj := ⟨⟨Tryz.t95, by kernel_rfl, rfl, rfl, fun z h => by cases h; exact ⟨_, rfl, rfl, fun S h => x4 (zo (xv _) (zo (xv _) (yn)))⟩⟩, ⟨_, Tryz.underlying95, by kernel_rfl, by
  intro f hf
  simp only [List.mem_cons, List.not_mem_nil, or_false] at hf
  rcases hf with rfl | rfl
  ·exact ⟨Tryz.t93, by kernel_rfl⟩
  ·exact ⟨Tryz.t91, by kernel_rfl⟩⟩, by intro h; cases h⟩
def zbN : TI := ⟨.slice 105, 1, 24, some (.osl 2 true []), false⟩
theorem z73 : qN Tryz.prog 102 zbN := ⟨⟨Tryz.t102, by kernel_rfl, rfl, rfl, fun z h => by cases h; exact ⟨_, rfl, rfl, fun S h => xv _⟩⟩, Tryz.underlying102, by intro h; cases h⟩
def zbM : TI := ⟨.int .u16, 1, 2, some (.atom (.int .u16 0)), false⟩
theorem z72 : qN Tryz.prog 103 zbM := ⟨⟨Tryz.t103, by kernel_rfl, rfl, rfl, fun z h => by cases h; exact ⟨_, rfl, rfl, fun S h => zl rfl⟩⟩, Tryz.underlying103, by intro h; cases h⟩
def zbL : TI := ⟨.struct [(0, 1), (1, 1)], 2, 16, some (.agg [.atom (.int .i64 0), .atom (.int .i64 0)]), true⟩
theorem z71 : qN Tryz.prog 105 zbL := ⟨⟨Tryz.t105, by kernel_rfl, rfl, rfl, fun z h => by cases h; exact ⟨_, rfl, rfl, fun S h => x4 (zo (zl rfl) (zo (zl rfl) (yn)))⟩⟩, ⟨_, Tryz.underlying105, by kernel_rfl, by
  intro f hf
  simp only [List.mem_cons, List.not_mem_nil, or_false] at hf
  rcases hf with rfl | rfl
  ·exact ⟨Tryz.t3, by kernel_rfl⟩
  ·exact ⟨Tryz.t3, by kernel_rfl⟩⟩, fun _ => W9 (Go.Ex.zaL.eqn rfl) rfl rfl rfl rfl⟩
def zbK : TI := ⟨.array 3 3, 3, 24, some (.agg [.atom (.int .i64 0), .atom (.int .i64 0), .atom (.int .i64 0)]), true⟩
theorem z6Z : qN Tryz.prog 109 zbK := ⟨⟨Tryz.t109, by kernel_rfl, rfl, rfl, fun z h => by cases h; exact ⟨_, rfl, rfl, fun S h => x4 (zo (zl rfl) (zo (zl rfl) (zo (zl rfl) (yn))))⟩⟩, Tryz.underlying109, fun _ => W9 (Go.Ex.zaK.eqn rfl) rfl rfl rfl rfl⟩
def zbJ : TI := ⟨.array 3 9, 3, 48, some (.agg [.atom (.string ⟨#[]⟩), .atom (.string ⟨#[]⟩), .atom (.string ⟨#[]⟩)]), false⟩
theorem z6Y : qN Tryz.prog 112 zbJ := ⟨⟨Tryz.t112, by kernel_rfl, rfl, rfl, fun z h => by cases h; exact ⟨_, rfl, rfl, fun S h => x4 (zo (zl rfl) (zo (zl rfl) (zo (zl rfl) (yn))))⟩⟩, Tryz.underlying112, by intro h; cases h⟩
def zbI : TI := ⟨.int .u64, 1, 8, some (.atom (.int .u64 0)), false⟩
theorem z6X : qN Tryz.prog 117 zbI := ⟨⟨Tryz.t117, by kernel_rfl, rfl, rfl, fun z h => by cases h; exact ⟨_, rfl, rfl, fun S h => zl rfl⟩⟩, Tryz.underlying117, by intro h; cases h⟩
def zbH : TI := ⟨.other, 1, 8, some (.atom .nilFunc), false⟩
theorem z6W : qN Tryz.prog 123 zbH := ⟨⟨Tryz.t123, by kernel_rfl, rfl, rfl, fun z h => by cases h; exact ⟨_, rfl, rfl, fun S h => zl rfl⟩⟩, ⟨_, Tryz.underlying123, rfl⟩, by intro h; cases h⟩
def zbG : TI := ⟨.other, 1, 8, some (.atom .nilFunc), false⟩
theorem z6V : qN Tryz.prog 129 zbG := ⟨⟨Tryz.t129, by kernel_rfl, rfl, rfl, fun z h => by cases h; exact ⟨_, rfl, rfl, fun S h => zl rfl⟩⟩, ⟨_, Tryz.underlying129, rfl⟩, by intro h; cases h⟩
def zbF : TI := ⟨.other, 1, 8, some (.atom .nilFunc), false⟩
theorem z6U : qN Tryz.prog 134 zbF := ⟨⟨Tryz.t134, by kernel_rfl, rfl, rfl, fun z h => by cases h; exact ⟨_, rfl, rfl, fun S h => zl rfl⟩⟩, ⟨_, Tryz.underlying134, rfl⟩, by intro h; cases h⟩
def zbE : TI := ⟨.other, 1, 8, some (.atom .nilFunc), false⟩
theorem z6T : qN Tryz.prog 135 zbE := ⟨⟨Tryz.t135, by kernel_rfl, rfl, rfl, fun z h => by cases h; exact ⟨_, rfl, rfl, fun S h => zl rfl⟩⟩, ⟨_, Tryz.underlying135, rfl⟩, by intro h; cases h⟩
def zbD : TI := ⟨.struct [(0, 1), (1, 1), (2, 1)], 3, 24, some (.agg [.atom (.int .i64 0), .atom (.int .i64 0), .atom (.int .i64 0)]), true⟩
theorem z6S : qN Tryz.prog 138 zbD := ⟨⟨Tryz.t138, by kernel_rfl, rfl, rfl, fun z h => by cases h; exact ⟨_, rfl, rfl, fun S h => x4 (zo (zl rfl) (zo (zl rfl) (zo (zl rfl) (yn))))⟩⟩, ⟨_, Tryz.underlying138, by kernel_rfl, by
  intro f hf
  simp only [List.mem_cons, List.not_mem_nil, or_false] at hf
  rcases hf with rfl | rfl | rfl
  ·exact ⟨Tryz.t3, by kernel_rfl⟩
  ·exact ⟨Tryz.t3, by kernel_rfl⟩
  ·exact ⟨Tryz.t3, by kernel_rfl⟩⟩, fun _ => W9 (Go.Ex.zaJ.eqn rfl) rfl rfl rfl rfl⟩
def zbC : TI := ⟨.other, 1, 8, some (.atom .nilFunc), false⟩
theorem z6R : qN Tryz.prog 141 zbC := ⟨⟨Tryz.t141, by kernel_rfl, rfl, rfl, fun z h => by cases h; exact ⟨_, rfl, rfl, fun S h => zl rfl⟩⟩, ⟨_, Tryz.underlying141, rfl⟩, by intro h; cases h⟩
def zbB : TI := ⟨.other, 1, 8, some (.atom .nilFunc), false⟩
theorem z6Q : qN Tryz.prog 148 zbB := ⟨⟨Tryz.t148, by kernel_rfl, rfl, rfl, fun z h => by cases h; exact ⟨_, rfl, rfl, fun S h => zl rfl⟩⟩, ⟨_, Tryz.underlying148, rfl⟩, by intro h; cases h⟩
def zbA : TI := ⟨.slice 138, 1, 24, some (.osl 3 true []), false⟩
theorem z6P : qN Tryz.prog 149 zbA := ⟨⟨Tryz.t149, by kernel_rfl, rfl, rfl, fun z h => by cases h; exact ⟨_, rfl, rfl, fun S h => xv _⟩⟩, Tryz.underlying149, by intro h; cases h⟩
def zbz : TI := ⟨.array 24 5, 24, 24, some (.agg [.atom (.int .u8 0), .atom (.int .u8 0), .atom (.int .u8 0), .atom (.int .u8 0), .atom (.int .u8 0), .atom (.int .u8 0), .atom (.int .u8 0), .atom (.int .u8 0), .atom (.int .u8 0), .atom (.int .u8 0), .atom (.int .u8 0), .atom (.int .u8 0), .atom (.int .u8 0), .atom (.int .u8 0), .atom (.int .u8 0), .atom (.int .u8 0), .atom (.int .u8 0), .atom (.int .u8 0), .atom (.int .u8 0), .atom (.int .u8 0), .atom (.int .u8 0), .atom (.int .u8 0), .atom (.int .u8 0), .atom (.int .u8 0)]), false⟩
theorem z6O : qN Tryz.prog 150 zbz := ⟨⟨Tryz.t150, by kernel_rfl, rfl, rfl, fun z h => by cases h; exact ⟨_, rfl, rfl, fun S h => x4 (zo (zl rfl) (zo (zl rfl) (zo (zl rfl) (zo (zl rfl) (zo (zl rfl) (zo (zl rfl) (zo (zl rfl) (zo (zl rfl) (zo (zl rfl) (zo (zl rfl) (zo (zl rfl) (zo (zl rfl) (zo (zl rfl) (zo (zl rfl) (zo (zl rfl) (zo (zl rfl) (zo (zl rfl) (zo (zl rfl) (zo (zl rfl) (zo (zl rfl) (zo (zl rfl) (zo (zl rfl) (zo (zl rfl) (zo (zl rfl) (yn)))))))))))))))))))))))))⟩⟩, Tryz.underlying150, by intro h; cases h⟩
def tiL : List (Nat × TI) := [(1, ti1), (2, ti2), (3, ti3), (4, ti4), (5, ti5), (9, ti9), (22, zgR), (24, zgQ), (25, zgP), (27, zgO), (28, zgN), (30, zgM), (31, zgL), (34, zgK), (36, zgJ), (37, zgI), (46, zgH), (47, zgG), (48, zgF), (49, zgE), (51, zgD), (56, zgC), (58, zgB), (60, zgA), (61, zgz), (64, zgy), (67, zgx), (68, zgw), (69, zgv), (71, zgu), (73, zgt), (75, zgs), (78, zgr), (80, zgq), (82, zgp), (85, zgo), (86, zgn), (90, zgm), (91, zgl), (93, zgk), (95, zgj), (102, zbN), (103, zbM), (105, zbL), (109, zbK), (112, zbJ), (117, zbI), (123, zbH), (129, zbG), (134, zbF), (135, zbE), (138, zbD), (141, zbC), (148, zbB), (149, zbA), (150, zbz)]
def wt : TT := fun t => (tiL.find? fun p => p.1 == t).map (·.2)
def z6D (P : Program) : List (Nat × TI) → Prop
 | [] => True
 | p :: l => qN P p.1 p.2 ∧ z6D P l
theorem z6D.mem : ∀ {l : List (Nat × TI)}, z6D P l → ∀ p ∈ l, qN P p.1 p.2
 | p :: _, h, q, hq => by
  rcases List.mem_cons.1 hq with rfl | hq
  ·exact h.1
  ·exact z6D.mem h.2 q hq
 | [], _, _, hq => by cases hq
theorem zbs : z6D Tryz.prog tiL := ⟨zby, zbx, zbw, zbv, zbu, zbt, z9T, z9S, z9R, z9Q, z9P, z9O, z9N, z4H, z9M, z9L, z9K, z9J, z9I, z9H, z9G, z9F, z9E, z9D, z4G, z9C, z9B, z9A, z9z, z9y, z9x, z9w, z9v, z9u, z9t, z9s, z9r, z9q, z9p, z9o, z9n, z73, z72, z71, z6Z, z6Y, z6X, z6W, z6V, z6U, z6T, z6S, z6R, z6Q, z6P, z6O, trivial⟩
theorem zC : xA Tryz.prog wt := by
 intro t i h
 unfold wt at h
 rw [Option.map_eq_some_iff] at h
 obtain ⟨p, h1, rfl⟩ := h
 have h2 := List.find?_some h1
 have h3 := zbs.mem p (List.mem_of_find?_eq_some h1)
 rw [beq_iff_eq.1 h2] at h3
 exact h3
theorem zig : wt 1 = some ⟨.other, 1, 8, some (.atom .nilFunc), false⟩ := rfl
theorem zif : wt 2 = some ⟨.int .i64, 1, 8, some (.atom (.int .i64 0)), false⟩ := rfl
theorem zie : wt 3 = some ⟨.int .i64, 1, 8, some (.atom (.int .i64 0)), false⟩ := rfl
theorem zid : wt 4 = some ⟨.bool, 1, 1, some (.atom (.bool false)), false⟩ := rfl
theorem zic : wt 5 = some ⟨.int .u8, 1, 1, some (.atom (.int .u8 0)), false⟩ := rfl
theorem zib : wt 9 = some ⟨.str, 1, 16, some (.atom (.string ⟨#[]⟩)), false⟩ := rfl
theorem zg1 : wt 22 = some ⟨.slice 103, 1, 24, some (.osl 1 true []), false⟩ := rfl
theorem zg0 : wt 24 = some ⟨.struct [(0, 1), (1, 1), (2, 1), (3, 1), (4, 1)], 5, 32, some (.agg [.atom (.int .u8 0), .atom (.int .u8 0), .atom (.int .u8 0), .atom (.bool false), .osl 1 true []]), false⟩ := rfl
theorem zfZ : wt 25 = some ⟨.slice 64, 1, 24, some (.osl 1 true []), false⟩ := rfl
theorem zfY : wt 27 = some ⟨.struct [(0, 5), (5, 1)], 6, 56, some (.agg [.agg [.atom (.int .u8 0), .atom (.int .u8 0), .atom (.int .u8 0), .atom (.bool false), .osl 1 true []], .osl 1 true []]), false⟩ := rfl
theorem zfX : wt 28 = some ⟨.slice 102, 1, 24, some (.osl 1 true []), false⟩ := rfl
theorem zfW : wt 30 = some ⟨.struct [(0, 1), (1, 1), (2, 1)], 3, 40, some (.agg [.atom (.int .i64 0), .atom (.int .i64 0), .osl 1 true []]), false⟩ := rfl
theorem zfV : wt 31 = some ⟨.slice 51, 1, 24, some (.osl 1 true []), false⟩ := rfl
theorem zfU : wt 34 = some ⟨.array 2 3, 2, 16, some (.agg [.atom (.int .i64 0), .atom (.int .i64 0)]), true⟩ := rfl
theorem zfT : wt 36 = some ⟨.struct [(0, 2), (2, 2), (4, 2)], 6, 48, some (.agg [.agg [.atom (.int .i64 0), .atom (.int .i64 0)], .agg [.atom (.int .i64 0), .atom (.int .i64 0)], .agg [.atom (.int .i64 0), .atom (.int .i64 0)]]), true⟩ := rfl
theorem zfS : wt 37 = some ⟨.int .i64, 1, 8, some (.atom (.int .i64 0)), false⟩ := rfl
theorem zfR : wt 46 = some ⟨.other, 1, 8, some (.atom .nilFunc), false⟩ := rfl
theorem zfQ : wt 47 = some ⟨.slice 60, 1, 24, some (.osl 3 true []), false⟩ := rfl
theorem zfP : wt 48 = some ⟨.other, 1, 8, some (.atom .nilFunc), false⟩ := rfl
theorem zfO : wt 49 = some ⟨.slice 34, 1, 24, some (.osl 2 true []), false⟩ := rfl
theorem zfN : wt 51 = some ⟨.slice 3, 1, 24, some (.osl 1 true []), false⟩ := rfl
theorem zfM : wt 56 = some ⟨.slice 61, 1, 24, some (.osl 3 true []), false⟩ := rfl
theorem zfL : wt 58 = some ⟨.other, 1, 8, some (.atom .nilFunc), false⟩ := rfl
theorem zfK : wt 60 = some ⟨.struct [(0, 1), (1, 1), (2, 1)], 3, 24, some (.agg [.atom (.int .i64 0), .atom (.int .i64 0), .atom (.int .i64 0)]), true⟩ := rfl
theorem zfJ : wt 61 = some ⟨.struct [(0, 1), (1, 1), (2, 1)], 3, 24, some (.agg [.atom (.int .i64 0), .atom (.int .i64 0), .atom (.int .i64 0)]), true⟩ := rfl
theorem zfI : wt 64 = some ⟨.slice 5, 1, 24, some (.osl 1 true []), false⟩ := rfl
theorem zfH : wt 67 = some ⟨.other, 1, 8, some (.atom (.map none)), false⟩ := rfl
theorem zfG : wt 68 = some ⟨.other, 1, 8, some (.atom (.map none)), false⟩ := rfl
theorem zfF : wt 69 = some ⟨.other, 1, 8, some (.atom (.map none)), false⟩ := rfl
theorem zfE : wt 71 = some ⟨.struct [(0, 1), (1, 1), (2, 1)], 3, 24, some (.agg [.atom (.map none), .atom (.map none), .atom (.map none)]), false⟩ := rfl
theorem zfD : wt 73 = some ⟨.array 3 34, 6, 48, some (.agg [.agg [.atom (.int .i64 0), .atom (.int .i64 0)], .agg [.atom (.int .i64 0), .atom (.int .i64 0)], .agg [.atom (.int .i64 0), .atom (.int .i64 0)]]), true⟩ := rfl
theorem zfC : wt 75 = some ⟨.slice 82, 1, 24, some (.osl 5 true []), false⟩ := rfl
theorem zfB : wt 78 = some ⟨.other, 1, 8, some (.atom .nilFunc), false⟩ := rfl
theorem zfA : wt 80 = some ⟨.other, 1, 8, some (.atom .nilFunc), false⟩ := rfl
theorem zfz : wt 82 = some ⟨.struct [(0, 1), (1, 3), (4, 1)], 5, 56, some (.agg [.osl 1 true [], .agg [.atom (.int .i64 0), .atom (.int .i64 0), .atom (.int .i64 0)], .atom .nilFunc]), false⟩ := rfl
theorem zfy : wt 85 = some ⟨.other, 1, 8, some (.atom .nilFunc), false⟩ := rfl
theorem zfx : wt 86 = some ⟨.slice 4, 1, 24, some (.osl 1 true []), false⟩ := rfl
theorem zfw : wt 90 = some ⟨.ptr 95, 1, 8, some (.atom (.pointer none)), false⟩ := rfl
theorem zfv : wt 91 = some ⟨.slice 117, 1, 24, some (.osl 1 true []), false⟩ := rfl
theorem zfu : wt 93 = some ⟨.slice 91, 1, 24, some (.osl 1 true []), false⟩ := rfl
theorem zft : wt 95 = some ⟨.struct [(0, 1), (1, 1)], 2, 48, some (.agg [.osl 1 true [], .osl 1 true []]), false⟩ := rfl
theorem zdn : wt 102 = some ⟨.slice 105, 1, 24, some (.osl 2 true []), false⟩ := rfl
theorem zdm : wt 103 = some ⟨.int .u16, 1, 2, some (.atom (.int .u16 0)), false⟩ := rfl
theorem zdl : wt 105 = some ⟨.struct [(0, 1), (1, 1)], 2, 16, some (.agg [.atom (.int .i64 0), .atom (.int .i64 0)]), true⟩ := rfl
theorem zdk : wt 109 = some ⟨.array 3 3, 3, 24, some (.agg [.atom (.int .i64 0), .atom (.int .i64 0), .atom (.int .i64 0)]), true⟩ := rfl
theorem zdj : wt 112 = some ⟨.array 3 9, 3, 48, some (.agg [.atom (.string ⟨#[]⟩), .atom (.string ⟨#[]⟩), .atom (.string ⟨#[]⟩)]), false⟩ := rfl
theorem zdi : wt 117 = some ⟨.int .u64, 1, 8, some (.atom (.int .u64 0)), false⟩ := rfl
theorem zdh : wt 123 = some ⟨.other, 1, 8, some (.atom .nilFunc), false⟩ := rfl
theorem zdg : wt 129 = some ⟨.other, 1, 8, some (.atom .nilFunc), false⟩ := rfl
theorem zdf : wt 134 = some ⟨.other, 1, 8, some (.atom .nilFunc), false⟩ := rfl
theorem zde : wt 135 = some ⟨.other, 1, 8, some (.atom .nilFunc), false⟩ := rfl
theorem zdd : wt 138 = some ⟨.struct [(0, 1), (1, 1), (2, 1)], 3, 24, some (.agg [.atom (.int .i64 0), .atom (.int .i64 0), .atom (.int .i64 0)]), true⟩ := rfl
theorem zdc : wt 141 = some ⟨.other, 1, 8, some (.atom .nilFunc), false⟩ := rfl
theorem zdb : wt 148 = some ⟨.other, 1, 8, some (.atom .nilFunc), false⟩ := rfl
theorem zda : wt 149 = some ⟨.slice 138, 1, 24, some (.osl 3 true []), false⟩ := rfl
theorem zd9 : wt 150 = some ⟨.array 24 5, 24, 24, some (.agg [.atom (.int .u8 0), .atom (.int .u8 0), .atom (.int .u8 0), .atom (.int .u8 0), .atom (.int .u8 0), .atom (.int .u8 0), .atom (.int .u8 0), .atom (.int .u8 0), .atom (.int .u8 0), .atom (.int .u8 0), .atom (.int .u8 0), .atom (.int .u8 0), .atom (.int .u8 0), .atom (.int .u8 0), .atom (.int .u8 0), .atom (.int .u8 0), .atom (.int .u8 0), .atom (.int .u8 0), .atom (.int .u8 0), .atom (.int .u8 0), .atom (.int .u8 0), .atom (.int .u8 0), .atom (.int .u8 0), .atom (.int .u8 0)]), false⟩ := rfl
attribute [go_sem] zig zif zie zid zic zib zg1 zg0 zfZ zfY zfX zfW zfV zfU zfT zfS zfR zfQ zfP zfO zfN zfM zfL zfK zfJ zfI zfH zfG zfF zfE zfD zfC zfB zfA zfz zfy zfx zfw zfv zfu zft zdn zdm zdl zdk zdj zdi zdh zdg zdf zde zdd zdc zdb zda zd9
structure x5 (α : Type) where
 e0 : α
 e1 : α
 deriving DecidableEq
instance {α : Type} [BEq α] : BEq (x5 α) := ⟨fun x y => (x.e0 == y.e0) && (x.e1 == y.e1)⟩
section
variable {α : Type}
def VA (f : α → A) (x : x5 α) : A := .agg [f x.e0, f x.e1]
instance (f : α → A) [h : Vi f] : Vi (VA f) := ⟨fun x => by simp [VA, A.isD, A.areD, h.isD]⟩
instance (f g : α → A) [h : ZY f g] : ZY (VA f) (VA g) := ⟨fun x => by simp [VA, A.loose, A.looses, h.lo]⟩
instance (f g : α → A) [h : Kz f g] : Kz (VA f) (VA g) := ⟨fun x => by simp [VA, A.live, A.lives, h.live], fun x => by simp [VA, A.shut, A.shuts, h.sh]⟩
instance (f : α → A) [h : qm f] : qm (VA f) := ⟨fun x y q => by
 simp only [VA, A.agg.injEq, List.cons.injEq, and_true] at q
 cases x; cases y
 simp only [x5.mk.injEq]
 exact ⟨h.inj _ _ q.1, h.inj _ _ q.2⟩⟩
end
structure Wf (α : Type) where
 e0 : α
 e1 : α
 e2 : α
 deriving DecidableEq
section
variable {α : Type}
def zcR (f : α → A) (x : Wf α) : A := .agg [f x.e0, f x.e1, f x.e2]
end
section
variable {α : Type}
def Wf.toL (x : Wf α) : List α := [x.e0, x.e1, x.e2]
def Wf.ofL : List α → Wf α → Wf α
 | [x0, x1, x2], _ => ⟨x0, x1, x2⟩
 | _, d => d
theorem Wf.toL_ofL (l : List α) (d : Wf α) (h : l.length = 3) : (Wf.ofL l d).toL = l := by
 match l, h with
 | [x0, x1, x2], _ => rfl
def Wf.setI (x : Wf α) (i : Int) (v : α) : Wf α := Wf.ofL (x.toL.set i.toNat v) x
theorem Wf.setL (f : α → A) (x : Wf α) (i : Int) (v : α) : (x.toL.map f).set i.toNat (f v) = ((Wf.setI x i v).toL).map f := by
 unfold Wf.setI
 rw [Wf.toL_ofL _ _ (by simp [Wf.toL]), List.map_set]
end
structure z8 where
 State : Int
 Input : Int
 Next : Int
instance : BEq z8 := ⟨fun x y => (x.State == y.State) && (x.Input == y.Input) && (x.Next == y.Next)⟩
def y3 (f0 : Int → A) (f1 : Int → A) (f2 : Int → A) (x : z8) : A := .agg [f0 x.State, f1 x.Input, f2 x.Next]
instance (f0 : Int → A) (f1 : Int → A) (f2 : Int → A) [h0 : Vi f0] [h1 : Vi f1] [h2 : Vi f2] : Vi (y3 f0 f1 f2) := ⟨fun x => by simp [y3, A.isD, A.areD, h0.isD, h1.isD, h2.isD]⟩
instance (f0 : Int → A) (f1 : Int → A) (f2 : Int → A) (g0 : Int → A) (g1 : Int → A) (g2 : Int → A) [h0 : ZY f0 g0] [h1 : ZY f1 g1] [h2 : ZY f2 g2] : ZY (y3 f0 f1 f2) (y3 g0 g1 g2) := ⟨fun x => by simp [y3, A.loose, A.looses, h0.lo, h1.lo, h2.lo]⟩
instance (f0 : Int → A) (f1 : Int → A) (f2 : Int → A) (g0 : Int → A) (g1 : Int → A) (g2 : Int → A) [h0 : Kz f0 g0] [h1 : Kz f1 g1] [h2 : Kz f2 g2] : Kz (y3 f0 f1 f2) (y3 g0 g1 g2) := ⟨fun x => by simp [y3, A.live, A.lives, h0.live, h1.live, h2.live], fun x => by simp [y3, A.shut, A.shuts, h0.sh, h1.sh, h2.sh]⟩
instance (f0 : Int → A) (f1 : Int → A) (f2 : Int → A) [h0 : qm f0] [h1 : qm f1] [h2 : qm f2] : qm (y3 f0 f1 f2) := ⟨fun x y h => by
 simp only [y3, A.agg.injEq, List.cons.injEq, and_true] at h
 cases x; cases y
 simp only [z8.mk.injEq]
 exact ⟨h0.inj _ _ h.1, h1.inj _ _ h.2.1, h2.inj _ _ h.2.2⟩⟩
structure yh where
 States : Int
 Inputs : Int
 Outputs : Int
 Partial : Bool
 Edges : List Int
def uT (f0 : Int → A) (f1 : Int → A) (f2 : Int → A) (f3 : Bool → A) (f4 : List Int → A) (x : yh) : A := .agg [f0 x.States, f1 x.Inputs, f2 x.Outputs, f3 x.Partial, f4 x.Edges]
instance (f0 : Int → A) (f1 : Int → A) (f2 : Int → A) (f3 : Bool → A) (f4 : List Int → A) (g0 : Int → A) (g1 : Int → A) (g2 : Int → A) (g3 : Bool → A) (g4 : List Int → A) [h0 : ZY f0 g0] [h1 : ZY f1 g1] [h2 : ZY f2 g2] [h3 : ZY f3 g3] [h4 : ZY f4 g4] : ZY (uT f0 f1 f2 f3 f4) (uT g0 g1 g2 g3 g4) := ⟨fun x => by simp [uT, A.loose, A.looses, h0.lo, h1.lo, h2.lo, h3.lo, h4.lo]⟩
instance (f0 : Int → A) (f1 : Int → A) (f2 : Int → A) (f3 : Bool → A) (f4 : List Int → A) [h0 : qm f0] [h1 : qm f1] [h2 : qm f2] [h3 : qm f3] [h4 : qm f4] : qm (uT f0 f1 f2 f3 f4) := ⟨fun x y h => by
 simp only [uT, A.agg.injEq, List.cons.injEq, and_true] at h
 cases x; cases y
 simp only [yh.mk.injEq]
 exact ⟨h0.inj _ _ h.1, h1.inj _ _ h.2.1, h2.inj _ _ h.2.2.1, h3.inj _ _ h.2.2.2.1, h4.inj _ _ h.2.2.2.2⟩⟩
structure wn where
 M : yh
 L : List (List Int)
def uS (f0 : yh → A) (f1 : List (List Int) → A) (x : wn) : A := .agg [f0 x.M, f1 x.L]
instance (f0 : yh → A) (f1 : List (List Int) → A) (g0 : yh → A) (g1 : List (List Int) → A) [h0 : ZY f0 g0] [h1 : ZY f1 g1] : ZY (uS f0 f1) (uS g0 g1) := ⟨fun x => by simp [uS, A.loose, A.looses, h0.lo, h1.lo]⟩
instance (f0 : yh → A) (f1 : List (List Int) → A) [h0 : qm f0] [h1 : qm f1] : qm (uS f0 f1) := ⟨fun x y h => by
 simp only [uS, A.agg.injEq, List.cons.injEq, and_true] at h
 cases x; cases y
 simp only [wn.mk.injEq]
 exact ⟨h0.inj _ _ h.1, h1.inj _ _ h.2⟩⟩
structure ze where
 To : Int
 Out : Int
def wS (f0 : Int → A) (f1 : Int → A) (x : ze) : A := .agg [f0 x.To, f1 x.Out]
instance (f0 : Int → A) (f1 : Int → A) [h0 : Vi f0] [h1 : Vi f1] : Vi (wS f0 f1) := ⟨fun x => by simp [wS, A.isD, A.areD, h0.isD, h1.isD]⟩
instance (f0 : Int → A) (f1 : Int → A) (g0 : Int → A) (g1 : Int → A) [h0 : ZY f0 g0] [h1 : ZY f1 g1] : ZY (wS f0 f1) (wS g0 g1) := ⟨fun x => by simp [wS, A.loose, A.looses, h0.lo, h1.lo]⟩
instance (f0 : Int → A) (f1 : Int → A) (g0 : Int → A) (g1 : Int → A) [h0 : Kz f0 g0] [h1 : Kz f1 g1] : Kz (wS f0 f1) (wS g0 g1) := ⟨fun x => by simp [wS, A.live, A.lives, h0.live, h1.live], fun x => by simp [wS, A.shut, A.shuts, h0.sh, h1.sh]⟩
instance (f0 : Int → A) (f1 : Int → A) [h0 : qm f0] [h1 : qm f1] : qm (wS f0 f1) := ⟨fun x y h => by
 simp only [wS, A.agg.injEq, List.cons.injEq, and_true] at h
 cases x; cases y
 simp only [ze.mk.injEq]
 exact ⟨h0.inj _ _ h.1, h1.inj _ _ h.2⟩⟩
structure z6 where
 Inputs : Int
 Outputs : Int
 Rows : List (List ze)
def vT (f0 : Int → A) (f1 : Int → A) (f2 : List (List ze) → A) (x : z6) : A := .agg [f0 x.Inputs, f1 x.Outputs, f2 x.Rows]
instance (f0 : Int → A) (f1 : Int → A) (f2 : List (List ze) → A) (g0 : Int → A) (g1 : Int → A) (g2 : List (List ze) → A) [h0 : ZY f0 g0] [h1 : ZY f1 g1] [h2 : ZY f2 g2] : ZY (vT f0 f1 f2) (vT g0 g1 g2) := ⟨fun x => by simp [vT, A.loose, A.looses, h0.lo, h1.lo, h2.lo]⟩
instance (f0 : Int → A) (f1 : Int → A) (f2 : List (List ze) → A) [h0 : qm f0] [h1 : qm f1] [h2 : qm f2] : qm (vT f0 f1 f2) := ⟨fun x y h => by
 simp only [vT, A.agg.injEq, List.cons.injEq, and_true] at h
 cases x; cases y
 simp only [z6.mk.injEq]
 exact ⟨h0.inj _ _ h.1, h1.inj _ _ h.2.1, h2.inj _ _ h.2.2⟩⟩
structure zh where
 states_ : List (Int × Bool)
 edges_ : List ((x5 Int) × Bool)
 pairs_ : List (z8 × Bool)
def zS (f0 : List (Int × Bool) → A) (f1 : List ((x5 Int) × Bool) → A) (f2 : List (z8 × Bool) → A) (x : zh) : A := .agg [f0 x.states_, f1 x.edges_, f2 x.pairs_]
structure zj where
 state_ : Int
 from_ : Int
 input_ : Int
def ZH (f0 : Int → A) (f1 : Int → A) (f2 : Int → A) (x : zj) : A := .agg [f0 x.state_, f1 x.from_, f2 x.input_]
instance (f0 : Int → A) (f1 : Int → A) (f2 : Int → A) [h0 : Vi f0] [h1 : Vi f1] [h2 : Vi f2] : Vi (ZH f0 f1 f2) := ⟨fun x => by simp [ZH, A.isD, A.areD, h0.isD, h1.isD, h2.isD]⟩
structure zb where
 word_ : List Int
 pair_ : z8
 has_ : Int ⊕ (Int × Int) ⊕ z8
def zc (f0 : List Int → A) (f1 : z8 → A) (f2 : Int ⊕ (Int × Int) ⊕ z8 → A) (x : zb) : A := .agg [f0 x.word_, f1 x.pair_, f2 x.has_]
instance (f0 : List Int → A) (f1 : z8 → A) (f2 : Int ⊕ (Int × Int) ⊕ z8 → A) [h0 : Vi f0] [h1 : Vi f1] [h2 : Vi f2] : Vi (zc f0 f1 f2) := ⟨fun x => by simp [zc, A.isD, A.areD, h0.isD, h1.isD, h2.isD]⟩
instance (f0 : List Int → A) (f1 : z8 → A) (f2 : Int ⊕ (Int × Int) ⊕ z8 → A) (g0 : List Int → A) (g1 : z8 → A) (g2 : Int ⊕ (Int × Int) ⊕ z8 → A) [h0 : Kz f0 g0] [h1 : Kz f1 g1] [h2 : Kz f2 g2] : Kz (zc f0 f1 f2) (zc g0 g1 g2) := ⟨fun x => by simp [zc, A.live, A.lives, h0.live, h1.live, h2.live], fun x => by simp [zc, A.shut, A.shuts, h0.sh, h1.sh, h2.sh]⟩
structure za where
 State : Int
 Input : Int
 Next : Int
def vK (f0 : Int → A) (f1 : Int → A) (f2 : Int → A) (x : za) : A := .agg [f0 x.State, f1 x.Input, f2 x.Next]
instance (f0 : Int → A) (f1 : Int → A) (f2 : Int → A) [h0 : Vi f0] [h1 : Vi f1] [h2 : Vi f2] : Vi (vK f0 f1 f2) := ⟨fun x => by simp [vK, A.isD, A.areD, h0.isD, h1.isD, h2.isD]⟩
instance (f0 : Int → A) (f1 : Int → A) (f2 : Int → A) (g0 : Int → A) (g1 : Int → A) (g2 : Int → A) [h0 : ZY f0 g0] [h1 : ZY f1 g1] [h2 : ZY f2 g2] : ZY (vK f0 f1 f2) (vK g0 g1 g2) := ⟨fun x => by simp [vK, A.loose, A.looses, h0.lo, h1.lo, h2.lo]⟩
instance (f0 : Int → A) (f1 : Int → A) (f2 : Int → A) [h0 : qm f0] [h1 : qm f1] [h2 : qm f2] : qm (vK f0 f1 f2) := ⟨fun x y h => by
 simp only [vK, A.agg.injEq, List.cons.injEq, and_true] at h
 cases x; cases y
 simp only [za.mk.injEq]
 exact ⟨h0.inj _ _ h.1, h1.inj _ _ h.2.1, h2.inj _ _ h.2.2⟩⟩
structure yb where
 States : x5 Int
 Edges : x5 Int
 Pairs : x5 Int
def xi (f0 : x5 Int → A) (f1 : x5 Int → A) (f2 : x5 Int → A) (x : yb) : A := .agg [f0 x.States, f1 x.Edges, f2 x.Pairs]
instance (f0 : x5 Int → A) (f1 : x5 Int → A) (f2 : x5 Int → A) (g0 : x5 Int → A) (g1 : x5 Int → A) (g2 : x5 Int → A) [h0 : ZY f0 g0] [h1 : ZY f1 g1] [h2 : ZY f2 g2] : ZY (xi f0 f1 f2) (xi g0 g1 g2) := ⟨fun x => by simp [xi, A.loose, A.looses, h0.lo, h1.lo, h2.lo]⟩
instance (f0 : x5 Int → A) (f1 : x5 Int → A) (f2 : x5 Int → A) [h0 : qm f0] [h1 : qm f1] [h2 : qm f2] : qm (xi f0 f1 f2) := ⟨fun x y h => by
 simp only [xi, A.agg.injEq, List.cons.injEq, and_true] at h
 cases x; cases y
 simp only [yb.mk.injEq]
 exact ⟨h0.inj _ _ h.1, h1.inj _ _ h.2.1, h2.inj _ _ h.2.2⟩⟩
structure zz where
 sets_ : List (List Int)
 want_ : List Int
def yX (f0 : List (List Int) → A) (f1 : List Int → A) (x : zz) : A := .agg [f0 x.sets_, f1 x.want_]
instance (f0 : List (List Int) → A) (f1 : List Int → A) (g0 : List (List Int) → A) (g1 : List Int → A) [h0 : ZY f0 g0] [h1 : ZY f1 g1] : ZY (yX f0 f1) (yX g0 g1) := ⟨fun x => by simp [yX, A.loose, A.looses, h0.lo, h1.lo]⟩
instance (f0 : List (List Int) → A) (f1 : List Int → A) [h0 : qm f0] [h1 : qm f1] : qm (yX f0 f1) := ⟨fun x y h => by
 simp only [yX, A.agg.injEq, List.cons.injEq, and_true] at h
 cases x; cases y
 simp only [zz.mk.injEq]
 exact ⟨h0.inj _ _ h.1, h1.inj _ _ h.2⟩⟩
instance : zeC (K := x5 Int) (VA (eI .i64)) := ⟨fun x y => by
 obtain ⟨_, _⟩ := x
 obtain ⟨_, _⟩ := y
 simp only [VA, eI, Vh, QH, QH.keyLs, zP, BEq.beq, Option.map_some, Option.some.injEq, Value.agg.injEq, List.cons_append, List.nil_append, List.append_nil, Array.mk.injEq, List.cons.injEq, Value.int.injEq, true_and, and_true, Bool.and_eq_true, decide_eq_true_eq, and_assoc]⟩
instance : zeC (K := z8) (y3 (eI .i64) (eI .i64) (eI .i64)) := ⟨fun x y => by
 obtain ⟨_, _, _⟩ := x
 obtain ⟨_, _, _⟩ := y
 simp only [y3, eI, Vh, QH, QH.keyLs, zP, BEq.beq, Option.map_some, Option.some.injEq, Value.agg.injEq, List.cons_append, List.nil_append, List.append_nil, Array.mk.injEq, List.cons.injEq, Value.int.injEq, true_and, and_true, Bool.and_eq_true, decide_eq_true_eq, and_assoc]⟩
def zcw : Int ⊕ (Int × Int) ⊕ z8 → Nat
 | (.inl _) => 46
 | (.inr (.inl _)) => 47
 | (.inr (.inr _)) => 48
def zcZ : Int ⊕ (Int × Int) ⊕ z8 → List A
 | (.inl c) => [.sptr (I c)]
 | (.inr (.inl c)) => [.sptr (I c.1), .sptr (I c.2)]
 | (.inr (.inr c)) => [.sptr (.agg [I c.State, I c.Input, I c.Next])]
def zF (x : Int ⊕ (Int × Int) ⊕ z8) : A := .fn (zcw x) (zcZ x)
instance : Vi zF := ⟨fun _ => rfl⟩
instance : Kz zF zF := ⟨fun _ => rfl, fun _ => rfl⟩
def kR (x_ : yh) (fk : List (List ze)) : Option z6 :=
 some (z6.mk (w64 (1 + (w64 (Int.tmod x_.Inputs 3)))) (w64 (1 + (w64 (Int.tmod x_.Outputs 3)))) fk)
def kQ (s_ : Int) (ff : List (List ze)) : Option (LR (List (List ze) × Int) (List (List ze))) :=
 some (.next (ff, w64 (s_ + 1)))
def kP (bc : List (List ze)) (s_ : Int) (row : List ze) : Option (LR (List (List ze) × Int) (List (List ze))) :=
 gd (bc.length + ([row] : List (List ze)).length ≤ 4294967296) <|
 kQ s_ (bc ++ ([row] : List (List ze)))
def qZ (i_ : Int) (gk : List ze) : Option (LR (List ze × Int) (List ze)) :=
 some (.next (gk, w64 (i_ + 1)))
def vS (x_ : yh) (cj : List ze) (i_ : Int) (v_ : Int) : Option (LR (List ze × Int) (List ze)) :=
 bif x_.Partial then (
  gd ((4 : Int) ≠ 0) <|
  bif (Int.tmod v_ 4) == 3 then (
   gd (cj.length + ([(ze.mk (-1) (-1))] : List ze).length ≤ 4294967296) <|
   qZ i_ (cj ++ ([(ze.mk (-1) (-1))] : List ze)))
  else (
   gd ((4 : Int) ≠ 0) <|
   gd (((w64 (1 + (w64 (Int.tmod x_.States 6)))) : Int) ≠ 0) <|
   gd ((4 : Int) ≠ 0) <|
   gd (((w64 (1 + (w64 (Int.tmod x_.States 6)))) : Int) ≠ 0) <|
   gd (((w64 (1 + (w64 (Int.tmod x_.Outputs 3)))) : Int) ≠ 0) <|
   gd (cj.length + ([(ze.mk (Int.tmod (w64 (Int.tdiv v_ 4)) (w64 (1 + (w64 (Int.tmod x_.States 6))))) (Int.tmod (w64 (Int.tdiv (w64 (Int.tdiv v_ 4)) (w64 (1 + (w64 (Int.tmod x_.States 6)))))) (w64 (1 + (w64 (Int.tmod x_.Outputs 3))))))] : List ze).length ≤ 4294967296) <|
   qZ i_ (cj ++ ([(ze.mk (Int.tmod (w64 (Int.tdiv v_ 4)) (w64 (1 + (w64 (Int.tmod x_.States 6))))) (Int.tmod (w64 (Int.tdiv (w64 (Int.tdiv v_ 4)) (w64 (1 + (w64 (Int.tmod x_.States 6)))))) (w64 (1 + (w64 (Int.tmod x_.Outputs 3))))))] : List ze))))
 else (
  gd ((4 : Int) ≠ 0) <|
  gd (((w64 (1 + (w64 (Int.tmod x_.States 6)))) : Int) ≠ 0) <|
  gd ((4 : Int) ≠ 0) <|
  gd (((w64 (1 + (w64 (Int.tmod x_.States 6)))) : Int) ≠ 0) <|
  gd (((w64 (1 + (w64 (Int.tmod x_.Outputs 3)))) : Int) ≠ 0) <|
  gd (cj.length + ([(ze.mk (Int.tmod (w64 (Int.tdiv v_ 4)) (w64 (1 + (w64 (Int.tmod x_.States 6))))) (Int.tmod (w64 (Int.tdiv (w64 (Int.tdiv v_ 4)) (w64 (1 + (w64 (Int.tmod x_.States 6)))))) (w64 (1 + (w64 (Int.tmod x_.Outputs 3))))))] : List ze).length ≤ 4294967296) <|
  qZ i_ (cj ++ ([(ze.mk (Int.tmod (w64 (Int.tdiv v_ 4)) (w64 (1 + (w64 (Int.tmod x_.States 6))))) (Int.tmod (w64 (Int.tdiv (w64 (Int.tdiv v_ 4)) (w64 (1 + (w64 (Int.tmod x_.States 6)))))) (w64 (1 + (w64 (Int.tmod x_.Outputs 3))))))] : List ze)))
def qY (x_ : yh) (s_ : Int) (cj : List ze) (i_ : Int) : Option (LR (List ze × Int) (List ze)) :=
 bif decide (i_ < (w64 (1 + (w64 (Int.tmod x_.Inputs 3))))) then (
  bif decide ((w64 ((w64 (s_ * (w64 (1 + (w64 (Int.tmod x_.Inputs 3)))))) + i_)) < ((x_.Edges.length : Nat) : Int)) then (
   (idx x_.Edges (w64 ((w64 (s_ * (w64 (1 + (w64 (Int.tmod x_.Inputs 3)))))) + i_))).bind fun gl =>
   vS x_ cj i_ (w64 (gl)))
  else (
   vS x_ cj i_ 0))
 else (
  some (.done cj))
def kO (x_ : yh) (bc : List (List ze)) (s_ : Int) : Option (LR (List (List ze) × Int) (List (List ze))) :=
 bif decide (s_ < (w64 (1 + (w64 (Int.tmod x_.States 6))))) then (
  (loop (fun s => qY x_ s_ s.1 s.2) (([] : List ze), 0)).bind fun t5 =>
  kP bc s_ t5)
 else (
  some (.done bc))
def Yz (x_ : yh) : Option z6 :=
 gd ((6 : Int) ≠ 0) <|
 gd ((3 : Int) ≠ 0) <|
 gd ((3 : Int) ≠ 0) <|
 (loop (fun s => kO x_ s.1 s.2) (([] : List (List ze)), 0)).bind fun t2 =>
 kR x_ t2
def kN (out : List Int) : Option (List Int) :=
 some out
def kM (w_ : List Int) (inputs : Int) (most : Int) (ai : List Int) (k_ : Int) : Option (LR (List Int × Int) (List Int)) :=
 bif decide (k_ < ((w_.length : Nat) : Int)) then (
  bif decide (k_ < most) then (
   (idx w_ k_).bind fun bg =>
   gd ((inputs : Int) ≠ 0) <|
   gd (ai.length + ([Int.tmod (w64 (bg)) inputs] : List Int).length ≤ 4294967296) <|
   some (.next ((ai ++ ([Int.tmod (w64 (bg)) inputs] : List Int)), w64 (k_ + 1))))
  else (
   some (.done ai)))
 else (
  some (.done ai))
def Yy (w_ : List Int) (inputs : Int) (most : Int) : Option (List Int) :=
 (loop (fun s => kM w_ inputs most s.1 s.2) (([] : List Int), 0)).bind fun t2 =>
 kN t2
def kn : Option Int :=
 some 0
def u3 (a_ : List Int) (b_ : List Int) (i_ : Int) : Option (LR Int (Unit ⊕ Int)) :=
 bif decide (i_ < ((a_.length : Nat) : Int)) then (
  (idx a_ i_).bind fun ft =>
  (idx b_ i_).bind fun fw =>
  bif decide (ft < fw) then (
   some (.done (.inr (-1))))
  else (
   (idx a_ i_).bind fun ig =>
   (idx b_ i_).bind fun ii =>
   bif decide (ig > ii) then (
    some (.done (.inr 1)))
   else (
    some (.next (w64 (i_ + 1))))))
 else (
  some (.done (.inl ())))
def vR (a_ : List Int) (b_ : List Int) : Option Int :=
 bif ((a_.length : Nat) : Int) != ((b_.length : Nat) : Int) then (
  bif decide (((a_.length : Nat) : Int) < ((b_.length : Nat) : Int)) then (
   some (-1))
  else (
   some 1))
 else (
  (loop (fun s => u3 a_ b_ s) 0).bind fun t2 =>
  match t2 with
  | .inl p => kn
  | .inr p => some p)
def ZZ (w_ : List Int) (co : Int) (bn : List (List Int)) : Option (List (List Int)) :=
 gd (([] : List Int).length + w_.length ≤ 4294967296) <|
 (idx bn co).bind fun bf =>
 some (bn.set co.toNat w_)
def jT (co : Int) (dz : List (List Int)) (i_ : Int) : Option (LR (List (List Int) × Int) (List (List Int))) :=
 bif decide (i_ > co) then (
  (idx dz (w64 (i_ - 1))).bind fun cn =>
  (idx dz i_).bind fun iy =>
  some (.next ((dz.set i_.toNat cn), w64 (i_ - 1))))
 else (
  some (.done dz))
def qK (l_ : List (List Int)) (w_ : List Int) (co : Int) : Option (List (List Int)) :=
 gd (l_.length + ([[]] : List (List Int)).length ≤ 4294967296) <|
 (loop (fun s => jT co s.1 s.2) ((l_ ++ ([[]] : List (List Int))), w64 ((((l_ ++ ([[]] : List (List Int))).length : Nat) : Int) - 1))).bind fun t4 =>
 ZZ w_ co t4
def Y0 (l_ : List (List Int)) (w_ : List Int) (co : Int) : Option (List (List Int)) :=
 bif decide (co < ((l_.length : Nat) : Int)) then (
  (idx l_ co).bind fun ge =>
  (vR ge w_).bind fun r_ =>
  bif r_ == 0 then (
   some l_)
  else (
   qK l_ w_ co))
 else (
  qK l_ w_ co)
def jS (l_ : List (List Int)) (w_ : List Int) (dw : Int) (d9 : Int) : Option (LR (Int × Int) Int) :=
 bif decide (dw < d9) then (
  gd ((2 : Int) ≠ 0) <|
  (idx l_ (w64 (Int.tdiv (w64 (dw + d9)) 2))).bind fun gf =>
  (vR gf w_).bind fun ah =>
  bif decide (ah < 0) then (
   some (.next (w64 ((w64 (Int.tdiv (w64 (dw + d9)) 2)) + 1), d9)))
  else (
   some (.next (dw, w64 (Int.tdiv (w64 (dw + d9)) 2)))))
 else (
  some (.done dw))
def XX (l_ : List (List Int)) (w_ : List Int) : Option (List (List Int)) :=
 (loop (fun s => jS l_ w_ s.1 s.2) (0, ((l_.length : Nat) : Int))).bind fun t5 =>
 Y0 l_ w_ t5
def YZ (out : List (List Int)) : Option (List (List Int)) :=
 some out
def v7 (l_ : List (List Int)) (ai : List (List Int)) (i_ : Int) : Option (LR (List (List Int) × Int) (List (List Int))) :=
 bif decide (i_ < ((l_.length : Nat) : Int)) then (
  (idx l_ i_).bind fun bf =>
  (XX ai bf).bind fun r_ =>
  some (.next (r_, w64 (i_ + 1))))
 else (
  some (.done ai))
def Ys (l_ : List (List Int)) : Option (List (List Int)) :=
 (loop (fun s => v7 l_ s.1 s.2) (([] : List (List Int)), 0)).bind fun t2 =>
 YZ t2
def kL (r_ : z6) (l_ : List (List Int)) : Option (z6 × List (List Int)) :=
 (Ys l_).bind fun ah =>
 some (r_, ah)
def kK (x_ : wn) (r_ : z6) (bn : List (List Int)) (i_ : Int) : Option (LR (List (List Int) × Int) (List (List Int))) :=
 bif decide (i_ < ((x_.L.length : Nat) : Int)) then (
  bif decide (i_ < 12) then (
   (idx x_.L i_).bind fun ij =>
   (Yy ij r_.Inputs 8).bind fun al =>
   gd (bn.length + ([al] : List (List Int)).length ≤ 4294967296) <|
   some (.next ((bn ++ ([al] : List (List Int))), w64 (i_ + 1))))
  else (
   some (.done bn)))
 else (
  some (.done bn))
def Zf (x_ : wn) : Option (z6 × List (List Int)) :=
 (Yz x_.M).bind fun r_ =>
 (loop (fun s => kK x_ r_ s.1 s.2) (([] : List (List Int)), 0)).bind fun t2 =>
 kL r_ t2
def kJ : Option ze :=
 some (ze.mk (-1) (-1))
def qX (m_ : z6) (x_ : ze) : Option Bool :=
 (kJ).bind fun r_ =>
 bif (x_.To == r_.To) && ((x_.Out == r_.Out) && true) then (
  some true)
 else (
  bif decide (x_.To ≥ 0) then (
   bif decide (x_.To < ((m_.Rows.length : Nat) : Int)) then (
    bif decide (x_.Out ≥ 0) then (
     some (decide (x_.Out < m_.Outputs)))
    else (
     some false))
   else (
    some false))
  else (
   some false))
def qd (x_ : ze) (x1 : z6) : Option Bool :=
 (qX x1 x_).bind fun r_ =>
 some (!r_)
def yz : Option Int :=
 some (-1)
def zQ (s_ : List ze) (f_ : z6) (x8 : Int) : Option (LR Int (Unit ⊕ Int)) :=
 bif decide (x8 < ((s_.length : Nat) : Int)) then (
  (idx s_ x8).bind fun dn =>
  (qd dn f_).bind fun r_ =>
  bif r_ then (
   some (.done (.inr x8)))
  else (
   some (.next (w64 (x8 + 1)))))
 else (
  some (.done (.inl ())))
def yi (s_ : List ze) (f_ : z6) : Option Int :=
 (loop (fun s => zQ s_ f_ s) 0).bind fun t2 =>
 match t2 with
 | .inl p => yz
 | .inr p => some p
def zY (s_ : List ze) (f_ : z6) : Option Bool :=
 (yi s_ f_).bind fun r_ =>
 some (decide (r_ ≥ 0))
def jz : Option Int :=
 some 0
def ws (m_ : z6) (gm : Int) : Option (LR Int (Unit ⊕ Int)) :=
 bif decide (gm < ((m_.Rows.length : Nat) : Int)) then (
  (idx m_.Rows gm).bind fun au =>
  bif ((au.length : Nat) : Int) != m_.Inputs then (
   some (.done (.inr 1)))
  else (
   (zY au m_).bind fun r_ =>
   bif r_ then (
    some (.done (.inr 1)))
   else (
    some (.next (w64 (gm + 1))))))
 else (
  some (.done (.inl ())))
def ua (m_ : z6) : Option Int :=
 bif decide (m_.Inputs > 16) then (
  some 3)
 else (
  bif decide (m_.Outputs > 16) then (
   some 3)
  else (
   bif decide (((m_.Rows.length : Nat) : Int) > 64) then (
    some 3)
   else (
    bif decide (m_.Inputs < 1) then (
     some 1)
    else (
     bif decide (m_.Outputs < 1) then (
      some 1)
     else (
      bif decide (((m_.Rows.length : Nat) : Int) < 1) then (
       some 1)
      else (
       (loop (fun s => ws m_ s) 0).bind fun t2 =>
       match t2 with
       | .inl p => jz
       | .inr p => some p))))))
def kB (c_ : Int) (x1 : Int) : Option Bool :=
 bif decide (c_ < 0) then (
  some true)
 else (
  some (decide (c_ ≥ x1)))
def wx : Option Int :=
 some (-1)
def yc (s_ : List Int) (f_ : Int) (x8 : Int) : Option (LR Int (Unit ⊕ Int)) :=
 bif decide (x8 < ((s_.length : Nat) : Int)) then (
  (idx s_ x8).bind fun dn =>
  (kB dn f_).bind fun r_ =>
  bif r_ then (
   some (.done (.inr x8)))
  else (
   some (.next (w64 (x8 + 1)))))
 else (
  some (.done (.inl ())))
def w6 (s_ : List Int) (f_ : Int) : Option Int :=
 (loop (fun s => yc s_ f_ s) 0).bind fun t2 =>
 match t2 with
 | .inl p => wx
 | .inr p => some p
def x6 (s_ : List Int) (f_ : Int) : Option Bool :=
 (w6 s_ f_).bind fun r_ =>
 some (decide (r_ ≥ 0))
def jp (w_ : List Int) (inputs : Int) : Option Int :=
 bif decide (inputs > 16) then (
  some 3)
 else (
  bif decide (((w_.length : Nat) : Int) > 256) then (
   some 3)
  else (
   bif decide (inputs < 1) then (
    some 1)
   else (
    (x6 w_ inputs).bind fun r_ =>
    bif r_ then (
     some 1)
    else (
     some 0))))
def Y4 : Option Int :=
 some 0
def u7 (l_ : List (List Int)) (inputs : Int) (gn : Int) : Option (LR Int (Unit ⊕ Int)) :=
 bif decide (gn < ((l_.length : Nat) : Int)) then (
  (idx l_ gn).bind fun bf =>
  (jp bf inputs).bind fun r_ =>
  bif r_ != 0 then (
   some (.done (.inr r_)))
  else (
   some (.next (w64 (gn + 1)))))
 else (
  some (.done (.inl ())))
def js (l_ : List (List Int)) (inputs : Int) : Option Int :=
 bif decide (inputs > 16) then (
  some 3)
 else (
  bif decide (((l_.length : Nat) : Int) > 4096) then (
   some 3)
  else (
   bif decide (inputs < 1) then (
    some 1)
   else (
    (loop (fun s => u7 l_ inputs s) 0).bind fun t2 =>
    match t2 with
    | .inl p => Y4
    | .inr p => some p)))
def j8 (x_ : Int) : Option Bool :=
 some (x_ != x_)
def vF (x_ : Int) (y_ : Int) : Option Int :=
 (j8 x_).bind fun r_ =>
 (j8 y_).bind fun ah =>
 bif r_ then (
  bif ah then (
   some 0)
  else (
   some (-1)))
 else (
  bif ah then (
   some 1)
  else (
   bif decide (x_ < y_) then (
    some (-1))
   else (
    bif decide (x_ > y_) then (
     some 1)
    else (
     some 0))))
def xJ (s1 : List Int) (s2 : List Int) : Option Int :=
 bif decide (((s1.length : Nat) : Int) < ((s2.length : Nat) : Int)) then (
  some (-1))
 else (
  some 0)
def yk (s1 : List Int) (s2 : List Int) (dy : Int) : Option (LR Int (Unit ⊕ Int)) :=
 bif decide (dy < ((s1.length : Nat) : Int)) then (
  (idx s1 dy).bind fun gp =>
  bif decide (dy ≥ ((s2.length : Nat) : Int)) then (
   some (.done (.inr 1)))
  else (
   (idx s2 dy).bind fun fx =>
   (vF gp fx).bind fun r_ =>
   bif r_ != 0 then (
    some (.done (.inr r_)))
   else (
    some (.next (w64 (dy + 1))))))
 else (
  some (.done (.inl ())))
def xx (s1 : List Int) (s2 : List Int) : Option Int :=
 (loop (fun s => yk s1 s2 s) 0).bind fun t2 =>
 match t2 with
 | .inl p => xJ s1 s2
 | .inr p => some p
def kS : Option Int :=
 some 0
def uL (vals : List Int) (x8 : Int) : Option (LR Int (Unit ⊕ Int)) :=
 bif decide (x8 < ((vals.length : Nat) : Int)) then (
  (idx vals x8).bind fun gw =>
  bif gw != 0 then (
   some (.done (.inr gw)))
  else (
   some (.next (w64 (x8 + 1)))))
 else (
  some (.done (.inl ())))
def YC (vals : List Int) : Option Int :=
 (loop (fun s => uL vals s) 0).bind fun t2 =>
 match t2 with
 | .inl p => kS
 | .inr p => some p
def vL (a_ : List Int) (b_ : List Int) : Option Int :=
 (vF ((a_.length : Nat) : Int) ((b_.length : Nat) : Int)).bind fun r_ =>
 (xx a_ b_).bind fun ah =>
 (YC ([r_, ah])).bind fun al =>
 some al
def jJ : Option Bool :=
 some true
def u9 (l_ : List (List Int)) (i_ : Int) : Option (LR Int (Unit ⊕ Bool)) :=
 bif decide (i_ < ((l_.length : Nat) : Int)) then (
  (idx l_ (w64 (i_ - 1))).bind fun bf =>
  (idx l_ i_).bind fun cn =>
  (vL bf cn).bind fun r_ =>
  bif decide (r_ ≥ 0) then (
   some (.done (.inr false)))
  else (
   some (.next (w64 (i_ + 1)))))
 else (
  some (.done (.inl ())))
def Zm (l_ : List (List Int)) : Option Bool :=
 (loop (fun s => u9 l_ s) 1).bind fun t2 =>
 match t2 with
 | .inl p => jJ
 | .inr p => some p
def Y3 (n_ : Int) : Option Int :=
 some n_
def u6 (l_ : List (List Int)) (dt : Int) (x7 : Int) : Option (LR (Int × Int) Int) :=
 bif decide (x7 < ((l_.length : Nat) : Int)) then (
  (idx l_ x7).bind fun bf =>
  some (.next (w64 (dt + ((bf.length : Nat) : Int)), w64 (x7 + 1))))
 else (
  some (.done dt))
def jr (l_ : List (List Int)) : Option Int :=
 (loop (fun s => u6 l_ s.1 s.2) (0, 0)).bind fun t2 =>
 Y3 t2
def Zn (l_ : List (List Int)) (inputs : Int) : Option Int :=
 (js l_ inputs).bind fun r_ =>
 bif r_ != 0 then (
  some r_)
 else (
  (Zm l_).bind fun ah =>
  bif !ah then (
   some 1)
  else (
   (jr l_).bind fun al =>
   bif decide (al > 65536) then (
    some 3)
   else (
    some 0)))
def xW (m_ : z6) (l_ : List (List Int)) : Option Int :=
 (ua m_).bind fun r_ =>
 bif r_ != 0 then (
  some r_)
 else (
  (Zn l_ m_.Inputs).bind fun ah =>
  some ah)
def uU : Option zh :=
 some (zh.mk (QC ([] : List (Int × Bool)) 0 true) ([] : List ((x5 Int) × Bool)) ([] : List (z8 × Bool)))
def yH (am : List (Int × Bool)) (aq : List ((x5 Int) × Bool)) (cd : Int) (eb : Int) (bg : Int) (ak : ze) (bh : List (z8 × Bool)) : Option (LR ((List (Int × Bool)) × (List ((x5 Int) × Bool)) × (List (z8 × Bool)) × Int × Int × Int × Int) zh) :=
 some (.next ((QC am ak.To true), (QC aq (x5.mk cd bg) true), bh, ak.To, cd, bg, w64 (eb + 1)))
def xy (m_ : z6) (w_ : List Int) (am : List (Int × Bool)) (aq : List ((x5 Int) × Bool)) (ar : List (z8 × Bool)) (cd : Int) (bk : Int) (bo : Int) (eb : Int) : Option (LR ((List (Int × Bool)) × (List ((x5 Int) × Bool)) × (List (z8 × Bool)) × Int × Int × Int × Int) zh) :=
 bif decide (eb < ((w_.length : Nat) : Int)) then (
  (idx w_ eb).bind fun bg =>
  (idx m_.Rows cd).bind fun au =>
  (idx au bg).bind fun ak =>
  bif ak.To == (-1) then (
   some (.done (zh.mk am aq ar)))
  else (
   bif bk != (-1) then (
    yH am aq cd eb bg ak (QC ar (z8.mk bk bo bg) true))
   else (
    yH am aq cd eb bg ak ar)))
 else (
  some (.done (zh.mk am aq ar)))
def xE (m_ : z6) (w_ : List Int) (x_ : zh) : Option zh :=
 (loop (fun s => xy m_ w_ s.1 s.2.1 s.2.2.1 s.2.2.2.1 s.2.2.2.2.1 s.2.2.2.2.2.1 s.2.2.2.2.2.2) (x_.states_, x_.edges_, x_.pairs_, 0, (-1), (-1), 0)).bind fun t1 =>
 some t1
def uO (am : List (Int × Bool)) (aq : List ((x5 Int) × Bool)) (ar : List (z8 × Bool)) : Option zh :=
 some (zh.mk am aq ar)
def xm (m_ : z6) (l_ : List (List Int)) (bm : List (Int × Bool)) (bu : List ((x5 Int) × Bool)) (bh : List (z8 × Bool)) (dy : Int) : Option (LR ((List (Int × Bool)) × (List ((x5 Int) × Bool)) × (List (z8 × Bool)) × Int) (((List (Int × Bool)) × (List ((x5 Int) × Bool)) × (List (z8 × Bool))))) :=
 bif decide (dy < ((l_.length : Nat) : Int)) then (
  (idx l_ dy).bind fun bf =>
  (xE m_ bf (zh.mk bm bu bh)).bind fun ah =>
  some (.next (ah.states_, ah.edges_, ah.pairs_, w64 (dy + 1))))
 else (
  some (.done (bm, bu, bh)))
def yq (m_ : z6) (l_ : List (List Int)) : Option zh :=
 (uU).bind fun r_ =>
 (loop (fun s => xm m_ l_ s.1 s.2.1 s.2.2.1 s.2.2.2) (r_.states_, r_.edges_, r_.pairs_, 0)).bind fun t2 =>
 uO t2.1 t2.2.1 t2.2.2
def jH (m_ : z6) (from_ : Int) : Option (z6 × Int) :=
 some (m_, from_)
variable {σ : Type}
def yp (da : Int) (fy : List Bool) (fl : List zj) : Option (LR (List Bool × List zj × Int) ((σ × List Bool × List zj))) :=
 some (.next (fy, fl, w64 (da + 1)))
def xC (a7 : zj) (yr : σ × Bool) (au : List ze) (cw : List Bool) (cb : List zj) (da : Int) : Option (LR (List Bool × List zj × Int) ((σ × List Bool × List zj))) :=
 bif decide (da < ((au.length : Nat) : Int)) then (
  (idx au da).bind fun ak =>
  bif ak.To != (-1) then (
   (idx cw ak.To).bind fun gy =>
   bif !gy then (
    (idx cw ak.To).bind fun iu =>
    gd (cb.length + ([(zj.mk ak.To a7.state_ da)] : List zj).length ≤ 4294967296) <|
    yp da (cw.set ak.To.toNat true) (cb ++ ([(zj.mk ak.To a7.state_ da)] : List zj)))
   else (
    yp da cw cb))
  else (
   yp da cw cb))
 else (
  some (.done (yr.1, cw, cb)))
def wu (x0 : z6) (yy : σ → zj → Option (σ × Bool)) (fj : σ) (fm : List Bool) (bl : List zj) : Option (LR (σ × List Bool × List zj) σ) :=
 bif decide (((bl.length : Nat) : Int) > 0) then (
  (idx bl 0).bind fun a7 =>
  gd ((0 : Int) ≤ 1 ∧ (1 : Int) ≤ ((bl.length : Nat) : Int)) <|
  (yy fj a7).bind fun yr =>
  bif !yr.2 then (
   some (.done yr.1))
  else (
   (idx x0.Rows a7.state_).bind fun au =>
   (loop (fun s => xC a7 yr au s.1 s.2.1 s.2.2) (fm, (bl.drop (1 : Int).toNat), 0)).bind fun t2 =>
   some (.next t2)))
 else (
  some (.done fj))
def vW (x0 : z6) (x1 : Int) {σ : Type} (yy : σ → zj → Option (σ × Bool)) (sg : σ) : Option σ :=
 gd ((0 : Int) ≤ ((x0.Rows.length : Nat) : Int) ∧ (((x0.Rows.length : Nat) : Int) : Int) ≤ 4294967296) <|
 (idx (List.replicate ((x0.Rows.length : Nat) : Int).toNat false) x1).bind fun i4 =>
 (loop (fun s => wu x0 yy s.1 s.2.1 s.2.2) (sg, ((List.replicate ((x0.Rows.length : Nat) : Int).toNat false).set x1.toNat true), ([(zj.mk x1 (-1) (-1))] : List zj))).bind fun t1 =>
 some t1
def zT (s_ : List Int) : Option (List Int) :=
 gd (([] : List Int).length + s_.length ≤ 4294967296) <|
 some s_
def y5 (s_ : List Int) : Option (List Int) :=
 gd ((0 : Int) ≤ 0 ∧ (0 : Int) ≤ ((s_.length : Nat) : Int) ∧ (((s_.length : Nat) : Int) : Int) ≤ ((s_.length : Nat) : Int) ∧ (((s_.length : Nat) : Int) : Int) ≤ ((s_.length : Nat) : Int)) <|
 some ((s_.drop 0).take (((s_.length : Nat) : Int).toNat - 0))
def jG (l_ : List (List Int)) (is : List Bool) : Option (List (List Int) × List Bool) :=
 some (l_, is)
def xI (bn : List (List Int)) (ck : List Bool) (bz : zj) : Option (LR (List (List Int) × List Bool) Empty) :=
 (idx ck bz.state_).bind fun gx =>
 bif bz.from_ != (-1) then (
  (idx bn bz.from_).bind fun bf =>
  (zT bf).bind fun ah =>
  gd (ah.length + ([bz.input_] : List Int).length ≤ 4294967296) <|
  (y5 (ah ++ ([bz.input_] : List Int))).bind fun al =>
  (idx bn bz.state_).bind fun cn =>
  some (.next ((bn.set bz.state_.toNat al), (ck.set bz.state_.toNat true))))
 else (
  some (.next (bn, (ck.set bz.state_.toNat true))))
def Zi (m_ : z6) (from_ : Int) : Option (List (List Int) × List Bool) :=
 gd ((0 : Int) ≤ ((m_.Rows.length : Nat) : Int) ∧ (((m_.Rows.length : Nat) : Int) : Int) ≤ 4294967296) <|
 gd ((0 : Int) ≤ ((m_.Rows.length : Nat) : Int) ∧ (((m_.Rows.length : Nat) : Int) : Int) ≤ 4294967296) <|
 (jH m_ from_).bind fun r_ =>
 (vW r_.1 r_.2 (yOf (fun s x => xI s.1 s.2 x)) (.next ((List.replicate ((m_.Rows.length : Nat) : Int).toNat ([] : List Int)), (List.replicate ((m_.Rows.length : Nat) : Int).toNat false)))).bind fun t2 =>
 match t2 with
 | .next (bn, ck) => (
  jG bn ck)
 | .done z => nomatch z
def jP (m_ : z6) : Option (List (List Int) × List Bool × Int) :=
 (ua m_).bind fun r_ =>
 bif r_ != 0 then (
  some (([] : List (List Int)), ([] : List Bool), r_))
 else (
  (Zi m_ 0).bind fun ah =>
  some (ah.1, ah.2, 0))
def qg (out : List zb) : Option (List zb) :=
 some out
def xp (aw : Int) (a8 : List zb) : Option (LR (List zb × Int) (List zb)) :=
 some (.next (a8, w64 (aw + 1)))
def xo (ba : Int) (cr : List zb) : Option (LR (List zb × Int) (List zb)) :=
 some (.next (cr, w64 (ba + 1)))
def wW (ce : Int) (cp : List zb) : Option (LR (List zb × Int) (List zb)) :=
 some (.next (cp, w64 (ce + 1)))
def wT (aw : Int) (ba : Int) (al : List Int) (bv : List ze) (cx : List zb) (ce : Int) : Option (LR (List zb × Int) (List zb)) :=
 bif decide (ce < ((bv.length : Nat) : Int)) then (
  (idx bv ce).bind fun bj =>
  bif bj.To != (-1) then (
   (zT (al ++ ([ba] : List Int))).bind fun ap =>
   (y5 ap).bind fun av =>
   gd (av.length + ([ce] : List Int).length ≤ 4294967296) <|
   gd (cx.length + ([(zb.mk (av ++ ([ce] : List Int)) (z8.mk aw ba ce) (.inr (.inr (z8.mk aw ba ce))))] : List zb).length ≤ 4294967296) <|
   wW ce (cx ++ ([(zb.mk (av ++ ([ce] : List Int)) (z8.mk aw ba ce) (.inr (.inr (z8.mk aw ba ce))))] : List zb)))
  else (
   wW ce cx))
 else (
  some (.done cx))
def wU (m_ : z6) (goal : Int) (r_ : List (List Int) × List Bool × Int) (aw : Int) (au : List ze) (br : List zb) (ba : Int) : Option (LR (List zb × Int) (List zb)) :=
 bif decide (ba < ((au.length : Nat) : Int)) then (
  (idx au ba).bind fun ak =>
  bif ak.To == (-1) then (
   xo ba br)
  else (
   (idx r_.1 aw).bind fun gq =>
   (zT gq).bind fun ah =>
   (y5 ah).bind fun al =>
   gd (al.length + ([ba] : List Int).length ≤ 4294967296) <|
   bif goal == 1 then (
    gd (br.length + ([(zb.mk (al ++ ([ba] : List Int)) (z8.mk aw ba 0) (.inr (.inl (aw, ba))))] : List zb).length ≤ 4294967296) <|
    xo ba (br ++ ([(zb.mk (al ++ ([ba] : List Int)) (z8.mk aw ba 0) (.inr (.inl (aw, ba))))] : List zb)))
   else (
    (idx m_.Rows ak.To).bind fun bv =>
    (loop (fun s => wT aw ba al bv s.1 s.2) (br, 0)).bind fun t6 =>
    xo ba t6)))
 else (
  some (.done br))
def wV (m_ : z6) (goal : Int) (r_ : List (List Int) × List Bool × Int) (ai : List zb) (aw : Int) : Option (LR (List zb × Int) (List zb)) :=
 bif decide (aw < ((m_.Rows.length : Nat) : Int)) then (
  (idx m_.Rows aw).bind fun au =>
  (idx r_.2.1 aw).bind fun u_ =>
  bif !u_ then (
   xp aw ai)
  else (
   bif goal == 0 then (
    (idx r_.1 aw).bind fun ee =>
    gd (ai.length + ([(zb.mk ee (z8.mk aw 0 0) (.inl aw))] : List zb).length ≤ 4294967296) <|
    xp aw (ai ++ ([(zb.mk ee (z8.mk aw 0 0) (.inl aw))] : List zb)))
   else (
    (loop (fun s => wU m_ goal r_ aw au s.1 s.2) (ai, 0)).bind fun t4 =>
    xp aw t4)))
 else (
  some (.done ai))
def v8 (m_ : z6) (goal : Int) : Option (List zb) :=
 (jP m_).bind fun r_ =>
 (loop (fun s => wV m_ goal r_ s.1 s.2) (([] : List zb), 0)).bind fun t2 =>
 qg t2
def j7 (x0 : Int) (x_ : zh) : Option Bool :=
 (some ((z4u x_.states_ x0).getD false)).bind fun val =>
 some val
def j6 (x0 : Int) (x1 : Int) (x_ : zh) : Option Bool :=
 (some ((z4u x_.edges_ (x5.mk x0 x1)).getD false)).bind fun val =>
 some val
def j5 (x0 : z8) (x_ : zh) : Option Bool :=
 (some ((z4u x_.pairs_ x0).getD false)).bind fun val =>
 some val
def W5 (f : Int ⊕ (Int × Int) ⊕ z8) (x : zh) : Option Bool :=
 match f with
 | (.inl c) => j7 c x
 | (.inr (.inl c)) => j6 c.1 c.2 x
 | (.inr (.inr c)) => j5 c x
def zR (s_ : List z8) : Option (List z8) :=
 gd ((0 : Int) ≤ 0 ∧ (0 : Int) ≤ ((s_.length : Nat) : Int) ∧ (((s_.length : Nat) : Int) : Int) ≤ ((s_.length : Nat) : Int) ∧ (((s_.length : Nat) : Int) : Int) ≤ ((s_.length : Nat) : Int)) <|
 some ((s_.drop 0).take (((s_.length : Nat) : Int).toNat - 0))
def vu (out : List z8) : Option (List z8 × Int) :=
 (zR out).bind fun al =>
 some (al, 0)
def xk (aw : Int) (a8 : List z8) : Option (LR (List z8 × Int) (List z8)) :=
 some (.next (a8, w64 (aw + 1)))
def xj (ah : zh) (ap : List zb) (ai : List z8) (aw : Int) : Option (LR (List z8 × Int) (List z8)) :=
 bif decide (aw < ((ap.length : Nat) : Int)) then (
  (idx ap aw).bind fun bt =>
  (W5 bt.has_ ah).bind fun av =>
  bif !av then (
   gd (ai.length + ([bt.pair_] : List z8).length ≤ 4294967296) <|
   xk aw (ai ++ ([bt.pair_] : List z8)))
  else (
   xk aw ai))
 else (
  some (.done ai))
def xD (m_ : z6) (l_ : List (List Int)) (goal : Int) : Option (List z8 × Int) :=
 (xW m_ l_).bind fun r_ =>
 bif r_ != 0 then (
  some (([] : List z8), r_))
 else (
  (yq m_ l_).bind fun ah =>
  (v8 m_ goal).bind fun ap =>
  (loop (fun s => xj ah ap s.1 s.2) (([] : List z8), 0)).bind fun t2 =>
  vu t2)
def vU (r_ : List z8 × Int) (out : List Int) : Option (List Int × Int) :=
 gd (out.length = ((r_.1.length : Nat) : Int).toNat) <|
 some (out, r_.2)
def xF (r_ : List z8 × Int) (ai : List Int) (eg : Int) : Option (LR (List Int × Int) (List Int)) :=
 bif decide (eg < ((r_.1.length : Nat) : Int)) then (
  (idx r_.1 eg).bind fun u_ =>
  gd (ai.length + ([u_.State] : List Int).length ≤ ((r_.1.length : Nat) : Int).toNat) <|
  some (.next ((ai ++ ([u_.State] : List Int)), w64 (eg + 1))))
 else (
  some (.done ai))
def u4 (m_ : z6) (l_ : List (List Int)) : Option (List Int × Int) :=
 (xD m_ l_ 0).bind fun r_ =>
 gd ((0 : Int) ≤ ((r_.1.length : Nat) : Int) ∧ (((r_.1.length : Nat) : Int) : Int) ≤ 4294967296) <|
 (loop (fun s => xF r_ s.1 s.2) (([] : List Int), 0)).bind fun t2 =>
 vU r_ t2
def um (r_ : List z8 × Int) (out : List (x5 Int)) : Option (List (x5 Int) × Int) :=
 gd (out.length = ((r_.1.length : Nat) : Int).toNat) <|
 some (out, r_.2)
def w9 (r_ : List z8 × Int) (ai : List (x5 Int)) (eg : Int) : Option (LR (List (x5 Int) × Int) (List (x5 Int))) :=
 bif decide (eg < ((r_.1.length : Nat) : Int)) then (
  (idx r_.1 eg).bind fun u_ =>
  gd (ai.length + ([(x5.mk u_.State u_.Input)] : List (x5 Int)).length ≤ ((r_.1.length : Nat) : Int).toNat) <|
  some (.next ((ai ++ ([(x5.mk u_.State u_.Input)] : List (x5 Int))), w64 (eg + 1))))
 else (
  some (.done ai))
def vE (m_ : z6) (l_ : List (List Int)) : Option (List (x5 Int) × Int) :=
 (xD m_ l_ 1).bind fun r_ =>
 gd ((0 : Int) ≤ ((r_.1.length : Nat) : Int) ∧ (((r_.1.length : Nat) : Int) : Int) ≤ 4294967296) <|
 (loop (fun s => w9 r_ s.1 s.2) (([] : List (x5 Int)), 0)).bind fun t2 =>
 um r_ t2
def uz (m_ : z6) (l_ : List (List Int)) : Option (List z8 × Int) :=
 (xD m_ l_ 2).bind fun r_ =>
 some (r_.1, r_.2)
def Yt (m_ : z6) (s_ : Int) (i_ : Int) : Option ze :=
 bif decide (s_ < 0) then (
  some (ze.mk (-1) (-1)))
 else (
  (idx m_.Rows s_).bind fun au =>
  (idx au i_).bind fun ak =>
  some ak)
def uH (dp : z6 → Int → (List Int) → Option Int) (m_ : z6) (s_ : Int) (w_ : List Int) : Option Int :=
 bif ((w_.length : Nat) : Int) == 0 then (
  some s_)
 else (
  (idx w_ 0).bind fun bg =>
  (Yt m_ s_ bg).bind fun r_ =>
  gd ((0 : Int) ≤ 1 ∧ (1 : Int) ≤ ((w_.length : Nat) : Int) ∧ (((w_.length : Nat) : Int) : Int) ≤ ((w_.length : Nat) : Int)) <|
  (dp m_ r_.To (w_.drop (1 : Int).toNat)).bind fun ah =>
  some ah)
def qW (fu : Nat) : z6 → Int → (List Int) → Option Int := Nat.rec (motive := fun _ => z6 → Int → (List Int) → Option Int) (fun _ _ _ => none) (fun _ ih => uH ih) fu
def X3 (m_ : z6) (s_ : Int) (w_ : List Int) : Option Int := qW (w_.length + 1) m_ s_ w_
def qV (out : List Int) : Option (List Int) :=
 gd (out.length + ([0] : List Int).length ≤ 4294967296) <|
 some (out ++ ([0] : List Int))
def qU (inputs : Int) (ai : List Int) (k_ : Int) : Option (LR (List Int × Int) (List Int ⊕ List Int)) :=
 bif decide (k_ ≥ 0) then (
  (idx ai k_).bind fun dg =>
  bif decide ((w64 (dg + 1)) < inputs) then (
   (idx ai k_).bind fun em =>
   (idx ai k_).bind fun iv =>
   some (.done (.inr (ai.set k_.toNat (w64 (em + 1))))))
  else (
   (idx ai k_).bind fun iw =>
   some (.next ((ai.set k_.toNat 0), w64 (k_ - 1)))))
 else (
  some (.done (.inl ai)))
def Zd (w_ : List Int) (inputs : Int) : Option (List Int) :=
 gd (([] : List Int).length + w_.length ≤ 4294967296) <|
 (loop (fun s => qU inputs s.1 s.2) (w_, w64 (((w_.length : Nat) : Int) - 1))).bind fun t2 =>
 match t2 with
 | .inl p => qV p
 | .inr p => some p
def jN (l_ : List (List Int)) (is : List Bool) : Option (List (List Int) × List Bool) :=
 some (l_, is)
def vn (m_ : z6) (w_ : List Int) (dz : List (List Int)) (gz : List Bool) : Option (LR (List (List Int) × List Bool × List Int) ((List (List Int) × List Bool))) :=
 (Zd w_ m_.Inputs).bind fun r_ =>
 some (.next (dz, gz, r_))
def jM (m_ : z6) (from_ : Int) (bn : List (List Int)) (ck : List Bool) (w_ : List Int) : Option (LR (List (List Int) × List Bool × List Int) ((List (List Int) × List Bool))) :=
 bif decide (((w_.length : Nat) : Int) < ((m_.Rows.length : Nat) : Int)) then (
  (X3 m_ from_ w_).bind fun ah =>
  bif decide (ah ≥ 0) then (
   (idx ck ah).bind fun gx =>
   bif !gx then (
    (idx ck ah).bind fun iz =>
    (idx bn ah).bind fun bf =>
    vn m_ w_ (bn.set ah.toNat w_) (ck.set ah.toNat true))
   else (
    vn m_ w_ bn ck))
  else (
   vn m_ w_ bn ck))
 else (
  some (.done (bn, ck)))
def Zy (m_ : z6) (from_ : Int) : Option (List (List Int) × List Bool) :=
 gd ((0 : Int) ≤ ((m_.Rows.length : Nat) : Int) ∧ (((m_.Rows.length : Nat) : Int) : Int) ≤ 4294967296) <|
 gd ((0 : Int) ≤ ((m_.Rows.length : Nat) : Int) ∧ (((m_.Rows.length : Nat) : Int) : Int) ≤ 4294967296) <|
 (loop (fun s => jM m_ from_ s.1 s.2.1 s.2.2) ((List.replicate ((m_.Rows.length : Nat) : Int).toNat ([] : List Int)), (List.replicate ((m_.Rows.length : Nat) : Int).toNat false), ([] : List Int))).bind fun t2 =>
 jN t2.1 t2.2
def jU (m_ : z6) : Option (List (List Int) × List Bool) :=
 (Zy m_ 0).bind fun r_ =>
 some (r_.1, r_.2)
def kH (out : List za) : Option (List za) :=
 some out
def v6 (s_ : Int) (a8 : List za) : Option (LR (List za × Int) (List za)) :=
 some (.next (a8, w64 (s_ + 1)))
def qR (i_ : Int) (cr : List za) : Option (LR (List za × Int) (List za)) :=
 some (.next (cr, w64 (i_ + 1)))
def uG (k_ : Int) (gr : List za) : Option (LR (List za × Int) (List za)) :=
 some (.next (gr, w64 (k_ + 1)))
def vQ (m_ : z6) (goal : Int) (s_ : Int) (i_ : Int) (ak : ze) (cp : List za) (k_ : Int) : Option (LR (List za × Int) (List za)) :=
 bif decide (k_ < m_.Inputs) then (
  bif ak.To != (-1) then (
   bif goal == 2 then (
    (idx m_.Rows ak.To).bind fun bv =>
    (idx bv k_).bind fun bj =>
    bif bj.To != (-1) then (
     gd (cp.length + ([(za.mk s_ i_ k_)] : List za).length ≤ 4294967296) <|
     uG k_ (cp ++ ([(za.mk s_ i_ k_)] : List za)))
    else (
     uG k_ cp))
   else (
    some (.done cp)))
  else (
   some (.done cp)))
 else (
  some (.done cp))
def wZ (m_ : z6) (goal : Int) (s_ : Int) (i_ : Int) (ak : ze) (cx : List za) : Option (LR (List za × Int) (List za)) :=
 (loop (fun s => vQ m_ goal s_ i_ ak s.1 s.2) (cx, 0)).bind fun t7 =>
 qR i_ t7
def uE (m_ : z6) (goal : Int) (s_ : Int) (br : List za) (i_ : Int) : Option (LR (List za × Int) (List za)) :=
 bif decide (i_ < m_.Inputs) then (
  (idx m_.Rows s_).bind fun au =>
  (idx au i_).bind fun ak =>
  bif ak.To != (-1) then (
   bif goal == 1 then (
    gd (br.length + ([(za.mk s_ i_ (-1))] : List za).length ≤ 4294967296) <|
    wZ m_ goal s_ i_ ak (br ++ ([(za.mk s_ i_ (-1))] : List za)))
   else (
    wZ m_ goal s_ i_ ak br))
  else (
   wZ m_ goal s_ i_ ak br))
 else (
  some (.done br))
def uF (m_ : z6) (goal : Int) (r_ : List (List Int) × List Bool) (ai : List za) (s_ : Int) : Option (LR (List za × Int) (List za)) :=
 bif decide (s_ < ((m_.Rows.length : Nat) : Int)) then (
  (idx r_.2 s_).bind fun u_ =>
  bif !u_ then (
   v6 s_ ai)
  else (
   bif goal == 0 then (
    gd (ai.length + ([(za.mk s_ (-1) (-1))] : List za).length ≤ 4294967296) <|
    v6 s_ (ai ++ ([(za.mk s_ (-1) (-1))] : List za)))
   else (
    (loop (fun s => uE m_ goal s_ s.1 s.2) (ai, 0)).bind fun t4 =>
    v6 s_ t4)))
 else (
  some (.done ai))
def Yr (m_ : z6) (goal : Int) : Option (List za) :=
 (jU m_).bind fun r_ =>
 (loop (fun s => uF m_ goal r_ s.1 s.2) (([] : List za), 0)).bind fun t2 =>
 kH t2
def x9 (k_ : Int) (bj : ze) : Option (LR (Int × Int) Bool) :=
 some (.next (bj.To, w64 (k_ + 1)))
def vC (m_ : z6) (w_ : List Int) (x_ : za) (cd : Int) (k_ : Int) : Option (LR (Int × Int) Bool) :=
 bif k_ == ((w_.length : Nat) : Int) then (
  some (.done false))
 else (
  (idx m_.Rows cd).bind fun au =>
  (idx w_ k_).bind fun bg =>
  (idx au bg).bind fun ak =>
  bif ak.To == (-1) then (
   some (.done false))
  else (
   (idx m_.Rows cd).bind fun bv =>
   (idx w_ k_).bind fun ik =>
   (idx bv ik).bind fun bj =>
   bif x_.State == cd then (
    (idx w_ k_).bind fun il =>
    bif x_.Input == il then (
     bif x_.Next == (-1) then (
      some (.done true))
     else (
      bif decide ((w64 (k_ + 1)) < ((w_.length : Nat) : Int)) then (
       (idx w_ (w64 (k_ + 1))).bind fun im =>
       bif im == x_.Next then (
        (idx m_.Rows bj.To).bind fun ia =>
        (idx ia x_.Next).bind fun gt =>
        bif gt.To != (-1) then (
         some (.done true))
        else (
         x9 k_ bj))
       else (
        x9 k_ bj))
      else (
       x9 k_ bj)))
    else (
     x9 k_ bj))
   else (
    x9 k_ bj)))
def ut (m_ : z6) (w_ : List Int) (x_ : za) (cd : Int) (k_ : Int) : Option (LR (Int × Int) Bool) :=
 bif x_.Input == (-1) then (
  bif x_.State == cd then (
   some (.done true))
  else (
   vC m_ w_ x_ cd k_))
 else (
  vC m_ w_ x_ cd k_)
def jR (m_ : z6) (w_ : List Int) (x_ : za) : Option Bool :=
 (loop (fun s => ut m_ w_ x_ s.1 s.2) (0, 0)).bind fun t1 =>
 some t1
def q9 (x_ : za) : Option Bool :=
 some ((x_.State == 0) && ((x_.Input == (-1)) && ((x_.Next == (-1)) && true)))
def vZ (m_ : z6) (l_ : List (List Int)) (x_ : za) (i_ : Int) : Option (LR Int (Unit ⊕ Bool)) :=
 bif decide (i_ < ((l_.length : Nat) : Int)) then (
  (idx l_ i_).bind fun bf =>
  (jR m_ bf x_).bind fun r_ =>
  bif r_ then (
   some (.done (.inr true)))
  else (
   some (.next (w64 (i_ + 1)))))
 else (
  some (.done (.inl ())))
def qS (m_ : z6) (l_ : List (List Int)) (x_ : za) : Option Bool :=
 (loop (fun s => vZ m_ l_ x_ s) 0).bind fun t2 =>
 match t2 with
 | .inl p => q9 x_
 | .inr p => some p
def uZ (out : List za) : Option (List za) :=
 some out
def wR (i_ : Int) (a8 : List za) : Option (LR (List za × Int) (List za)) :=
 some (.next (a8, w64 (i_ + 1)))
def wQ (m_ : z6) (l_ : List (List Int)) (r_ : List za) (ai : List za) (i_ : Int) : Option (LR (List za × Int) (List za)) :=
 bif decide (i_ < ((r_.length : Nat) : Int)) then (
  (idx r_ i_).bind fun bt =>
  (qS m_ l_ bt).bind fun ah =>
  bif !ah then (
   (idx r_ i_).bind fun dx =>
   gd (ai.length + ([dx] : List za).length ≤ 4294967296) <|
   wR i_ (ai ++ ([dx] : List za)))
  else (
   wR i_ ai))
 else (
  some (.done ai))
def vP (m_ : z6) (l_ : List (List Int)) (goal : Int) : Option (List za) :=
 (Yr m_ goal).bind fun r_ =>
 (loop (fun s => wQ m_ l_ r_ s.1 s.2) (([] : List za), 0)).bind fun t2 =>
 uZ t2
def W3 : Option z6 :=
 some (z6.mk 2 2 ([[(ze.mk 1 0), (ze.mk 0 0)], [(ze.mk 0 1), (ze.mk 1 0)]]))
def uw (goal : Int) (x_ : zh) : Option Int :=
 (idx ([((x_.states_.length : Nat) : Int), ((x_.edges_.length : Nat) : Int), ((x_.pairs_.length : Nat) : Int)] : List Int) goal).bind fun cell =>
 some cell
def ZJ (n_ : Wf (x5 Int)) : Option (yb × Int) :=
 some ((yb.mk n_.e0 n_.e1 n_.e2), 0)
def ZI (m_ : z6) (ah : zh) (dt : Wf (x5 Int)) (bz : Int) : Option (LR (Wf (x5 Int) × Int) (Wf (x5 Int))) :=
 bif decide (bz < 3) then (
  (uw bz ah).bind fun al =>
  (v8 m_ bz).bind fun ap =>
  (idx (Wf.toL dt) bz).bind fun cell =>
  (some (Wf.setI dt bz (x5.mk al ((ap.length : Nat) : Int)))).bind fun arr =>
  some (.next (arr, w64 (bz + 1))))
 else (
  some (.done dt))
def Y2 (m_ : z6) (l_ : List (List Int)) : Option (yb × Int) :=
 (xW m_ l_).bind fun r_ =>
 bif r_ != 0 then (
  some ((yb.mk (x5.mk 0 0) (x5.mk 0 0) (x5.mk 0 0)), r_))
 else (
  (yq m_ l_).bind fun ah =>
  (loop (fun s => ZI m_ ah s.1 s.2) ((Wf.mk (x5.mk 0 0) (x5.mk 0 0) (x5.mk 0 0)), 0)).bind fun t2 =>
  ZJ t2)
def ur (s_ : List (List Int)) : Option (List (List Int)) :=
 gd (([] : List (List Int)).length + s_.length ≤ 4294967296) <|
 some s_
def jI (a_ : List Int) (b_ : List Int) : Option Bool :=
 (vL a_ b_).bind fun r_ =>
 some (r_ == 0)
def xT (s_ : List (List Int)) : Option (List (List Int)) :=
 some s_
def xS (k_ : Int) : Option (LR Int (Unit ⊕ List (List Int))) :=
 some (.next (w64 (k_ + 1)))
def xR (du : List (List Int)) (ct : Int) : Option (LR Int (Unit ⊕ List (List Int))) :=
 gd ((0 : Int) ≤ ct ∧ (ct : Int) ≤ ((du.length : Nat) : Int)) <|
 gd ((0 : Int) ≤ ct ∧ (ct : Int) ≤ ((du.length : Nat) : Int)) <|
 gd ((0 : Int) ≤ ct ∧ (ct : Int) ≤ (((du.take ct.toNat ++ List.replicate (du.length - ct.toNat) []).length : Nat) : Int)) <|
 some (.done (.inr ((du.take ct.toNat ++ List.replicate (du.length - ct.toNat) []).take ct.toNat)))
def yD (k2 : Int) (ib : List (List Int)) (ic : Int) : Option (LR (List (List Int) × Int × Int) ((List (List Int) × Int))) :=
 some (.next (ib, ic, w64 (k2 + 1)))
def xP (k_ : Int) (dj : List (List Int)) (eu : Int) (k2 : Int) : Option (LR (List (List Int) × Int × Int) ((List (List Int) × Int))) :=
 bif decide (k2 < ((dj.length - k_.toNat : Nat) : Int)) then (
  gd ((0 : Int) ≤ k_ ∧ (0 : Int) ≤ k2) <|
  (idx dj (k_ + k2)).bind fun gg =>
  gd ((0 : Int) ≤ k_ ∧ (0 : Int) ≤ w64 (k2 - 1)) <|
  (idx dj (k_ + (w64 (k2 - 1)))).bind fun gh =>
  (jI gg gh).bind fun ah =>
  bif !ah then (
   gd ((0 : Int) ≤ k_ ∧ (0 : Int) ≤ k2) <|
   (idx dj (k_ + k2)).bind fun gi =>
   (idx dj eu).bind fun i3 =>
   yD k2 (dj.set eu.toNat gi) (w64 (eu + 1)))
  else (
   yD k2 dj eu))
 else (
  some (.done (dj, eu)))
def xQ (s_ : List (List Int)) (k_ : Int) : Option (LR Int (Unit ⊕ List (List Int))) :=
 bif decide (k_ < ((s_.length : Nat) : Int)) then (
  (idx s_ k_).bind fun dn =>
  (idx s_ (w64 (k_ - 1))).bind fun gj =>
  (jI dn gj).bind fun r_ =>
  bif r_ then (
   gd ((0 : Int) ≤ k_ ∧ (k_ : Int) ≤ ((s_.length : Nat) : Int)) <|
   (loop (fun s => xP k_ s.1 s.2.1 s.2.2) (s_, k_, 1)).bind fun t5 =>
   xR t5.1 t5.2)
  else (
   xS k_))
 else (
  some (.done (.inl ())))
def wy (s_ : List (List Int)) (eq : Unit) : Option (List (List Int)) :=
 bif decide (((s_.length : Nat) : Int) < 2) then (
  some s_)
 else (
  (loop (fun s => xQ s_ s) 1).bind fun t2 =>
  match t2 with
  | .inl p => xT s_
  | .inr p => some p)
def wo (s_ : List (List Int)) : Option (List (List Int)) :=
 some s_
def Zl (out : List (List Int × Bool)) : Option (List (List Int) × Int) :=
 gd (∀ q ∈ out, q.2 = true) <|
 some ((out.map (·.1)), 0)
def Zk (al : List (List Int)) (a8 : List (List Int × Bool)) (ew : Int) : Option (LR ((List (List Int × Bool)) × Int) ((List (List Int × Bool)))) :=
 bif decide (ew < ((al.length - (0 : Int).toNat : Nat) : Int)) then (
  gd ((0 : Int) ≤ 0 ∧ (0 : Int) ≤ ew) <|
  (idx a8 (0 + ew)).bind fun dg =>
  (zT dg.1).bind fun av =>
  (y5 av).bind fun a9 =>
  (idx a8 ew).bind fun em =>
  some (.next ((a8.set ew.toNat (a9, true)), w64 (ew + 1))))
 else (
  some (.done a8))
def XP (l_ : List (List Int)) : Option (List (List Int) × Int) :=
 (ur l_).bind fun r_ =>
 (za4 (fun x y => vL x y) r_).bind fun sorted =>
 (wy sorted ()).bind fun ah =>
 (wo ah).bind fun al =>
 bif decide (((al.length : Nat) : Int) > 4096) then (
  some (([] : List (List Int)), 3))
 else (
  (jr al).bind fun ap =>
  bif decide (ap > 65536) then (
   some (([] : List (List Int)), 3))
  else (
   (loop (fun s => Zk al s.1 s.2) ((al.map fun q => (q, false)), 0)).bind fun t2 =>
   Zl t2))
def Ud (l_ : List (List Int)) (inputs : Int) : Option (List (List Int) × Int) :=
 (js l_ inputs).bind fun r_ =>
 bif r_ != 0 then (
  some (([] : List (List Int)), r_))
 else (
  (XP l_).bind fun ah =>
  some (ah.1, ah.2))
def qE (m_ : z6) (ai : List (List Int)) : Option (List (List Int) × Int) :=
 bif decide (((ai.length : Nat) : Int) > 4096) then (
  some (([] : List (List Int)), 3))
 else (
  (Ud ai m_.Inputs).bind fun al =>
  some (al.1, al.2))
def vV (ep : Int) (bm : List (Int × Bool)) (bu : List ((x5 Int) × Bool)) (bh : List (z8 × Bool)) (br : List (List Int)) : Option (LR ((List (Int × Bool)) × (List ((x5 Int) × Bool)) × (List (z8 × Bool)) × List (List Int) × Int) (List (List Int))) :=
 some (.next (bm, bu, bh, br, w64 (ep + 1)))
def qD (m_ : z6) (ap : List zb) (am : List (Int × Bool)) (aq : List ((x5 Int) × Bool)) (ar : List (z8 × Bool)) (a8 : List (List Int)) (ep : Int) : Option (LR ((List (Int × Bool)) × (List ((x5 Int) × Bool)) × (List (z8 × Bool)) × List (List Int) × Int) (List (List Int))) :=
 bif decide (ep < ((ap.length : Nat) : Int)) then (
  (idx ap ep).bind fun bt =>
  (W5 bt.has_ (zh.mk am aq ar)).bind fun av =>
  bif !av then (
   (xE m_ bt.word_ (zh.mk am aq ar)).bind fun a9 =>
   (zT bt.word_).bind fun ax =>
   (y5 ax).bind fun dm =>
   gd (a8.length + ([dm] : List (List Int)).length ≤ 4294967296) <|
   vV ep a9.states_ a9.edges_ a9.pairs_ (a8 ++ ([dm] : List (List Int))))
  else (
   vV ep am aq ar a8))
 else (
  some (.done a8))
def qG (m_ : z6) (goal : Int) (ah : zh) (out : List (List Int)) : Option (List (List Int) × Int) :=
 (v8 m_ goal).bind fun ap =>
 (loop (fun s => qD m_ ap s.1 s.2.1 s.2.2.1 s.2.2.2.1 s.2.2.2.2) (ah.states_, ah.edges_, ah.pairs_, out, 0)).bind fun t3 =>
 qE m_ t3
def qC (l_ : List (List Int)) (cr : List (List Int)) (gu : Int) : Option (LR (List (List Int) × Int) (List (List Int))) :=
 bif decide (gu < ((l_.length : Nat) : Int)) then (
  (idx l_ gu).bind fun bf =>
  (zT bf).bind fun dr =>
  (y5 dr).bind fun cm =>
  gd (cr.length + ([cm] : List (List Int)).length ≤ 4294967296) <|
  some (.next ((cr ++ ([cm] : List (List Int))), w64 (gu + 1))))
 else (
  some (.done cr))
def kq (m_ : z6) (l_ : List (List Int)) (goal : Int) : Option (List (List Int) × Int) :=
 (xW m_ l_).bind fun r_ =>
 bif r_ != 0 then (
  some (([] : List (List Int)), r_))
 else (
  bif decide (goal < 0) then (
   some (([] : List (List Int)), 1))
  else (
   bif decide (goal ≥ 3) then (
    some (([] : List (List Int)), 1))
   else (
    (yq m_ l_).bind fun ah =>
    gd ((0 : Int) ≤ ((l_.length : Nat) : Int) ∧ (((l_.length : Nat) : Int) : Int) ≤ 4294967296) <|
    (loop (fun s => qC l_ s.1 s.2) (([] : List (List Int)), 0)).bind fun t5 =>
    qG m_ goal ah t5)))
def jC (out : List Int) : Option (List Int) :=
 some out
def uK (db : Int) (a8 : List Int) : Option (LR (List Int × Int) (List Int)) :=
 some (.next (a8, w64 (db + 1)))
def jB (bq : List zb) (x_ : zh) (ai : List Int) (db : Int) : Option (LR (List Int × Int) (List Int)) :=
 bif decide (db < ((bq.length : Nat) : Int)) then (
  (idx bq db).bind fun fg =>
  (W5 fg.has_ x_).bind fun r_ =>
  bif r_ then (
   gd ((64 : Int) ≠ 0) <|
   (idx ai (w64 (Int.tdiv db 64))).bind fun dg =>
   gd ((64 : Int) ≠ 0) <|
   gd ((0 : Int) ≤ Int.tmod db 64) <|
   (idx ai (w64 (Int.tdiv db 64))).bind fun em =>
   uK db (ai.set (w64 (Int.tdiv db 64)).toNat (orK .u64 dg (z8F .u64 1 (Int.tmod db 64)))))
  else (
   uK db ai))
 else (
  some (.done ai))
def uV (bq : List zb) (x_ : zh) : Option (List Int) :=
 gd ((64 : Int) ≠ 0) <|
 gd ((0 : Int) ≤ w64 ((w64 (Int.tdiv ((bq.length : Nat) : Int) 64)) + 1) ∧ (w64 ((w64 (Int.tdiv ((bq.length : Nat) : Int) 64)) + 1) : Int) ≤ 4294967296) <|
 (loop (fun s => jB bq x_ s.1 s.2) ((List.replicate (w64 ((w64 (Int.tdiv ((bq.length : Nat) : Int) 64)) + 1)).toNat (0 : Int)), 0)).bind fun t2 =>
 jC t2
def we : Option Bool :=
 some true
def wc (s1 : List Int) (s2 : List Int) (ga : Int) : Option (LR Int (Unit ⊕ Bool)) :=
 bif decide (ga < ((s1.length : Nat) : Int)) then (
  (idx s1 ga).bind fun gp =>
  (idx s2 ga).bind fun fx =>
  bif gp != fx then (
   some (.done (.inr false)))
  else (
   some (.next (w64 (ga + 1)))))
 else (
  some (.done (.inl ())))
def wJ (s1 : List Int) (s2 : List Int) : Option Bool :=
 bif ((s1.length : Nat) : Int) != ((s2.length : Nat) : Int) then (
  some false)
 else (
  (loop (fun s => wc s1 s2 s) 0).bind fun t2 =>
  match t2 with
  | .inl p => we
  | .inr p => some p)
def wK (s_ : List Int) : Option (List Int) :=
 gd (([] : List Int).length + s_.length ≤ 4294967296) <|
 some s_
def wF : Option (List Int × Bool) :=
 some (([] : List Int), false)
def wD (i_ : Int) : Option (LR Int (Unit ⊕ (List Int × Bool))) :=
 some (.next (w64 (i_ + 1)))
def wC (c_ : zz) (many : Int) (dp : zz → (List Int) → Int → Int → Option (List Int × Bool)) (i_ : Int) (ez : List Int) : Option (LR Int (Unit ⊕ (List Int × Bool))) :=
 (dp c_ ez (w64 (i_ + 1)) (w64 (many - 1))).bind fun al =>
 bif al.2 then (
  gd (([i_] : List Int).length + al.1.length ≤ 4294967296) <|
  some (.done (.inr ((([i_]) ++ al.1), true))))
 else (
  wD i_)
def wz (cu : List Int) (dl : List Int) (de : Int) : Option (LR (List Int × Int) (List Int)) :=
 bif decide (de < ((cu.length : Nat) : Int)) then (
  (idx cu de).bind fun fc =>
  (idx dl de).bind fun fq =>
  (idx dl de).bind fun ie =>
  some (.next ((dl.set de.toNat (orK .u64 fq fc)), w64 (de + 1))))
 else (
  some (.done dl))
def wB (c_ : zz) (bw : List Int) (many : Int) (dp : zz → (List Int) → Int → Int → Option (List Int × Bool)) (i_ : Int) : Option (LR Int (Unit ⊕ (List Int × Bool))) :=
 bif decide ((w64 (i_ + many)) ≤ ((c_.sets_.length : Nat) : Int)) then (
  (wK bw).bind fun ah =>
  (idx c_.sets_ i_).bind fun cu =>
  (loop (fun s => wz cu s.1 s.2) (ah, 0)).bind fun t5 =>
  wC c_ many dp i_ t5)
 else (
  some (.done (.inl ())))
def wO (dp : zz → (List Int) → Int → Int → Option (List Int × Bool)) (c_ : zz) (bw : List Int) (from_ : Int) (many : Int) : Option (List Int × Bool) :=
 bif many == 0 then (
  (wJ bw c_.want_).bind fun r_ =>
  some (([] : List Int), r_))
 else (
  (loop (fun s => wB c_ bw many dp s) from_).bind fun t2 =>
  match t2 with
  | .inl p => wF
  | .inr p => some p)
def uN (fu : Nat) : zz → (List Int) → Int → Int → Option (List Int × Bool) := Nat.rec (motive := fun _ => zz → (List Int) → Int → Int → Option (List Int × Bool)) (fun _ _ _ _ => none) (fun _ ih => wO ih) fu
def qL (c_ : zz) (bw : List Int) (from_ : Int) (many : Int) : Option (List Int × Bool) := uN (many.toNat + 1) c_ bw from_ many
def qA : Option (List (List Int) × Int) :=
 some (([] : List (List Int)), 0)
def qz (d0 : Int) : Option (LR Int (Unit ⊕ (List (List Int) × Int))) :=
 some (.next (w64 (d0 + 1)))
def qw (ax : List Int × Bool) (out : List (List Int)) : Option (LR Int (Unit ⊕ (List (List Int) × Int))) :=
 gd (out.length = ((ax.1.length : Nat) : Int).toNat) <|
 some (.done (.inr (out, 0)))
def qt (l_ : List (List Int)) (ax : List Int × Bool) (ai : List (List Int)) (gv : Int) : Option (LR (List (List Int) × Int) (List (List Int))) :=
 bif decide (gv < ((ax.1.length : Nat) : Int)) then (
  (idx ax.1 gv).bind fun u_ =>
  (idx l_ u_).bind fun bf =>
  (zT bf).bind fun dm =>
  (y5 dm).bind fun dr =>
  gd (ai.length + ([dr] : List (List Int)).length ≤ ((ax.1.length : Nat) : Int).toNat) <|
  some (.next ((ai ++ ([dr] : List (List Int))), w64 (gv + 1))))
 else (
  some (.done ai))
def qu (l_ : List (List Int)) (ah : List zb) (ap : List Int) (cg : List (List Int)) (d0 : Int) : Option (LR Int (Unit ⊕ (List (List Int) × Int))) :=
 bif decide (d0 < (w64 (((l_.length : Nat) : Int) + 1))) then (
  (uU).bind fun av =>
  (uV ah av).bind fun a9 =>
  (qL (zz.mk cg ap) a9 0 d0).bind fun ax =>
  bif !ax.2 then (
   qz d0)
  else (
   gd ((0 : Int) ≤ ((ax.1.length : Nat) : Int) ∧ (((ax.1.length : Nat) : Int) : Int) ≤ 4294967296) <|
   (loop (fun s => qt l_ ax s.1 s.2) (([] : List (List Int)), 0)).bind fun t6 =>
   qw ax t6))
 else (
  some (.done (.inl ())))
def qB (l_ : List (List Int)) (ah : List zb) (ap : List Int) (cg : List (List Int)) : Option (List (List Int) × Int) :=
 (loop (fun s => qu l_ ah ap cg s) 0).bind fun t3 =>
 match t3 with
 | .inl p => qA
 | .inr p => some p
def qr (m_ : z6) (l_ : List (List Int)) (ah : List zb) (cq : List (List Int)) (de : Int) : Option (LR (List (List Int) × Int) (List (List Int))) :=
 bif decide (de < ((l_.length : Nat) : Int)) then (
  (idx l_ de).bind fun cn =>
  (yq m_ ([cn])).bind fun cm =>
  (uV ah cm).bind fun fe =>
  gd (cq.length + ([fe] : List (List Int)).length ≤ 4294967296) <|
  some (.next ((cq ++ ([fe] : List (List Int))), w64 (de + 1))))
 else (
  some (.done cq))
def kp (m_ : z6) (l_ : List (List Int)) (goal : Int) : Option (List (List Int) × Int) :=
 (xW m_ l_).bind fun r_ =>
 bif r_ != 0 then (
  some (([] : List (List Int)), r_))
 else (
  bif decide (goal < 0) then (
   some (([] : List (List Int)), 1))
  else (
   bif decide (goal ≥ 3) then (
    some (([] : List (List Int)), 1))
   else (
    bif decide (((l_.length : Nat) : Int) > 16) then (
     some (([] : List (List Int)), 3))
    else (
     (v8 m_ goal).bind fun ah =>
     (yq m_ l_).bind fun al =>
     (uV ah al).bind fun ap =>
     (loop (fun s => qr m_ l_ ah s.1 s.2) (([] : List (List Int)), 0)).bind fun t7 =>
     qB l_ ah ap t7))))
def uc (i_ : Int) : Option (List UInt8) :=
 bif decide (i_ < 10) then (
  gd ((0 : Int) ≤ i_ ∧ (i_ : Int) ≤ w64 (i_ + 1) ∧ (w64 (i_ + 1) : Int) ≤ ((([48, 49, 50, 51, 52, 53, 54, 55, 56, 57, 97, 98, 99, 100, 101, 102, 103, 104, 105, 106, 107, 108, 109, 110, 111, 112, 113, 114, 115, 116, 117, 118, 119, 120, 121, 122] : List UInt8).length : Nat) : Int)) <|
  some ((([48, 49, 50, 51, 52, 53, 54, 55, 56, 57, 97, 98, 99, 100, 101, 102, 103, 104, 105, 106, 107, 108, 109, 110, 111, 112, 113, 114, 115, 116, 117, 118, 119, 120, 121, 122] : List UInt8).take (w64 (i_ + 1)).toNat).drop i_.toNat))
 else (
  gd ((0 : Int) ≤ w64 (i_ * 2) ∧ (w64 (i_ * 2) : Int) ≤ w64 ((w64 (i_ * 2)) + 2) ∧ (w64 ((w64 (i_ * 2)) + 2) : Int) ≤ ((([48, 48, 48, 49, 48, 50, 48, 51, 48, 52, 48, 53, 48, 54, 48, 55, 48, 56, 48, 57, 49, 48, 49, 49, 49, 50, 49, 51, 49, 52, 49, 53, 49, 54, 49, 55, 49, 56, 49, 57, 50, 48, 50, 49, 50, 50, 50, 51, 50, 52, 50, 53, 50, 54, 50, 55, 50, 56, 50, 57, 51, 48, 51, 49, 51, 50, 51, 51, 51, 52, 51, 53, 51, 54, 51, 55, 51, 56, 51, 57, 52, 48, 52, 49, 52, 50, 52, 51, 52, 52, 52, 53, 52, 54, 52, 55, 52, 56, 52, 57, 53, 48, 53, 49, 53, 50, 53, 51, 53, 52, 53, 53, 53, 54, 53, 55, 53, 56, 53, 57, 54, 48, 54, 49, 54, 50, 54, 51, 54, 52, 54, 53, 54, 54, 54, 55, 54, 56, 54, 57, 55, 48, 55, 49, 55, 50, 55, 51, 55, 52, 55, 53, 55, 54, 55, 55, 55, 56, 55, 57, 56, 48, 56, 49, 56, 50, 56, 51, 56, 52, 56, 53, 56, 54, 56, 55, 56, 56, 56, 57, 57, 48, 57, 49, 57, 50, 57, 51, 57, 52, 57, 53, 57, 54, 57, 55, 57, 56, 57, 57] : List UInt8).length : Nat) : Int)) <|
  some ((([48, 48, 48, 49, 48, 50, 48, 51, 48, 52, 48, 53, 48, 54, 48, 55, 48, 56, 48, 57, 49, 48, 49, 49, 49, 50, 49, 51, 49, 52, 49, 53, 49, 54, 49, 55, 49, 56, 49, 57, 50, 48, 50, 49, 50, 50, 50, 51, 50, 52, 50, 53, 50, 54, 50, 55, 50, 56, 50, 57, 51, 48, 51, 49, 51, 50, 51, 51, 51, 52, 51, 53, 51, 54, 51, 55, 51, 56, 51, 57, 52, 48, 52, 49, 52, 50, 52, 51, 52, 52, 52, 53, 52, 54, 52, 55, 52, 56, 52, 57, 53, 48, 53, 49, 53, 50, 53, 51, 53, 52, 53, 53, 53, 54, 53, 55, 53, 56, 53, 57, 54, 48, 54, 49, 54, 50, 54, 51, 54, 52, 54, 53, 54, 54, 54, 55, 54, 56, 54, 57, 55, 48, 55, 49, 55, 50, 55, 51, 55, 52, 55, 53, 55, 54, 55, 55, 55, 56, 55, 57, 56, 48, 56, 49, 56, 50, 56, 51, 56, 52, 56, 53, 56, 54, 56, 55, 56, 56, 56, 57, 57, 48, 57, 49, 57, 50, 57, 51, 57, 52, 57, 53, 57, 54, 57, 55, 57, 56, 57, 57] : List UInt8).take (w64 ((w64 (i_ * 2)) + 2)).toNat).drop (w64 (i_ * 2)).toNat))
def yR (u_ : Int) : Option (List UInt8) :=
 none
def yS (i_ : Int) : Option (List UInt8) :=
 bif decide (i_ < 0) then (
  yR (IntKind.u64.wrap (0 - (IntKind.u64.wrap (i_)))))
 else (
  yR (IntKind.u64.wrap (i_)))
def wM (i_ : Int) (base : Int) : Option (List UInt8) :=
 bif base == 10 then (
  bif decide (0 ≤ i_) then (
   bif decide (i_ < 100) then (
    (uc i_).bind fun r_ =>
    some r_)
   else (
    yS i_))
  else (
   yS i_))
 else (
  none)
def uu (i_ : Int) : Option (List UInt8) :=
 (wM i_ 10).bind fun r_ =>
 some r_
def vI (i_ : Int) : Option (List UInt8) :=
 (uu i_).bind fun r_ =>
 some r_
def jD (s_ : List UInt8) : Option (List UInt8) :=
 some s_
def Ye (c_ : yb) : Option (List UInt8) :=
 (vI c_.States.e0).bind fun r_ =>
 gd (([115, 116, 97, 116, 101, 115, 32] : List UInt8).length + r_.length ≤ 4611686018427387904) <|
 gd ((([115, 116, 97, 116, 101, 115, 32] : List UInt8) ++ r_).length + ([47] : List UInt8).length ≤ 4611686018427387904) <|
 (vI c_.States.e1).bind fun ah =>
 gd (((([115, 116, 97, 116, 101, 115, 32] : List UInt8) ++ r_) ++ ([47] : List UInt8)).length + ah.length ≤ 4611686018427387904) <|
 gd (([] : List UInt8).length + (((([115, 116, 97, 116, 101, 115, 32] : List UInt8) ++ r_) ++ ([47] : List UInt8)) ++ ah).length ≤ 4611686018427387904) <|
 (vI c_.Edges.e0).bind fun al =>
 gd (([44, 32, 101, 100, 103, 101, 115, 32] : List UInt8).length + al.length ≤ 4611686018427387904) <|
 gd ((([44, 32, 101, 100, 103, 101, 115, 32] : List UInt8) ++ al).length + ([47] : List UInt8).length ≤ 4611686018427387904) <|
 (vI c_.Edges.e1).bind fun ap =>
 gd (((([44, 32, 101, 100, 103, 101, 115, 32] : List UInt8) ++ al) ++ ([47] : List UInt8)).length + ap.length ≤ 4611686018427387904) <|
 gd ((([] : List UInt8) ++ (((([115, 116, 97, 116, 101, 115, 32] : List UInt8) ++ r_) ++ ([47] : List UInt8)) ++ ah)).length + (((([44, 32, 101, 100, 103, 101, 115, 32] : List UInt8) ++ al) ++ ([47] : List UInt8)) ++ ap).length ≤ 4611686018427387904) <|
 (vI c_.Pairs.e0).bind fun av =>
 gd (([44, 32, 112, 97, 105, 114, 115, 32] : List UInt8).length + av.length ≤ 4611686018427387904) <|
 gd ((([44, 32, 112, 97, 105, 114, 115, 32] : List UInt8) ++ av).length + ([47] : List UInt8).length ≤ 4611686018427387904) <|
 (vI c_.Pairs.e1).bind fun a9 =>
 gd (((([44, 32, 112, 97, 105, 114, 115, 32] : List UInt8) ++ av) ++ ([47] : List UInt8)).length + a9.length ≤ 4611686018427387904) <|
 gd (((([] : List UInt8) ++ (((([115, 116, 97, 116, 101, 115, 32] : List UInt8) ++ r_) ++ ([47] : List UInt8)) ++ ah)) ++ (((([44, 32, 101, 100, 103, 101, 115, 32] : List UInt8) ++ al) ++ ([47] : List UInt8)) ++ ap)).length + (((([44, 32, 112, 97, 105, 114, 115, 32] : List UInt8) ++ av) ++ ([47] : List UInt8)) ++ a9).length ≤ 4611686018427387904) <|
 jD (((([] : List UInt8) ++ (((([115, 116, 97, 116, 101, 115, 32] : List UInt8) ++ r_) ++ ([47] : List UInt8)) ++ ah)) ++ (((([44, 32, 101, 100, 103, 101, 115, 32] : List UInt8) ++ al) ++ ([47] : List UInt8)) ++ ap)) ++ (((([44, 32, 112, 97, 105, 114, 115, 32] : List UInt8) ++ av) ++ ([47] : List UInt8)) ++ a9))
def X2 : Option Bool :=
 some true
def X1 (a_ : List (List Int)) (b_ : List (List Int)) (i_ : Int) : Option (LR Int (Unit ⊕ Bool)) :=
 bif decide (i_ < ((a_.length : Nat) : Int)) then (
  (idx a_ i_).bind fun ft =>
  (idx b_ i_).bind fun fw =>
  (vR ft fw).bind fun r_ =>
  bif r_ != 0 then (
   some (.done (.inr false)))
  else (
   some (.next (w64 (i_ + 1)))))
 else (
  some (.done (.inl ())))
def Wi (a_ : List (List Int)) (b_ : List (List Int)) : Option Bool :=
 bif ((a_.length : Nat) : Int) != ((b_.length : Nat) : Int) then (
  some false)
 else (
  (loop (fun s => X1 a_ b_ s) 0).bind fun t2 =>
  match t2 with
  | .inl p => X2
  | .inr p => some p)
def X5 : Option Bool :=
 (W3).bind fun r_ =>
 (Y2 r_ []).bind fun ah =>
 (Y2 r_ ([[1], [0, 0, 1]])).bind fun al =>
 (vE r_ ([[1], [0, 0, 1]])).bind fun ap =>
 (kq r_ [] 1).bind fun av =>
 (kp r_ ([[0], [1], [0, 0], [0, 1, 1]]) 1).bind fun a9 =>
 bif ah.2 == 0 then (
  bif al.2 == 0 then (
   bif ap.2 == 0 then (
    bif av.2 == 0 then (
     bif a9.2 == 0 then (
      bif (ah.1.States.e0 == 1) && ((ah.1.States.e1 == 2) && ((ah.1.Edges.e0 == 0) && ((ah.1.Edges.e1 == 4) && ((ah.1.Pairs.e0 == 0) && ((ah.1.Pairs.e1 == 8) && true))))) then (
       (Ye ah.1).bind fun ax =>
       bif ax == ([115, 116, 97, 116, 101, 115, 32, 49, 47, 50, 44, 32, 101, 100, 103, 101, 115, 32, 48, 47, 52, 44, 32, 112, 97, 105, 114, 115, 32, 48, 47, 56] : List UInt8) then (
        bif (al.1.States.e0 == 2) && ((al.1.States.e1 == 2) && ((al.1.Edges.e0 == 3) && ((al.1.Edges.e1 == 4) && ((al.1.Pairs.e0 == 2) && ((al.1.Pairs.e1 == 8) && true))))) then (
         bif ((ap.1.length : Nat) : Int) == 1 then (
          (idx ap.1 0).bind fun u_ =>
          bif (u_.e0 == 1) && ((u_.e1 == 1) && true) then (
           (Wi av.1 ([[0], [1], [0, 0], [0, 1]])).bind fun dm =>
           bif dm then (
            (Wi a9.1 ([[1], [0, 0], [0, 1, 1]])).bind fun dr =>
            some dr)
           else (
            some false))
          else (
           some false))
         else (
          some false))
        else (
         some false))
       else (
        some false))
      else (
       some false))
     else (
      some false))
    else (
     some false))
   else (
    some false))
  else (
   some false))
 else (
  some false)
def xK : Option Bool :=
 (X5).bind fun dm =>
 some dm
def yM (ap : List z8 × Int) (ax : List za) (i_ : Int) : Option (LR Int (Unit ⊕ Bool)) :=
 bif decide (i_ < ((ap.1.length : Nat) : Int)) then (
  (idx ap.1 i_).bind fun u_ =>
  (idx ax i_).bind fun bt =>
  (idx ax i_).bind fun dx =>
  (idx ax i_).bind fun io =>
  bif !((u_.State == bt.State) && ((u_.Input == dx.Input) && ((u_.Next == io.Next) && true))) then (
   some (.done (.inr false)))
  else (
   some (.next (w64 (i_ + 1)))))
 else (
  some (.done (.inl ())))
def xL (ap : List z8 × Int) (ax : List za) : Option Bool :=
 (loop (fun s => yM ap ax s) 0).bind fun t5 =>
 match t5 with
 | .inl p => xK
 | .inr p => some p
def yK (al : List (x5 Int) × Int) (a9 : List za) (fz : Int) : Option (LR Int (Unit ⊕ Bool)) :=
 bif decide (fz < ((al.1.length : Nat) : Int)) then (
  (idx al.1 fz).bind fun ee =>
  (idx a9 fz).bind fun ip =>
  (idx a9 fz).bind fun iq =>
  bif !((ee.e0 == ip.State) && ((ee.e1 == iq.Input) && true)) then (
   some (.done (.inr false)))
  else (
   some (.next (w64 (fz + 1)))))
 else (
  some (.done (.inl ())))
def xM (al : List (x5 Int) × Int) (ap : List z8 × Int) (a9 : List za) (ax : List za) : Option Bool :=
 (loop (fun s => yK al a9 s) 0).bind fun t6 =>
 match t6 with
 | .inl p => xL ap ax
 | .inr p => some p
def yI (ah : List Int × Int) (av : List za) (gb : Int) : Option (LR Int (Unit ⊕ Bool)) :=
 bif decide (gb < ((ah.1.length : Nat) : Int)) then (
  (idx ah.1 gb).bind fun gq =>
  (idx av gb).bind fun ir =>
  bif gq != ir.State then (
   some (.done (.inr false)))
  else (
   some (.next (w64 (gb + 1)))))
 else (
  some (.done (.inl ())))
def yl (ah : List Int × Int) (al : List (x5 Int) × Int) (ap : List z8 × Int) (av : List za) (a9 : List za) (ax : List za) : Option Bool :=
 (loop (fun s => yI ah av s) 0).bind fun t7 =>
 match t7 with
 | .inl p => xM al ap a9 ax
 | .inr p => some p
def wI (x_ : wn) : Option Bool :=
 (Zf (wn.mk x_.M x_.L)).bind fun r_ =>
 (u4 r_.1 r_.2).bind fun ah =>
 (vE r_.1 r_.2).bind fun al =>
 (uz r_.1 r_.2).bind fun ap =>
 (vP r_.1 r_.2 0).bind fun av =>
 (vP r_.1 r_.2 1).bind fun a9 =>
 (vP r_.1 r_.2 2).bind fun ax =>
 bif ah.2 != 0 then (
  some false)
 else (
  bif al.2 != 0 then (
   some false)
  else (
   bif ap.2 != 0 then (
    some false)
   else (
    bif ((ah.1.length : Nat) : Int) != ((av.length : Nat) : Int) then (
     some false)
    else (
     bif ((al.1.length : Nat) : Int) != ((a9.length : Nat) : Int) then (
      some false)
     else (
      bif ((ap.1.length : Nat) : Int) != ((ax.length : Nat) : Int) then (
       some false)
      else (
       bif ((ah.1.length : Nat) : Int) != ((ah.1.length : Nat) : Int) then (
        some false)
       else (
        bif ((al.1.length : Nat) : Int) != ((al.1.length : Nat) : Int) then (
         some false)
        else (
         bif ((ap.1.length : Nat) : Int) != ((ap.1.length : Nat) : Int) then (
          some false)
         else (
          bif ((al.1.length : Nat) : Int) == 0 then (
           bif decide (((ah.1.length : Nat) : Int) > 0) then (
            some false)
           else (
            yl ah al ap av a9 ax))
          else (
           yl ah al ap av a9 ax))))))))))
abbrev F0_ := VA (eI .i64)
abbrev F1_ := eSl 1 false (eI .u8)
abbrev F2_ := eSl 1 true (eI .i64)
abbrev F3_ := eOs 1 true (eI .i64)
abbrev F4_ := eSl 1 true (eI .u64)
abbrev F5_ := eSl 1 false (eI .u16)
abbrev F6_ := eOs 1 false (eI .i64)
abbrev F7_ := eSl 1 false (eI .i64)
abbrev F8_ := eSl 1 false (eI .u64)
abbrev F9_ := wS (eI .i64) (eI .i64)
abbrev z4o := eSl 1 true F2_
abbrev zbo := eSl 1 true F7_
abbrev z6C := eOs 1 false F7_
abbrev Zh := eSl 1 false F7_
abbrev zij := eSl 1 false F8_
abbrev xX := vK (eI .i64) (eI .i64) (eI .i64)
abbrev zhr := eSl 2 true F9_
abbrev ue := eSl 2 false F9_
abbrev z14 := eOs 2 false F9_
abbrev qP := ZH (eI .i64) (eI .i64) (eI .i64)
abbrev zD := y3 (eI .i64) (eI .i64) (eI .i64)
abbrev zii := eSl 1 true zhr
abbrev zih := eSl 1 false ue
abbrev Kx := uT (eI .u8) (eI .u8) (eI .u8) eB F5_
abbrev zeB := xi F0_ F0_ F0_
abbrev z9f := yX zij F8_
abbrev zen := eSp z9f
abbrev zbn := vT (eI .i64) (eI .i64) zii
abbrev yj := vT (eI .i64) (eI .i64) zih
abbrev z8x := eSp yj
def rpN {α : Type _} (n : Nat) (a : α) (l : List α) : List α := Nat.rec l (fun _ r => a :: r) n
abbrev aLn (n : Nat) : H := .a (.atom (.int .i64 ((n : Nat) : Int)))
end Go.Own

namespace Go.Proofs
open Go.Shelf
def Tryz.so66_ren : Go.Shelf.Ren := ⟨fun | 6 => 66 | 15 => 80 | 14 => 79 | 28 => 99 | 29 => 100 | 20 => 91 | 21 => 92 | 22 => 93 | 23 => 94 | 24 => 95 | 25 => 96 | 26 => 97 | 27 => 98 | 46 => 106 | 47 => 107 | 48 => 108 | 49 => 109 | 50 => 110 | 57 => 113 | n => n, fun | 22 => 31 | 24 => 51 | 25 => 85 | 3 => 3 | 39 => 144 | 0 => 0 | 53 => 165 | 55 => 117 | 4 => 4 | 46 => 158 | 45 => 157 | 50 => 162 | 5 => 5 | 9 => 9 | 66 => 169 | 70 => 173 | 76 => 175 | 77 => 176 | n => n, fun | n => n⟩
theorem Tryz.so66 : Go.Proofs.SlLaysF0.n6 Tryz.prog Tryz.so66_ren := {
 mixed := by kernel_rfl
 f6 := ⟨Tryz.f66.name, by decide, Tryz.func66.trans (congrArg some (by kernel_rfl))⟩
 f14 := ⟨Tryz.f79.name, by decide, Tryz.func79.trans (congrArg some (by kernel_rfl))⟩
 f15 := Tryz.func80.trans (congrArg some (by kernel_rfl))
 f20 := ⟨Tryz.f91.name, by decide, Tryz.func91.trans (congrArg some (by kernel_rfl))⟩
 f21 := ⟨Tryz.f92.name, by decide, Tryz.func92.trans (congrArg some (by kernel_rfl))⟩
 f22 := ⟨Tryz.f93.name, by decide, Tryz.func93.trans (congrArg some (by kernel_rfl))⟩
 f23 := ⟨Tryz.f94.name, by decide, Tryz.func94.trans (congrArg some (by kernel_rfl))⟩
 f24 := ⟨Tryz.f95.name, by decide, Tryz.func95.trans (congrArg some (by kernel_rfl))⟩
 f25 := ⟨Tryz.f96.name, by decide, Tryz.func96.trans (congrArg some (by kernel_rfl))⟩
 f26 := ⟨Tryz.f97.name, by decide, Tryz.func97.trans (congrArg some (by kernel_rfl))⟩
 f27 := ⟨Tryz.f98.name, by decide, Tryz.func98.trans (congrArg some (by kernel_rfl))⟩
 f28 := Tryz.func99.trans (congrArg some (by kernel_rfl))
 f29 := Tryz.func100.trans (congrArg some (by kernel_rfl))
 f46 := ⟨Tryz.f106.name, by decide, Tryz.func106.trans (congrArg some (by kernel_rfl))⟩
 f47 := Tryz.func107.trans (congrArg some (by kernel_rfl))
 f48 := Tryz.func108.trans (congrArg some (by kernel_rfl))
 f49 := ⟨Tryz.f109.name, by decide, Tryz.func109.trans (congrArg some (by kernel_rfl))⟩
 f50 := ⟨Tryz.f110.name, by decide, Tryz.func110.trans (congrArg some (by kernel_rfl))⟩
 f57 := ⟨Tryz.f113.name, by decide, Tryz.func113.trans (congrArg some (by kernel_rfl))⟩
 t0 := Tryz.underlying0
 a0 := Tryz.isAgg0
 z0 := Tryz.sizeOf0
 v0 := Tryz.zeroValue0
 t3 := Tryz.underlying3
 a3 := Tryz.isAgg3
 z3 := Tryz.sizeOf3
 v3 := Tryz.zeroValue3
 t4 := Tryz.underlying4
 a4 := Tryz.isAgg4
 z4 := Tryz.sizeOf4
 v4 := Tryz.zeroValue4
 t5 := Tryz.underlying5
 a5 := Tryz.isAgg5
 z5 := Tryz.sizeOf5
 v5 := Tryz.zeroValue5
 t9 := Tryz.underlying9
 a9 := Tryz.isAgg9
 z9 := Tryz.sizeOf9
 v9 := Tryz.zeroValue9
 t22 := Tryz.underlying31
 a22 := Tryz.isAgg31
 z22 := Tryz.sizeOf31
 v22 := Tryz.zeroValue31
 t25 := Tryz.underlying85
 a25 := Tryz.isAgg85
 z25 := Tryz.sizeOf85
 v25 := Tryz.zeroValue85
 t39 := Tryz.underlying144
 a39 := Tryz.isAgg144
 z39 := Tryz.sizeOf144
 v39 := Tryz.zeroValue144
 t45 := Tryz.underlying157
 a45 := Tryz.isAgg157
 z45 := Tryz.sizeOf157
 v45 := Tryz.zeroValue157
 t46 := Tryz.underlying158
 a46 := Tryz.isAgg158
 z46 := Tryz.sizeOf158
 v46 := Tryz.zeroValue158
 t50 := Tryz.underlying162
 a50 := Tryz.isAgg162
 z50 := Tryz.sizeOf162
 v50 := Tryz.zeroValue162
 t53 := Tryz.underlying165
 a53 := Tryz.isAgg165
 z53 := Tryz.sizeOf165
 v53 := Tryz.zeroValue165
 t55 := Tryz.underlying117
 a55 := Tryz.isAgg117
 z55 := Tryz.sizeOf117
 v55 := Tryz.zeroValue117
 t66 := Tryz.underlying169
 a66 := Tryz.isAgg169
 z66 := Tryz.sizeOf169
 v66 := Tryz.zeroValue169
 t70 := Tryz.underlying173
 a70 := Tryz.isAgg173
 z70 := Tryz.sizeOf173
 v70 := Tryz.zeroValue173
 t76 := Tryz.underlying175
 a76 := Tryz.isAgg175
 z76 := Tryz.sizeOf175
 v76 := Tryz.zeroValue175
 t77 := Tryz.underlying176
 a77 := Tryz.isAgg176
 z77 := Tryz.sizeOf176
 v77 := Tryz.zeroValue176 }
end Go.Proofs
