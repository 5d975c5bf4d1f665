/- -/
import Derived.Test.YtdnenbcldibnoaaPartB
import Derived.Test.YtdnenbcldibnoaaProg
import Derived.Test.YtdnenbcldibnoaaPartC
import Derived.Test.YtdnenbcldibnoaaPartD
import Derived.Shelf.SlSortCmp.NoneTotal
import Derived.Ground.SlsfProg
set_option linter.unusedVariables false
set_option linter.unusedSimpArgs false
namespace Go.Ex
open Go.Proofs
def i64 : EI := ⟨.func, 1, 8, some [.nilFunc], false⟩
theorem q5 : EqP Try.prog 5 [.int .u8 0] false 1 := z3Z (k := .int .u8) Try.underlying5 ⟨_, (by kernel_rfl : Try.prog.info? 5 = some Try.t5), rfl⟩ rfl
theorem q65 : EqP Try.prog 65 (z4o 2 [.int .u8 0]) true 2 := Xw Try.underlying65 q5 ⟨_, (by kernel_rfl : Try.prog.info? 65 = some Try.t65), rfl⟩
def i65 : EI := ⟨.array 2 5, 2, 2, some [.int .u8 0, .int .u8 0], true⟩
theorem zbm : z4G Try.prog 65 i65 := ⟨⟨Try.t65, by kernel_rfl, rfl, rfl, fun z h => by cases h; exact ⟨_, rfl, rfl, Y9 rfl, rfl, ⟨_, rfl⟩⟩⟩, Try.underlying65, fun _ => ju q65 rfl rfl (Nat.le_of_ble_eq_true (by kernel_rfl)) (by decide)⟩
theorem q3 : EqP Try.prog 3 [.int .i64 0] false 1 := z3Z (k := .int .i64) Try.underlying3 ⟨_, (by kernel_rfl : Try.prog.info? 3 = some Try.t3), rfl⟩ rfl
theorem q66 : EqP Try.prog 66 (Zk [([.int .i64 0], false), ([.int .i64 0], false)]) true 2 := qo Try.underlying66 (by kernel_rfl) ⟨_, (by kernel_rfl : Try.prog.info? 66 = some Try.t66), rfl⟩ (by decide) (zL.cons (by decide) rfl (q3.mono (by decide)) (zL.cons (by decide) rfl (q3.mono (by decide)) (zL.nil)))
def i66 : EI := ⟨.struct [(0, 3), (1, 3)], 2, 16, some [.int .i64 0, .int .i64 0], true⟩
theorem zee : z4G Try.prog 66 i66 := ⟨⟨Try.t66, by kernel_rfl, rfl, rfl, fun z h => by cases h; exact ⟨_, rfl, rfl, Y9 rfl, rfl, ⟨_, rfl⟩⟩⟩, ⟨_, Try.underlying66, by kernel_rfl, by
  intro f hf
  simp only [List.mem_cons, List.not_mem_nil, or_false] at hf
  rcases hf with rfl | rfl
  ·exact ⟨Try.t3, by kernel_rfl⟩
  ·exact ⟨Try.t3, by kernel_rfl⟩⟩, fun _ => ju q66 rfl rfl (Nat.le_of_ble_eq_true (by kernel_rfl)) (by decide)⟩
theorem q67 : EqP Try.prog 67 (Zk [([.int .i64 0], false), ([.int .i64 0], false)]) true 2 := qo Try.underlying67 (by kernel_rfl) ⟨_, (by kernel_rfl : Try.prog.info? 67 = some Try.t67), rfl⟩ (by decide) (zL.cons (by decide) rfl (q3.mono (by decide)) (zL.cons (by decide) rfl (q3.mono (by decide)) (zL.nil)))
def i67 : EI := ⟨.struct [(0, 3), (1, 3)], 2, 16, some [.int .i64 0, .int .i64 0], true⟩
theorem zbl : z4G Try.prog 67 i67 := ⟨⟨Try.t67, by kernel_rfl, rfl, rfl, fun z h => by cases h; exact ⟨_, rfl, rfl, Y9 rfl, rfl, ⟨_, rfl⟩⟩⟩, ⟨_, Try.underlying67, by kernel_rfl, by
  intro f hf
  simp only [List.mem_cons, List.not_mem_nil, or_false] at hf
  rcases hf with rfl | rfl
  ·exact ⟨Try.t3, by kernel_rfl⟩
  ·exact ⟨Try.t3, by kernel_rfl⟩⟩, fun _ => ju q67 rfl rfl (Nat.le_of_ble_eq_true (by kernel_rfl)) (by decide)⟩
theorem q95 : EqP Try.prog 95 (z4o 2 [.int .i64 0]) true 2 := Xw Try.underlying95 q3 ⟨_, (by kernel_rfl : Try.prog.info? 95 = some Try.t95), rfl⟩
def i95 : EI := ⟨.array 2 3, 2, 16, some [.int .i64 0, .int .i64 0], true⟩
theorem z8L : z4G Try.prog 95 i95 := ⟨⟨Try.t95, by kernel_rfl, rfl, rfl, fun z h => by cases h; exact ⟨_, rfl, rfl, Y9 rfl, rfl, ⟨_, rfl⟩⟩⟩, Try.underlying95, fun _ => ju q95 rfl rfl (Nat.le_of_ble_eq_true (by kernel_rfl)) (by decide)⟩
theorem zeC : EqP Try.prog 103 (z4o 4 [.int .u8 0]) true 2 := Xw Try.underlying103 q5 ⟨_, (by kernel_rfl : Try.prog.info? 103 = some Try.t103), rfl⟩
def zeN : EI := ⟨.array 4 5, 4, 4, some [.int .u8 0, .int .u8 0, .int .u8 0, .int .u8 0], true⟩
theorem zdh : z4G Try.prog 103 zeN := ⟨⟨Try.t103, by kernel_rfl, rfl, rfl, fun z h => by cases h; exact ⟨_, rfl, rfl, Y9 rfl, rfl, ⟨_, rfl⟩⟩⟩, Try.underlying103, fun _ => ju zeC rfl rfl (Nat.le_of_ble_eq_true (by kernel_rfl)) (by decide)⟩
theorem zeB : EqP Try.prog 146 (Zk [([.int .i64 0], false), ([.int .i64 0], false), ([.int .i64 0, .int .i64 0], true), ([.int .i64 0, .int .i64 0], true)]) true 3 := qo Try.underlying146 (by kernel_rfl) ⟨_, (by kernel_rfl : Try.prog.info? 146 = some Try.t146), rfl⟩ (by decide) (zL.cons (by decide) rfl (q3.mono (by decide)) (zL.cons (by decide) rfl (q3.mono (by decide)) (zL.cons (by decide) rfl (q67.mono (by decide)) (zL.cons (by decide) rfl (q67.mono (by decide)) (zL.nil)))))
def zeM : EI := ⟨.struct [(0, 3), (1, 3), (2, 67), (4, 67)], 6, 48, some [.int .i64 0, .int .i64 0, .int .i64 0, .int .i64 0, .int .i64 0, .int .i64 0], true⟩
theorem zdg : z4G Try.prog 146 zeM := ⟨⟨Try.t146, by kernel_rfl, rfl, rfl, fun z h => by cases h; exact ⟨_, rfl, rfl, Y9 rfl, rfl, ⟨_, rfl⟩⟩⟩, ⟨_, Try.underlying146, by kernel_rfl, by
  intro f hf
  simp only [List.mem_cons, List.not_mem_nil, or_false] at hf
  rcases hf with rfl | rfl | rfl | rfl
  ·exact ⟨Try.t3, by kernel_rfl⟩
  ·exact ⟨Try.t3, by kernel_rfl⟩
  ·exact ⟨Try.t67, by kernel_rfl⟩
  ·exact ⟨Try.t67, by kernel_rfl⟩⟩, fun _ => ju zeB rfl rfl (Nat.le_of_ble_eq_true (by kernel_rfl)) (by decide)⟩
theorem zeA : EqP Try.prog 147 (Zk [([.int .i64 0], false), ([.int .i64 0], false), ([.int .i64 0, .int .i64 0], true), ([.int .i64 0, .int .i64 0], true)]) true 3 := qo Try.underlying147 (by kernel_rfl) ⟨_, (by kernel_rfl : Try.prog.info? 147 = some Try.t147), rfl⟩ (by decide) (zL.cons (by decide) rfl (q3.mono (by decide)) (zL.cons (by decide) rfl (q3.mono (by decide)) (zL.cons (by decide) rfl (q67.mono (by decide)) (zL.cons (by decide) rfl (q67.mono (by decide)) (zL.nil)))))
def zeL : EI := ⟨.struct [(0, 3), (1, 3), (2, 67), (4, 67)], 6, 48, some [.int .i64 0, .int .i64 0, .int .i64 0, .int .i64 0, .int .i64 0, .int .i64 0], true⟩
theorem za0 : z4G Try.prog 147 zeL := ⟨⟨Try.t147, by kernel_rfl, rfl, rfl, fun z h => by cases h; exact ⟨_, rfl, rfl, Y9 rfl, rfl, ⟨_, rfl⟩⟩⟩, ⟨_, Try.underlying147, by kernel_rfl, by
  intro f hf
  simp only [List.mem_cons, List.not_mem_nil, or_false] at hf
  rcases hf with rfl | rfl | rfl | rfl
  ·exact ⟨Try.t3, by kernel_rfl⟩
  ·exact ⟨Try.t3, by kernel_rfl⟩
  ·exact ⟨Try.t67, by kernel_rfl⟩
  ·exact ⟨Try.t67, by kernel_rfl⟩⟩, fun _ => ju zeA rfl rfl (Nat.le_of_ble_eq_true (by kernel_rfl)) (by decide)⟩
theorem zez : EqP Try.prog 169 (Zk [([.int .i64 0, .int .i64 0], true), ([.int .i64 0], false), ([.int .i64 0], false)]) true 3 := qo Try.underlying169 (by kernel_rfl) ⟨_, (by kernel_rfl : Try.prog.info? 169 = some Try.t169), rfl⟩ (by decide) (zL.cons (by decide) rfl (q95.mono (by decide)) (zL.cons (by decide) rfl (q3.mono (by decide)) (zL.cons (by decide) rfl (q3.mono (by decide)) (zL.nil))))
def zeK : EI := ⟨.struct [(0, 95), (2, 3), (3, 3)], 4, 32, some [.int .i64 0, .int .i64 0, .int .i64 0, .int .i64 0], true⟩
theorem zdf : z4G Try.prog 169 zeK := ⟨⟨Try.t169, by kernel_rfl, rfl, rfl, fun z h => by cases h; exact ⟨_, rfl, rfl, Y9 rfl, rfl, ⟨_, rfl⟩⟩⟩, ⟨_, Try.underlying169, by kernel_rfl, by
  intro f hf
  simp only [List.mem_cons, List.not_mem_nil, or_false] at hf
  rcases hf with rfl | rfl | rfl
  ·exact ⟨Try.t95, by kernel_rfl⟩
  ·exact ⟨Try.t3, by kernel_rfl⟩
  ·exact ⟨Try.t3, by kernel_rfl⟩⟩, fun _ => ju zez rfl rfl (Nat.le_of_ble_eq_true (by kernel_rfl)) (by decide)⟩
theorem zey : EqP Try.prog 170 (Zk [([.int .i64 0, .int .i64 0], true), ([.int .i64 0], false), ([.int .i64 0], false)]) true 3 := qo Try.underlying170 (by kernel_rfl) ⟨_, (by kernel_rfl : Try.prog.info? 170 = some Try.t170), rfl⟩ (by decide) (zL.cons (by decide) rfl (q95.mono (by decide)) (zL.cons (by decide) rfl (q3.mono (by decide)) (zL.cons (by decide) rfl (q3.mono (by decide)) (zL.nil))))
def zeJ : EI := ⟨.struct [(0, 95), (2, 3), (3, 3)], 4, 32, some [.int .i64 0, .int .i64 0, .int .i64 0, .int .i64 0], true⟩
theorem z9Z : z4G Try.prog 170 zeJ := ⟨⟨Try.t170, by kernel_rfl, rfl, rfl, fun z h => by cases h; exact ⟨_, rfl, rfl, Y9 rfl, rfl, ⟨_, rfl⟩⟩⟩, ⟨_, Try.underlying170, by kernel_rfl, by
  intro f hf
  simp only [List.mem_cons, List.not_mem_nil, or_false] at hf
  rcases hf with rfl | rfl | rfl
  ·exact ⟨Try.t95, by kernel_rfl⟩
  ·exact ⟨Try.t3, by kernel_rfl⟩
  ·exact ⟨Try.t3, by kernel_rfl⟩⟩, fun _ => ju zey rfl rfl (Nat.le_of_ble_eq_true (by kernel_rfl)) (by decide)⟩
theorem zex : EqP Try.prog 220 (z4o 16 [.int .i64 0, .int .i64 0]) true 3 := Xw Try.underlying220 q95 ⟨_, (by kernel_rfl : Try.prog.info? 220 = some Try.t220), rfl⟩
def zeI : EI := ⟨.array 16 95, 32, 256, some [.int .i64 0, .int .i64 0, .int .i64 0, .int .i64 0, .int .i64 0, .int .i64 0, .int .i64 0, .int .i64 0, .int .i64 0, .int .i64 0, .int .i64 0, .int .i64 0, .int .i64 0, .int .i64 0, .int .i64 0, .int .i64 0, .int .i64 0, .int .i64 0, .int .i64 0, .int .i64 0, .int .i64 0, .int .i64 0, .int .i64 0, .int .i64 0, .int .i64 0, .int .i64 0, .int .i64 0, .int .i64 0, .int .i64 0, .int .i64 0, .int .i64 0, .int .i64 0], true⟩
theorem zde : z4G Try.prog 220 zeI := ⟨⟨Try.t220, by kernel_rfl, rfl, rfl, fun z h => by cases h; exact ⟨_, rfl, rfl, Y9 rfl, rfl, ⟨_, rfl⟩⟩⟩, Try.underlying220, fun _ => ju zex rfl rfl (Nat.le_of_ble_eq_true (by kernel_rfl)) (by decide)⟩
theorem zd1 : EqP Try.prog 221 (z4o 16 [.int .i64 0, .int .i64 0]) true 3 := Xw Try.underlying221 q95 ⟨_, (by kernel_rfl : Try.prog.info? 221 = some Try.t221), rfl⟩
def zeH : EI := ⟨.array 16 95, 32, 256, some [.int .i64 0, .int .i64 0, .int .i64 0, .int .i64 0, .int .i64 0, .int .i64 0, .int .i64 0, .int .i64 0, .int .i64 0, .int .i64 0, .int .i64 0, .int .i64 0, .int .i64 0, .int .i64 0, .int .i64 0, .int .i64 0, .int .i64 0, .int .i64 0, .int .i64 0, .int .i64 0, .int .i64 0, .int .i64 0, .int .i64 0, .int .i64 0, .int .i64 0, .int .i64 0, .int .i64 0, .int .i64 0, .int .i64 0, .int .i64 0, .int .i64 0, .int .i64 0], true⟩
theorem zdd : z4G Try.prog 221 zeH := ⟨⟨Try.t221, by kernel_rfl, rfl, rfl, fun z h => by cases h; exact ⟨_, rfl, rfl, Y9 rfl, rfl, ⟨_, rfl⟩⟩⟩, Try.underlying221, fun _ => ju zd1 rfl rfl (Nat.le_of_ble_eq_true (by kernel_rfl)) (by decide)⟩
theorem zew : EqP Try.prog 223 (Zk [([.int .i64 0], false), ([.int .i64 0, .int .i64 0, .int .i64 0, .int .i64 0, .int .i64 0, .int .i64 0, .int .i64 0, .int .i64 0, .int .i64 0, .int .i64 0, .int .i64 0, .int .i64 0, .int .i64 0, .int .i64 0, .int .i64 0, .int .i64 0, .int .i64 0, .int .i64 0, .int .i64 0, .int .i64 0, .int .i64 0, .int .i64 0, .int .i64 0, .int .i64 0, .int .i64 0, .int .i64 0, .int .i64 0, .int .i64 0, .int .i64 0, .int .i64 0, .int .i64 0, .int .i64 0], true)]) true 4 := qo Try.underlying223 (by kernel_rfl) ⟨_, (by kernel_rfl : Try.prog.info? 223 = some Try.t223), rfl⟩ (by decide) (zL.cons (by decide) rfl (q3.mono (by decide)) (zL.cons (by decide) rfl (zd1.mono (by decide)) (zL.nil)))
def zeG : EI := ⟨.struct [(0, 3), (1, 221)], 33, 264, some [.int .i64 0, .int .i64 0, .int .i64 0, .int .i64 0, .int .i64 0, .int .i64 0, .int .i64 0, .int .i64 0, .int .i64 0, .int .i64 0, .int .i64 0, .int .i64 0, .int .i64 0, .int .i64 0, .int .i64 0, .int .i64 0, .int .i64 0, .int .i64 0, .int .i64 0, .int .i64 0, .int .i64 0, .int .i64 0, .int .i64 0, .int .i64 0, .int .i64 0, .int .i64 0, .int .i64 0, .int .i64 0, .int .i64 0, .int .i64 0, .int .i64 0, .int .i64 0, .int .i64 0], true⟩
theorem zdc : z4G Try.prog 223 zeG := ⟨⟨Try.t223, by kernel_rfl, rfl, rfl, fun z h => by cases h; exact ⟨_, rfl, rfl, Y9 rfl, rfl, ⟨_, rfl⟩⟩⟩, ⟨_, Try.underlying223, by kernel_rfl, by
  intro f hf
  simp only [List.mem_cons, List.not_mem_nil, or_false] at hf
  rcases hf with rfl | rfl
  ·exact ⟨Try.t3, by kernel_rfl⟩
  ·exact ⟨Try.t221, by kernel_rfl⟩⟩, fun _ => ju zew rfl rfl (Nat.le_of_ble_eq_true (by kernel_rfl)) (by decide)⟩
theorem zev : EqP Try.prog 224 (Zk [([.int .i64 0], false), ([.int .i64 0, .int .i64 0, .int .i64 0, .int .i64 0, .int .i64 0, .int .i64 0, .int .i64 0, .int .i64 0, .int .i64 0, .int .i64 0, .int .i64 0, .int .i64 0, .int .i64 0, .int .i64 0, .int .i64 0, .int .i64 0, .int .i64 0, .int .i64 0, .int .i64 0, .int .i64 0, .int .i64 0, .int .i64 0, .int .i64 0, .int .i64 0, .int .i64 0, .int .i64 0, .int .i64 0, .int .i64 0, .int .i64 0, .int .i64 0, .int .i64 0, .int .i64 0], true)]) true 4 := qo Try.underlying224 (by kernel_rfl) ⟨_, (by kernel_rfl : Try.prog.info? 224 = some Try.t224), rfl⟩ (by decide) (zL.cons (by decide) rfl (q3.mono (by decide)) (zL.cons (by decide) rfl (zd1.mono (by decide)) (zL.nil)))
def zeF : EI := ⟨.struct [(0, 3), (1, 221)], 33, 264, some [.int .i64 0, .int .i64 0, .int .i64 0, .int .i64 0, .int .i64 0, .int .i64 0, .int .i64 0, .int .i64 0, .int .i64 0, .int .i64 0, .int .i64 0, .int .i64 0, .int .i64 0, .int .i64 0, .int .i64 0, .int .i64 0, .int .i64 0, .int .i64 0, .int .i64 0, .int .i64 0, .int .i64 0, .int .i64 0, .int .i64 0, .int .i64 0, .int .i64 0, .int .i64 0, .int .i64 0, .int .i64 0, .int .i64 0, .int .i64 0, .int .i64 0, .int .i64 0, .int .i64 0], true⟩
theorem zdb : z4G Try.prog 224 zeF := ⟨⟨Try.t224, by kernel_rfl, rfl, rfl, fun z h => by cases h; exact ⟨_, rfl, rfl, Y9 rfl, rfl, ⟨_, rfl⟩⟩⟩, ⟨_, Try.underlying224, by kernel_rfl, by
  intro f hf
  simp only [List.mem_cons, List.not_mem_nil, or_false] at hf
  rcases hf with rfl | rfl
  ·exact ⟨Try.t3, by kernel_rfl⟩
  ·exact ⟨Try.t221, by kernel_rfl⟩⟩, fun _ => ju zev rfl rfl (Nat.le_of_ble_eq_true (by kernel_rfl)) (by decide)⟩
end Go.Ex

namespace Go.Own
open Go.Proofs
def zda : Value → Bool
 | .int _ _ => true
 | _ => false
theorem z23 : ∀ {z vs us : List Value} {r : Bool}, z.all zda = true → z.length = vs.length → yI vs us = some r → Go.Ex.z13 z vs = true ∧ Go.Ex.yI vs us = some r
 | [], [], us, r, _, _, h => by
  cases us with
  | nil => simp only [yI, Option.some.injEq] at h; subst h; exact ⟨rfl, rfl⟩
  | cons u us => simp [yI] at h
 | a :: z, v :: vs, us, r, hz, hl, h => by
  have q : ∃ k x u' k' y, v = .int k x ∧ us = .int k' y :: u' ∧ k = k' := by
   cases us with
   | nil => cases v <;> simp [yI] at h
   | cons u us =>
    cases v <;> cases u <;> simp [yI] at h
    exact ⟨_, _, _, _, _, rfl, rfl, h.1⟩
  obtain ⟨k, x, u', k', y, rfl, rfl, hk⟩ := q
  simp only [yI, hk, if_true, Option.map_eq_some_iff] at h
  obtain ⟨r', e1, rfl⟩ := h
  simp only [List.all_cons, Bool.and_eq_true] at hz
  obtain ⟨q1, q2⟩ := z23 hz.2 (by simpa using hl) e1
  refine ⟨?_, by simp [Go.Ex.yI, hk, q2]⟩
  cases a <;> first | (simp [zda] at hz; done) | simpa [Go.Ex.z13] using q1
 | [], _ :: _, _, _, _, hl, _ => by simp at hl
 | _ :: _, [], _, _, _, hl, _ => by simp at hl
theorem K4 {P : Program} {t n : Nat} {i : Go.Ex.EI} (h : Go.Ex.z8S P t i) {z : List Value} (hz : i.zero = some z) (hi : z.all zda = true) (hs : i.size = n) (hn : z.length = n) : z8S P t n := {
 guard := h.guard
 run := fun vs us r w hv hu he => by
  obtain ⟨q1, q2⟩ := z23 hi (by rw [hn, hv]) he
  exact h.run vs us r w (by rw [hs]; exact hv) (by rw [hs]; exact hu) (by simpa only [Go.Ex.zdj, hz] using q1) q2 }
theorem zt {S : zj} {h : Array Obj} {v : Value} (hv : v.oneCell' = true) : zN S h (.atom v) [v] [] := by simp only [zN, Rep]; exact ⟨⟨trivial, hv⟩, trivial⟩
theorem xN {S : zj} {h : Array Obj} (sz : Nat) : zN S h (.osl sz true []) [.slice none 0 0] [] := by
 simp only [zN]
 exact ⟨none, 0, rfl, (fun _ => rfl), Nat.le_refl _, Nat.zero_le _, by simp, .inl ⟨trivial, rfl, rfl, trivial⟩⟩
theorem xC {S : zj} {h : Array Obj} {fs : List A} {cs : List Value} (q : zO S h fs cs []) : zN S h (.agg fs) cs [] := by simpa only [zN] using q
theorem yU {S : zj} {h : Array Obj} : zO S h [] [] [] := by simp [zO]
theorem zn {S : zj} {h : Array Obj} {a : A} {fs : List A} {c1 c2 : List Value} (q1 : zN S h a c1 []) (q2 : zO S h fs c2 []) : zO S h (a :: fs) (c1 ++ c2) [] := by simp only [zO]; exact ⟨c1, c2, [], [], rfl, rfl, q1, q2⟩
def ti1 : TI := ⟨.other, 1, 8, some (.atom .nilFunc), false⟩
theorem zaC : YR Try.prog 1 ti1 := ⟨⟨Try.t1, by kernel_rfl, rfl, rfl, fun z h => by cases h; exact ⟨_, rfl, rfl, fun S h => zt rfl⟩⟩, ⟨_, Try.underlying1, rfl⟩, by intro h; cases h⟩
def ti2 : TI := ⟨.int .i64, 1, 8, some (.atom (.int .i64 0)), false⟩
theorem zaB : YR Try.prog 2 ti2 := ⟨⟨Try.t2, by kernel_rfl, rfl, rfl, fun z h => by cases h; exact ⟨_, rfl, rfl, fun S h => zt rfl⟩⟩, Try.underlying2, by intro h; cases h⟩
def ti3 : TI := ⟨.int .i64, 1, 8, some (.atom (.int .i64 0)), false⟩
theorem zaA : YR Try.prog 3 ti3 := ⟨⟨Try.t3, by kernel_rfl, rfl, rfl, fun z h => by cases h; exact ⟨_, rfl, rfl, fun S h => zt rfl⟩⟩, Try.underlying3, by intro h; cases h⟩
def ti4 : TI := ⟨.bool, 1, 1, some (.atom (.bool false)), false⟩
theorem zaz : YR Try.prog 4 ti4 := ⟨⟨Try.t4, by kernel_rfl, rfl, rfl, fun z h => by cases h; exact ⟨_, rfl, rfl, fun S h => zt rfl⟩⟩, Try.underlying4, by intro h; cases h⟩
def ti5 : TI := ⟨.int .u8, 1, 1, some (.atom (.int .u8 0)), false⟩
theorem zay : YR Try.prog 5 ti5 := ⟨⟨Try.t5, by kernel_rfl, rfl, rfl, fun z h => by cases h; exact ⟨_, rfl, rfl, fun S h => zt rfl⟩⟩, Try.underlying5, by intro h; cases h⟩
def ze8 : TI := ⟨.slice 102, 1, 24, some (.osl 1 true []), false⟩
theorem z9a : YR Try.prog 22 ze8 := ⟨⟨Try.t22, by kernel_rfl, rfl, rfl, fun z h => by cases h; exact ⟨_, rfl, rfl, fun S h => xN _⟩⟩, Try.underlying22, by intro h; cases h⟩
def ze7 : TI := ⟨.struct [(0, 1), (1, 1), (2, 1), (3, 1), (4, 1)], 5, 32, some (.agg [.atom (.int .u8 0), .atom (.int .u8 0), .atom (.int .u8 0), .atom (.bool false), .osl 1 true []]), false⟩
theorem z99 : YR Try.prog 24 ze7 := ⟨⟨Try.t24, by kernel_rfl, rfl, rfl, fun z h => by cases h; exact ⟨_, rfl, rfl, fun S h => xC (zn (zt rfl) (zn (zt rfl) (zn (zt rfl) (zn (zt rfl) (zn (xN _) (yU))))))⟩⟩, ⟨_, Try.underlying24, by kernel_rfl, by
  intro f hf
  simp only [List.mem_cons, List.not_mem_nil, or_false] at hf
  rcases hf with rfl | rfl | rfl | rfl | rfl
  ·exact ⟨Try.t5, by kernel_rfl⟩
  ·exact ⟨Try.t5, by kernel_rfl⟩
  ·exact ⟨Try.t5, by kernel_rfl⟩
  ·exact ⟨Try.t4, by kernel_rfl⟩
  ·exact ⟨Try.t22, by kernel_rfl⟩⟩, by intro h; cases h⟩
def ze6 : TI := ⟨.slice 5, 1, 24, some (.osl 1 true []), false⟩
theorem z98 : YR Try.prog 25 ze6 := ⟨⟨Try.t25, by kernel_rfl, rfl, rfl, fun z h => by cases h; exact ⟨_, rfl, rfl, fun S h => xN _⟩⟩, Try.underlying25, by intro h; cases h⟩
def ze5 : TI := ⟨.slice 98, 1, 24, some (.osl 1 true []), false⟩
theorem z97 : YR Try.prog 32 ze5 := ⟨⟨Try.t32, by kernel_rfl, rfl, rfl, fun z h => by cases h; exact ⟨_, rfl, rfl, fun S h => xN _⟩⟩, Try.underlying32, by intro h; cases h⟩
def ze4 : TI := ⟨.struct [(0, 1), (1, 1), (2, 1)], 3, 40, some (.agg [.atom (.int .i64 0), .atom (.int .i64 0), .osl 1 true []]), false⟩
theorem z96 : YR Try.prog 34 ze4 := ⟨⟨Try.t34, by kernel_rfl, rfl, rfl, fun z h => by cases h; exact ⟨_, rfl, rfl, fun S h => xC (zn (zt rfl) (zn (zt rfl) (zn (xN _) (yU))))⟩⟩, ⟨_, Try.underlying34, by kernel_rfl, by
  intro f hf
  simp only [List.mem_cons, List.not_mem_nil, or_false] at hf
  rcases hf with rfl | rfl | rfl
  ·exact ⟨Try.t3, by kernel_rfl⟩
  ·exact ⟨Try.t3, by kernel_rfl⟩
  ·exact ⟨Try.t32, by kernel_rfl⟩⟩, by intro h; cases h⟩
def ze3 : TI := ⟨.slice 45, 1, 24, some (.osl 1 true []), false⟩
theorem z95 : YR Try.prog 37 ze3 := ⟨⟨Try.t37, by kernel_rfl, rfl, rfl, fun z h => by cases h; exact ⟨_, rfl, rfl, fun S h => xN _⟩⟩, Try.underlying37, by intro h; cases h⟩
def ze2 : TI := ⟨.int .i64, 1, 8, some (.atom (.int .i64 0)), false⟩
theorem z94 : YR Try.prog 40 ze2 := ⟨⟨Try.t40, by kernel_rfl, rfl, rfl, fun z h => by cases h; exact ⟨_, rfl, rfl, fun S h => zt rfl⟩⟩, Try.underlying40, by intro h; cases h⟩
def ze1 : TI := ⟨.slice 3, 1, 24, some (.osl 1 true []), false⟩
theorem z93 : YR Try.prog 45 ze1 := ⟨⟨Try.t45, by kernel_rfl, rfl, rfl, fun z h => by cases h; exact ⟨_, rfl, rfl, fun S h => xN _⟩⟩, Try.underlying45, by intro h; cases h⟩
def ze0 : TI := ⟨.array 2 5, 2, 2, some (.agg [.atom (.int .u8 0), .atom (.int .u8 0)]), true⟩
theorem z92 : YR Try.prog 65 ze0 := ⟨⟨Try.t65, by kernel_rfl, rfl, rfl, fun z h => by cases h; exact ⟨_, rfl, rfl, fun S h => xC (zn (zt rfl) (zn (zt rfl) (yU)))⟩⟩, Try.underlying65, fun _ => K4 (Go.Ex.zbm.eqn rfl) rfl rfl rfl rfl⟩
def zdZ : TI := ⟨.struct [(0, 1), (1, 1)], 2, 16, some (.agg [.atom (.int .i64 0), .atom (.int .i64 0)]), true⟩
theorem z91 : YR Try.prog 67 zdZ := ⟨⟨Try.t67, by kernel_rfl, rfl, rfl, fun z h => by cases h; exact ⟨_, rfl, rfl, fun S h => xC (zn (zt rfl) (zn (zt rfl) (yU)))⟩⟩, ⟨_, Try.underlying67, by kernel_rfl, by
  intro f hf
  simp only [List.mem_cons, List.not_mem_nil, or_false] at hf
  rcases hf with rfl | rfl
  ·exact ⟨Try.t3, by kernel_rfl⟩
  ·exact ⟨Try.t3, by kernel_rfl⟩⟩, fun _ => K4 (Go.Ex.zbl.eqn rfl) rfl rfl rfl rfl⟩
def zdY : TI := ⟨.struct [(0, 5), (5, 5), (10, 1), (11, 2), (13, 2), (15, 2)], 17, 88, some (.agg [.agg [.atom (.int .u8 0), .atom (.int .u8 0), .atom (.int .u8 0), .atom (.bool false), .osl 1 true []], .agg [.atom (.int .u8 0), .atom (.int .u8 0), .atom (.int .u8 0), .atom (.bool false), .osl 1 true []], .atom (.bool false), .agg [.atom (.int .u8 0), .atom (.int .u8 0)], .agg [.atom (.int .u8 0), .atom (.int .u8 0)], .agg [.atom (.int .i64 0), .atom (.int .i64 0)]]), false⟩
theorem z90 : YR Try.prog 69 zdY := ⟨⟨Try.t69, by kernel_rfl, rfl, rfl, fun z h => by cases h; exact ⟨_, rfl, rfl, fun S h => xC (zn (xC (zn (zt rfl) (zn (zt rfl) (zn (zt rfl) (zn (zt rfl) (zn (xN _) (yU))))))) (zn (xC (zn (zt rfl) (zn (zt rfl) (zn (zt rfl) (zn (zt rfl) (zn (xN _) (yU))))))) (zn (zt rfl) (zn (xC (zn (zt rfl) (zn (zt rfl) (yU)))) (zn (xC (zn (zt rfl) (zn (zt rfl) (yU)))) (zn (xC (zn (zt rfl) (zn (zt rfl) (yU)))) (yU)))))))⟩⟩, ⟨_, Try.underlying69, by kernel_rfl, by
  intro f hf
  simp only [List.mem_cons, List.not_mem_nil, or_false] at hf
  rcases hf with rfl | rfl | rfl | rfl | rfl | rfl
  ·exact ⟨Try.t24, by kernel_rfl⟩
  ·exact ⟨Try.t24, by kernel_rfl⟩
  ·exact ⟨Try.t4, by kernel_rfl⟩
  ·exact ⟨Try.t65, by kernel_rfl⟩
  ·exact ⟨Try.t65, by kernel_rfl⟩
  ·exact ⟨Try.t67, by kernel_rfl⟩⟩, by intro h; cases h⟩
def zdX : TI := ⟨.struct [(0, 1)], 1, 24, some (.agg [.osl 1 true []]), false⟩
theorem z8Z : YR Try.prog 80 zdX := ⟨⟨Try.t80, by kernel_rfl, rfl, rfl, fun z h => by cases h; exact ⟨_, rfl, rfl, fun S h => xC (zn (xN _) (yU))⟩⟩, ⟨_, Try.underlying80, by kernel_rfl, by
  intro f hf
  simp only [List.mem_cons, List.not_mem_nil, or_false] at hf
  rcases hf with rfl
  ·exact ⟨Try.t25, by kernel_rfl⟩⟩, by intro h; cases h⟩
def zdW : TI := ⟨.slice 65, 1, 24, some (.osl 2 true []), false⟩
theorem z8Y : YR Try.prog 88 zdW := ⟨⟨Try.t88, by kernel_rfl, rfl, rfl, fun z h => by cases h; exact ⟨_, rfl, rfl, fun S h => xN _⟩⟩, Try.underlying88, by intro h; cases h⟩
def zdV : TI := ⟨.slice 95, 1, 24, some (.osl 2 true []), false⟩
theorem z8X : YR Try.prog 89 zdV := ⟨⟨Try.t89, by kernel_rfl, rfl, rfl, fun z h => by cases h; exact ⟨_, rfl, rfl, fun S h => xN _⟩⟩, Try.underlying89, by intro h; cases h⟩
def zdU : TI := ⟨.array 2 3, 2, 16, some (.agg [.atom (.int .i64 0), .atom (.int .i64 0)]), true⟩
theorem z4V : YR Try.prog 95 zdU := ⟨⟨Try.t95, by kernel_rfl, rfl, rfl, fun z h => by cases h; exact ⟨_, rfl, rfl, fun S h => xC (zn (zt rfl) (zn (zt rfl) (yU)))⟩⟩, Try.underlying95, fun _ => K4 (Go.Ex.z8L.eqn rfl) rfl rfl rfl rfl⟩
def zdT : TI := ⟨.slice 67, 1, 24, some (.osl 2 true []), false⟩
theorem z8W : YR Try.prog 98 zdT := ⟨⟨Try.t98, by kernel_rfl, rfl, rfl, fun z h => by cases h; exact ⟨_, rfl, rfl, fun S h => xN _⟩⟩, Try.underlying98, by intro h; cases h⟩
def zaR : TI := ⟨.array 2 34, 6, 80, some (.agg [.agg [.atom (.int .i64 0), .atom (.int .i64 0), .osl 1 true []], .agg [.atom (.int .i64 0), .atom (.int .i64 0), .osl 1 true []]]), false⟩
theorem z78 : YR Try.prog 100 zaR := ⟨⟨Try.t100, by kernel_rfl, rfl, rfl, fun z h => by cases h; exact ⟨_, rfl, rfl, fun S h => xC (zn (xC (zn (zt rfl) (zn (zt rfl) (zn (xN _) (yU))))) (zn (xC (zn (zt rfl) (zn (zt rfl) (zn (xN _) (yU))))) (yU)))⟩⟩, Try.underlying100, by intro h; cases h⟩
def zaQ : TI := ⟨.int .u16, 1, 2, some (.atom (.int .u16 0)), false⟩
theorem z75 : YR Try.prog 102 zaQ := ⟨⟨Try.t102, by kernel_rfl, rfl, rfl, fun z h => by cases h; exact ⟨_, rfl, rfl, fun S h => zt rfl⟩⟩, Try.underlying102, by intro h; cases h⟩
def zaP : TI := ⟨.other, 1, 8, some (.atom .nilFunc), false⟩
theorem z74 : YR Try.prog 106 zaP := ⟨⟨Try.t106, by kernel_rfl, rfl, rfl, fun z h => by cases h; exact ⟨_, rfl, rfl, fun S h => zt rfl⟩⟩, ⟨_, Try.underlying106, rfl⟩, by intro h; cases h⟩
def zaO : TI := ⟨.other, 1, 8, some (.atom .nilFunc), false⟩
theorem z73 : YR Try.prog 117 zaO := ⟨⟨Try.t117, by kernel_rfl, rfl, rfl, fun z h => by cases h; exact ⟨_, rfl, rfl, fun S h => zt rfl⟩⟩, ⟨_, Try.underlying117, rfl⟩, by intro h; cases h⟩
def zaN : TI := ⟨.slice 4, 1, 24, some (.osl 1 true []), false⟩
theorem z72 : YR Try.prog 122 zaN := ⟨⟨Try.t122, by kernel_rfl, rfl, rfl, fun z h => by cases h; exact ⟨_, rfl, rfl, fun S h => xN _⟩⟩, Try.underlying122, by intro h; cases h⟩
def zaM : TI := ⟨.slice 122, 1, 24, some (.osl 1 true []), false⟩
theorem z71 : YR Try.prog 123 zaM := ⟨⟨Try.t123, by kernel_rfl, rfl, rfl, fun z h => by cases h; exact ⟨_, rfl, rfl, fun S h => xN _⟩⟩, Try.underlying123, by intro h; cases h⟩
def zaL : TI := ⟨.other, 1, 8, none, false⟩
theorem z6Z : YR Try.prog 130 zaL := ⟨⟨Try.t130, by kernel_rfl, rfl, rfl, fun z h => by cases h⟩, ⟨_, Try.underlying130, rfl⟩, by intro h; cases h⟩
def zaK : TI := ⟨.other, 1, 8, some (.atom .nilFunc), false⟩
theorem z6Y : YR Try.prog 143 zaK := ⟨⟨Try.t143, by kernel_rfl, rfl, rfl, fun z h => by cases h; exact ⟨_, rfl, rfl, fun S h => zt rfl⟩⟩, ⟨_, Try.underlying143, rfl⟩, by intro h; cases h⟩
def zaJ : TI := ⟨.other, 1, 8, some (.atom .nilFunc), false⟩
theorem z6X : YR Try.prog 144 zaJ := ⟨⟨Try.t144, by kernel_rfl, rfl, rfl, fun z h => by cases h; exact ⟨_, rfl, rfl, fun S h => zt rfl⟩⟩, ⟨_, Try.underlying144, rfl⟩, by intro h; cases h⟩
def zaI : TI := ⟨.struct [(0, 1), (1, 1), (2, 2), (4, 2)], 6, 48, some (.agg [.atom (.int .i64 0), .atom (.int .i64 0), .agg [.atom (.int .i64 0), .atom (.int .i64 0)], .agg [.atom (.int .i64 0), .atom (.int .i64 0)]]), true⟩
theorem z6W : YR Try.prog 147 zaI := ⟨⟨Try.t147, by kernel_rfl, rfl, rfl, fun z h => by cases h; exact ⟨_, rfl, rfl, fun S h => xC (zn (zt rfl) (zn (zt rfl) (zn (xC (zn (zt rfl) (zn (zt rfl) (yU)))) (zn (xC (zn (zt rfl) (zn (zt rfl) (yU)))) (yU)))))⟩⟩, ⟨_, Try.underlying147, by kernel_rfl, by
  intro f hf
  simp only [List.mem_cons, List.not_mem_nil, or_false] at hf
  rcases hf with rfl | rfl | rfl | rfl
  ·exact ⟨Try.t3, by kernel_rfl⟩
  ·exact ⟨Try.t3, by kernel_rfl⟩
  ·exact ⟨Try.t67, by kernel_rfl⟩
  ·exact ⟨Try.t67, by kernel_rfl⟩⟩, fun _ => K4 (Go.Ex.za0.eqn rfl) rfl rfl rfl rfl⟩
def zaH : TI := ⟨.slice 170, 1, 24, some (.osl 4 true []), false⟩
theorem z6V : YR Try.prog 148 zaH := ⟨⟨Try.t148, by kernel_rfl, rfl, rfl, fun z h => by cases h; exact ⟨_, rfl, rfl, fun S h => xN _⟩⟩, Try.underlying148, by intro h; cases h⟩
def zaG : TI := ⟨.other, 1, 8, some (.atom .nilFunc), false⟩
theorem z6U : YR Try.prog 159 zaG := ⟨⟨Try.t159, by kernel_rfl, rfl, rfl, fun z h => by cases h; exact ⟨_, rfl, rfl, fun S h => zt rfl⟩⟩, ⟨_, Try.underlying159, rfl⟩, by intro h; cases h⟩
def zaF : TI := ⟨.slice 40, 1, 24, some (.osl 1 true []), false⟩
theorem z6T : YR Try.prog 167 zaF := ⟨⟨Try.t167, by kernel_rfl, rfl, rfl, fun z h => by cases h; exact ⟨_, rfl, rfl, fun S h => xN _⟩⟩, Try.underlying167, by intro h; cases h⟩
def zaE : TI := ⟨.other, 1, 8, some (.atom .nilFunc), false⟩
theorem z6S : YR Try.prog 168 zaE := ⟨⟨Try.t168, by kernel_rfl, rfl, rfl, fun z h => by cases h; exact ⟨_, rfl, rfl, fun S h => zt rfl⟩⟩, ⟨_, Try.underlying168, rfl⟩, by intro h; cases h⟩
def zaD : TI := ⟨.struct [(0, 2), (2, 1), (3, 1)], 4, 32, some (.agg [.agg [.atom (.int .i64 0), .atom (.int .i64 0)], .atom (.int .i64 0), .atom (.int .i64 0)]), true⟩
theorem z6R : YR Try.prog 170 zaD := ⟨⟨Try.t170, by kernel_rfl, rfl, rfl, fun z h => by cases h; exact ⟨_, rfl, rfl, fun S h => xC (zn (xC (zn (zt rfl) (zn (zt rfl) (yU)))) (zn (zt rfl) (zn (zt rfl) (yU))))⟩⟩, ⟨_, Try.underlying170, by kernel_rfl, by
  intro f hf
  simp only [List.mem_cons, List.not_mem_nil, or_false] at hf
  rcases hf with rfl | rfl | rfl
  ·exact ⟨Try.t95, by kernel_rfl⟩
  ·exact ⟨Try.t3, by kernel_rfl⟩
  ·exact ⟨Try.t3, by kernel_rfl⟩⟩, fun _ => K4 (Go.Ex.z9Z.eqn rfl) rfl rfl rfl rfl⟩
def tiL : List (Nat × TI) := [(1, ti1), (2, ti2), (3, ti3), (4, ti4), (5, ti5), (22, ze8), (24, ze7), (25, ze6), (32, ze5), (34, ze4), (37, ze3), (40, ze2), (45, ze1), (65, ze0), (67, zdZ), (69, zdY), (80, zdX), (88, zdW), (89, zdV), (95, zdU), (98, zdT), (100, zaR), (102, zaQ), (106, zaP), (117, zaO), (122, zaN), (123, zaM), (130, zaL), (143, zaK), (144, zaJ), (147, zaI), (148, zaH), (159, zaG), (167, zaF), (168, zaE), (170, zaD)]
def x9 : TT := fun t => (tiL.find? fun p => p.1 == t).map (·.2)
def z6A (P : Program) : List (Nat × TI) → Prop
 | [] => True
 | p :: l => YR P p.1 p.2 ∧ z6A P l
theorem z6A.mem {P : Program} : ∀ {l : List (Nat × TI)}, z6A P l → ∀ p ∈ l, YR P p.1 p.2
 | p :: _, h, q, hq => by
  rcases List.mem_cons.1 hq with rfl | hq
  ·exact h.1
  ·exact z6A.mem h.2 q hq
 | [], _, _, hq => by cases hq
theorem zax : z6A Try.prog tiL := ⟨zaC, zaB, zaA, zaz, zay, z9a, z99, z98, z97, z96, z95, z94, z93, z92, z91, z90, z8Z, z8Y, z8X, z4V, z8W, z78, z75, z74, z73, z72, z71, z6Z, z6Y, z6X, z6W, z6V, z6U, z6T, z6S, z6R, trivial⟩
theorem xg : vL Try.prog x9 := by
 intro t i h
 unfold x9 at h
 rw [Option.map_eq_some_iff] at h
 obtain ⟨p, h1, rfl⟩ := h
 have h2 := List.find?_some h1
 have h3 := zax.mem p (List.mem_of_find?_eq_some h1)
 rw [beq_iff_eq.1 h2] at h3
 exact h3
theorem zeU : x9 1 = some ⟨.other, 1, 8, some (.atom .nilFunc), false⟩ := rfl
theorem zeT : x9 2 = some ⟨.int .i64, 1, 8, some (.atom (.int .i64 0)), false⟩ := rfl
theorem zeS : x9 3 = some ⟨.int .i64, 1, 8, some (.atom (.int .i64 0)), false⟩ := rfl
theorem zeR : x9 4 = some ⟨.bool, 1, 1, some (.atom (.bool false)), false⟩ := rfl
theorem zeQ : x9 5 = some ⟨.int .u8, 1, 1, some (.atom (.int .u8 0)), false⟩ := rfl
theorem zdC : x9 22 = some ⟨.slice 102, 1, 24, some (.osl 1 true []), false⟩ := rfl
theorem zdB : x9 24 = some ⟨.struct [(0, 1), (1, 1), (2, 1), (3, 1), (4, 1)], 5, 32, some (.agg [.atom (.int .u8 0), .atom (.int .u8 0), .atom (.int .u8 0), .atom (.bool false), .osl 1 true []]), false⟩ := rfl
theorem zdA : x9 25 = some ⟨.slice 5, 1, 24, some (.osl 1 true []), false⟩ := rfl
theorem zdz : x9 32 = some ⟨.slice 98, 1, 24, some (.osl 1 true []), false⟩ := rfl
theorem zdy : x9 34 = some ⟨.struct [(0, 1), (1, 1), (2, 1)], 3, 40, some (.agg [.atom (.int .i64 0), .atom (.int .i64 0), .osl 1 true []]), false⟩ := rfl
theorem zdx : x9 37 = some ⟨.slice 45, 1, 24, some (.osl 1 true []), false⟩ := rfl
theorem zdw : x9 40 = some ⟨.int .i64, 1, 8, some (.atom (.int .i64 0)), false⟩ := rfl
theorem zdv : x9 45 = some ⟨.slice 3, 1, 24, some (.osl 1 true []), false⟩ := rfl
theorem zdu : x9 65 = some ⟨.array 2 5, 2, 2, some (.agg [.atom (.int .u8 0), .atom (.int .u8 0)]), true⟩ := rfl
theorem zdt : x9 67 = some ⟨.struct [(0, 1), (1, 1)], 2, 16, some (.agg [.atom (.int .i64 0), .atom (.int .i64 0)]), true⟩ := rfl
theorem zds : x9 69 = some ⟨.struct [(0, 5), (5, 5), (10, 1), (11, 2), (13, 2), (15, 2)], 17, 88, some (.agg [.agg [.atom (.int .u8 0), .atom (.int .u8 0), .atom (.int .u8 0), .atom (.bool false), .osl 1 true []], .agg [.atom (.int .u8 0), .atom (.int .u8 0), .atom (.int .u8 0), .atom (.bool false), .osl 1 true []], .atom (.bool false), .agg [.atom (.int .u8 0), .atom (.int .u8 0)], .agg [.atom (.int .u8 0), .atom (.int .u8 0)], .agg [.atom (.int .i64 0), .atom (.int .i64 0)]]), false⟩ := rfl
theorem zdr : x9 80 = some ⟨.struct [(0, 1)], 1, 24, some (.agg [.osl 1 true []]), false⟩ := rfl
theorem zdq : x9 88 = some ⟨.slice 65, 1, 24, some (.osl 2 true []), false⟩ := rfl
theorem zdp : x9 89 = some ⟨.slice 95, 1, 24, some (.osl 2 true []), false⟩ := rfl
theorem zdo : x9 95 = some ⟨.array 2 3, 2, 16, some (.agg [.atom (.int .i64 0), .atom (.int .i64 0)]), true⟩ := rfl
theorem zdn : x9 98 = some ⟨.slice 67, 1, 24, some (.osl 2 true []), false⟩ := rfl
theorem zbT : x9 100 = some ⟨.array 2 34, 6, 80, some (.agg [.agg [.atom (.int .i64 0), .atom (.int .i64 0), .osl 1 true []], .agg [.atom (.int .i64 0), .atom (.int .i64 0), .osl 1 true []]]), false⟩ := rfl
theorem zbS : x9 102 = some ⟨.int .u16, 1, 2, some (.atom (.int .u16 0)), false⟩ := rfl
theorem zbR : x9 106 = some ⟨.other, 1, 8, some (.atom .nilFunc), false⟩ := rfl
theorem zbQ : x9 117 = some ⟨.other, 1, 8, some (.atom .nilFunc), false⟩ := rfl
theorem zbP : x9 122 = some ⟨.slice 4, 1, 24, some (.osl 1 true []), false⟩ := rfl
theorem zbO : x9 123 = some ⟨.slice 122, 1, 24, some (.osl 1 true []), false⟩ := rfl
theorem zbN : x9 130 = some ⟨.other, 1, 8, none, false⟩ := rfl
theorem zbM : x9 143 = some ⟨.other, 1, 8, some (.atom .nilFunc), false⟩ := rfl
theorem zbL : x9 144 = some ⟨.other, 1, 8, some (.atom .nilFunc), false⟩ := rfl
theorem zbK : x9 147 = some ⟨.struct [(0, 1), (1, 1), (2, 2), (4, 2)], 6, 48, some (.agg [.atom (.int .i64 0), .atom (.int .i64 0), .agg [.atom (.int .i64 0), .atom (.int .i64 0)], .agg [.atom (.int .i64 0), .atom (.int .i64 0)]]), true⟩ := rfl
theorem zbJ : x9 148 = some ⟨.slice 170, 1, 24, some (.osl 4 true []), false⟩ := rfl
theorem zbI : x9 159 = some ⟨.other, 1, 8, some (.atom .nilFunc), false⟩ := rfl
theorem zbH : x9 167 = some ⟨.slice 40, 1, 24, some (.osl 1 true []), false⟩ := rfl
theorem zbG : x9 168 = some ⟨.other, 1, 8, some (.atom .nilFunc), false⟩ := rfl
theorem zbF : x9 170 = some ⟨.struct [(0, 2), (2, 1), (3, 1)], 4, 32, some (.agg [.agg [.atom (.int .i64 0), .atom (.int .i64 0)], .atom (.int .i64 0), .atom (.int .i64 0)]), true⟩ := rfl
attribute [go_sem] zeU zeT zeS zeR zeQ zdC zdB zdA zdz zdy zdx zdw zdv zdu zdt zds zdr zdq zdp zdo zdn zbT zbS zbR zbQ zbP zbO zbN zbM zbL zbK zbJ zbI zbH zbG zbF
structure zh (α : Type) where
 e0 : α
 e1 : α
 deriving DecidableEq
instance {α : Type} [BEq α] : BEq (zh α) := ⟨fun x y => (x.e0 == y.e0) && (x.e1 == y.e1)⟩
section
variable {α : Type}
def yG (f : α → A) (x : zh α) : A := .agg [f x.e0, f x.e1]
instance (f : α → A) [h : z4h f] : z4h (yG f) := ⟨fun x => by simp [yG, A.isD, A.areD, h.isD]⟩
instance (f g : α → A) [h : Xf f g] : Xf (yG f) (yG g) := ⟨fun x => by simp [yG, A.loose, A.looses, h.lo]⟩
instance (f g : α → A) [h : z3b f g] : z3b (yG f) (yG g) := ⟨fun x => by simp [yG, A.live, A.lives, h.live], fun x => by simp [yG, A.shut, A.shuts, h.sh]⟩
instance (f : α → A) [h : kc f] : kc (yG f) := ⟨fun x y q => by
 simp only [yG, A.agg.injEq, List.cons.injEq, and_true] at q
 cases x; cases y
 simp only [zh.mk.injEq]
 exact ⟨h.inj _ _ q.1, h.inj _ _ q.2⟩⟩
end
structure z7 where
 To : Int
 Out : Int
def wl (f0 : Int → A) (f1 : Int → A) (x : z7) : A := .agg [f0 x.To, f1 x.Out]
instance (f0 : Int → A) (f1 : Int → A) [h0 : z4h f0] [h1 : z4h f1] : z4h (wl f0 f1) := ⟨fun x => by simp [wl, A.isD, A.areD, h0.isD, h1.isD]⟩
instance (f0 : Int → A) (f1 : Int → A) (g0 : Int → A) (g1 : Int → A) [h0 : Xf f0 g0] [h1 : Xf f1 g1] : Xf (wl f0 f1) (wl g0 g1) := ⟨fun x => by simp [wl, A.loose, A.looses, h0.lo, h1.lo]⟩
instance (f0 : Int → A) (f1 : Int → A) (g0 : Int → A) (g1 : Int → A) [h0 : z3b f0 g0] [h1 : z3b f1 g1] : z3b (wl f0 f1) (wl g0 g1) := ⟨fun x => by simp [wl, A.live, A.lives, h0.live, h1.live], fun x => by simp [wl, A.shut, A.shuts, h0.sh, h1.sh]⟩
instance (f0 : Int → A) (f1 : Int → A) [h0 : kc f0] [h1 : kc f1] : kc (wl f0 f1) := ⟨fun x y h => by
 simp only [wl, A.agg.injEq, List.cons.injEq, and_true] at h
 cases x; cases y
 simp only [z7.mk.injEq]
 exact ⟨h0.inj _ _ h.1, h1.inj _ _ h.2⟩⟩
structure z6 where
 Inputs : Int
 Outputs : Int
 Rows : List (List z7)
def x6 (f0 : Int → A) (f1 : Int → A) (f2 : List (List z7) → A) (x : z6) : A := .agg [f0 x.Inputs, f1 x.Outputs, f2 x.Rows]
instance (f0 : Int → A) (f1 : Int → A) (f2 : List (List z7) → A) (g0 : Int → A) (g1 : Int → A) (g2 : List (List z7) → A) [h0 : Xf f0 g0] [h1 : Xf f1 g1] [h2 : Xf f2 g2] : Xf (x6 f0 f1 f2) (x6 g0 g1 g2) := ⟨fun x => by simp [x6, A.loose, A.looses, h0.lo, h1.lo, h2.lo]⟩
instance (f0 : Int → A) (f1 : Int → A) (f2 : List (List z7) → A) [h0 : kc f0] [h1 : kc f1] [h2 : kc f2] : kc (x6 f0 f1 f2) := ⟨fun x y h => by
 simp only [x6, A.agg.injEq, List.cons.injEq, and_true] at h
 cases x; cases y
 simp only [z6.mk.injEq]
 exact ⟨h0.inj _ _ h.1, h1.inj _ _ h.2.1, h2.inj _ _ h.2.2⟩⟩
structure zR where
 at_ : Int
 input_ : Int
 x_ : z7
 y_ : z7
def z0N (f0 : Int → A) (f1 : Int → A) (f2 : z7 → A) (f3 : z7 → A) (x : zR) : A := .agg [f0 x.at_, f1 x.input_, f2 x.x_, f3 x.y_]
structure za where
 pair_ : zh Int
 from_ : Int
 input_ : Int
def y7 (f0 : zh Int → A) (f1 : Int → A) (f2 : Int → A) (x : za) : A := .agg [f0 x.pair_, f1 x.from_, f2 x.input_]
instance (f0 : zh Int → A) (f1 : Int → A) (f2 : Int → A) [h0 : z4h f0] [h1 : z4h f1] [h2 : z4h f2] : z4h (y7 f0 f1 f2) := ⟨fun x => by simp [y7, A.isD, A.areD, h0.isD, h1.isD, h2.isD]⟩
instance (f0 : zh Int → A) (f1 : Int → A) (f2 : Int → A) (g0 : zh Int → A) (g1 : Int → A) (g2 : Int → A) [h0 : Xf f0 g0] [h1 : Xf f1 g1] [h2 : Xf f2 g2] : Xf (y7 f0 f1 f2) (y7 g0 g1 g2) := ⟨fun x => by simp [y7, A.loose, A.looses, h0.lo, h1.lo, h2.lo]⟩
instance (f0 : zh Int → A) (f1 : Int → A) (f2 : Int → A) (g0 : zh Int → A) (g1 : Int → A) (g2 : Int → A) [h0 : z3b f0 g0] [h1 : z3b f1 g1] [h2 : z3b f2 g2] : z3b (y7 f0 f1 f2) (y7 g0 g1 g2) := ⟨fun x => by simp [y7, A.live, A.lives, h0.live, h1.live, h2.live], fun x => by simp [y7, A.shut, A.shuts, h0.sh, h1.sh, h2.sh]⟩
instance (f0 : zh Int → A) (f1 : Int → A) (f2 : Int → A) [h0 : kc f0] [h1 : kc f1] [h2 : kc f2] : kc (y7 f0 f1 f2) := ⟨fun x y h => by
 simp only [y7, A.agg.injEq, List.cons.injEq, and_true] at h
 cases x; cases y
 simp only [za.mk.injEq]
 exact ⟨h0.inj _ _ h.1, h1.inj _ _ h.2.1, h2.inj _ _ h.2.2⟩⟩
structure zp where
 States : Int
 Inputs : Int
 Outputs : Int
 Partial : Bool
 Edges : List Int
def Y8 (f0 : Int → A) (f1 : Int → A) (f2 : Int → A) (f3 : Bool → A) (f4 : List Int → A) (x : zp) : A := .agg [f0 x.States, f1 x.Inputs, f2 x.Outputs, f3 x.Partial, f4 x.Edges]
instance (f0 : Int → A) (f1 : Int → A) (f2 : Int → A) (f3 : Bool → A) (f4 : List Int → A) (g0 : Int → A) (g1 : Int → A) (g2 : Int → A) (g3 : Bool → A) (g4 : List Int → A) [h0 : Xf f0 g0] [h1 : Xf f1 g1] [h2 : Xf f2 g2] [h3 : Xf f3 g3] [h4 : Xf f4 g4] : Xf (Y8 f0 f1 f2 f3 f4) (Y8 g0 g1 g2 g3 g4) := ⟨fun x => by simp [Y8, A.loose, A.looses, h0.lo, h1.lo, h2.lo, h3.lo, h4.lo]⟩
instance (f0 : Int → A) (f1 : Int → A) (f2 : Int → A) (f3 : Bool → A) (f4 : List Int → A) [h0 : kc f0] [h1 : kc f1] [h2 : kc f2] [h3 : kc f3] [h4 : kc f4] : kc (Y8 f0 f1 f2 f3 f4) := ⟨fun x y h => by
 simp only [Y8, A.agg.injEq, List.cons.injEq, and_true] at h
 cases x; cases y
 simp only [zp.mk.injEq]
 exact ⟨h0.inj _ _ h.1, h1.inj _ _ h.2.1, h2.inj _ _ h.2.2.1, h3.inj _ _ h.2.2.2.1, h4.inj _ _ h.2.2.2.2⟩⟩
structure zB where
 M : zp
 X : zp
 Alike : Bool
 Swap : zh Int
 Place : zh Int
 To : z7
def Y7 (f0 : zp → A) (f1 : zp → A) (f2 : Bool → A) (f3 : zh Int → A) (f4 : zh Int → A) (f5 : z7 → A) (x : zB) : A := .agg [f0 x.M, f1 x.X, f2 x.Alike, f3 x.Swap, f4 x.Place, f5 x.To]
instance (f0 : zp → A) (f1 : zp → A) (f2 : Bool → A) (f3 : zh Int → A) (f4 : zh Int → A) (f5 : z7 → A) (g0 : zp → A) (g1 : zp → A) (g2 : Bool → A) (g3 : zh Int → A) (g4 : zh Int → A) (g5 : z7 → A) [h0 : Xf f0 g0] [h1 : Xf f1 g1] [h2 : Xf f2 g2] [h3 : Xf f3 g3] [h4 : Xf f4 g4] [h5 : Xf f5 g5] : Xf (Y7 f0 f1 f2 f3 f4 f5) (Y7 g0 g1 g2 g3 g4 g5) := ⟨fun x => by simp [Y7, A.loose, A.looses, h0.lo, h1.lo, h2.lo, h3.lo, h4.lo, h5.lo]⟩
instance (f0 : zp → A) (f1 : zp → A) (f2 : Bool → A) (f3 : zh Int → A) (f4 : zh Int → A) (f5 : z7 → A) [h0 : kc f0] [h1 : kc f1] [h2 : kc f2] [h3 : kc f3] [h4 : kc f4] [h5 : kc f5] : kc (Y7 f0 f1 f2 f3 f4 f5) := ⟨fun x y h => by
 simp only [Y7, A.agg.injEq, List.cons.injEq, and_true] at h
 cases x; cases y
 simp only [zB.mk.injEq]
 exact ⟨h0.inj _ _ h.1, h1.inj _ _ h.2.1, h2.inj _ _ h.2.2.1, h3.inj _ _ h.2.2.2.1, h4.inj _ _ h.2.2.2.2.1, h5.inj _ _ h.2.2.2.2.2⟩⟩
structure v7 where
 Symbols : List Int
def jk (f0 : List Int → A) (x : v7) : A := .agg [f0 x.Symbols]
instance (f0 : List Int → A) (g0 : List Int → A) [h0 : Xf f0 g0] : Xf (jk f0) (jk g0) := ⟨fun x => by simp [jk, A.loose, A.looses, h0.lo]⟩
instance (f0 : List Int → A) [h0 : kc f0] : kc (jk f0) := ⟨fun x y h => by
 simp only [jk, A.agg.injEq, List.cons.injEq, and_true] at h
 cases x; cases y
 simp only [v7.mk.injEq]
 exact h0.inj _ _ h⟩
instance : zei (K := zh Int) (yG (eI .i64)) := ⟨fun x y => by
 obtain ⟨_, _⟩ := x
 obtain ⟨_, _⟩ := y
 simp only [yG, eI, QS, z0J, z0J.keyLs, zX, BEq.beq, Option.map_some, Option.some.injEq, Value.agg.injEq, List.cons_append, List.nil_append, List.append_nil, Array.mk.injEq, List.cons.injEq, Value.int.injEq, true_and, and_true, Bool.and_eq_true, decide_eq_true_eq, and_assoc]⟩
def y9 (to : Int) (out : Int) : Option z7 :=
 some (z7.mk to out)
def km : Option z7 :=
 some (z7.mk (-1) (-1))
def jd (m_ : z6) (x_ : z7) : Option Bool :=
 Option.bind (km) fun r_ =>
 bif (x_.To == r_.To) && ((x_.Out == r_.Out) && true) then (
  some true)
 else (
  bif decide (x_.To ≥ 0) then (
   bif decide (x_.To < ((m_.Rows.length : Nat) : Int)) then (
    bif decide (x_.Out ≥ 0) then (
     some (decide (x_.Out < m_.Outputs)))
    else (
     some false))
   else (
    some false))
  else (
   some false))
def uY (x_ : z7) (x1 : z6) : Option Bool :=
 Option.bind (jd x1 x_) fun r_ =>
 some (!r_)
def yu : Option Int :=
 some (-1)
def zJ (s_ : List z7) (f_ : z6) (x8 : Int) : Option (LR Int (Unit ⊕ Int)) :=
 bif decide (x8 < ((s_.length : Nat) : Int)) then (
  Option.bind (idx s_ x8) fun s__e =>
  Option.bind (uY s__e f_) fun r_ =>
  bif r_ then (
   some (.done (.inr x8)))
  else (
   some (.next (w64 (x8 + 1)))))
 else (
  some (.done (.inl ())))
def yd (s_ : List z7) (f_ : z6) : Option Int :=
 Option.bind (loop (fun s => zJ s_ f_ s) 0) fun t2 =>
 match t2 with
 | .inl p => yu
 | .inr p => some p
def zT (s_ : List z7) (f_ : z6) : Option Bool :=
 Option.bind (yd s_ f_) fun r_ =>
 some (decide (r_ ≥ 0))
def jr : Option Int :=
 some 0
def xP (m_ : z6) (x36 : Int) : Option (LR Int (Unit ⊕ Int)) :=
 bif decide (x36 < ((m_.Rows.length : Nat) : Int)) then (
  Option.bind (idx m_.Rows x36) fun Row_e =>
  bif ((Row_e.length : Nat) : Int) != m_.Inputs then (
   some (.done (.inr 1)))
  else (
   Option.bind (zT Row_e m_) fun r_ =>
   bif r_ then (
    some (.done (.inr 1)))
   else (
    some (.next (w64 (x36 + 1))))))
 else (
  some (.done (.inl ())))
def vz (m_ : z6) : Option Int :=
 bif decide (m_.Inputs > 16) then (
  some 3)
 else (
  bif decide (m_.Outputs > 16) then (
   some 3)
  else (
   bif decide (((m_.Rows.length : Nat) : Int) > 64) then (
    some 3)
   else (
    bif decide (m_.Inputs < 1) then (
     some 1)
    else (
     bif decide (m_.Outputs < 1) then (
      some 1)
     else (
      bif decide (((m_.Rows.length : Nat) : Int) < 1) then (
       some 1)
      else (
       Option.bind (loop (fun s => xP m_ s) 0) fun t2 =>
       match t2 with
       | .inl p => jr
       | .inr p => some p))))))
def vd : Option Int :=
 some 0
def w8 (vals : List Int) (x8 : Int) : Option (LR Int (Unit ⊕ Int)) :=
 bif decide (x8 < ((vals.length : Nat) : Int)) then (
  Option.bind (idx vals x8) fun val_e =>
  bif val_e != 0 then (
   some (.done (.inr val_e)))
  else (
   some (.next (w64 (x8 + 1)))))
 else (
  some (.done (.inl ())))
def vo (vals : List Int) : Option Int :=
 Option.bind (loop (fun s => w8 vals s) 0) fun t2 =>
 match t2 with
 | .inl p => vd
 | .inr p => some p
def vB (e_ : Int) : Option Int :=
 some e_
def qe (a_ : z6) (b_ : z6) : Option Int :=
 Option.bind (vz a_) fun r_ =>
 Option.bind (vz b_) fun r_1 =>
 Option.bind (vo ([r_, r_1])) fun r_2 =>
 bif r_2 == 0 then (
  bif a_.Inputs != b_.Inputs then (
   vB 5)
  else (
   vB r_2))
 else (
  vB r_2)
def ZD (a_ : z6) (b_ : z6) : Option (z6 × z6) :=
 some (a_, b_)
def uq {σ : Type} (at_ : Int) (sg2 : σ) (seen1 : List ((zh Int) × Bool)) (l_1 : List za) : Option (LR (σ × (List ((zh Int) × Bool)) × List za × Int) σ) :=
 some (.next (sg2, seen1, l_1, w64 (at_ + 1)))
def ym {σ : Type} (x38 : Int) (sg4 : σ) (seen3 : List ((zh Int) × Bool)) (l_3 : List za) : Option (LR (σ × (List ((zh Int) × Bool)) × List za × Int) ((σ × (List ((zh Int) × Bool)) × List za) ⊕ σ)) :=
 some (.next (sg4, seen3, l_3, w64 (x38 + 1)))
def wY {σ : Type} (x0 : z6) (x1 : z6) (yy : σ → (zR × List za) → Option (σ × Bool)) (at_ : Int) (l__e : za) (l__e1 : za) (sg3 : σ) (seen2 : List ((zh Int) × Bool)) (l_2 : List za) (x38 : Int) : Option (LR (σ × (List ((zh Int) × Bool)) × List za × Int) ((σ × (List ((zh Int) × Bool)) × List za) ⊕ σ)) :=
 bif decide (x38 < x0.Inputs) then (
  Option.bind (idx x0.Rows l__e.pair_.e0) fun Row_e =>
  Option.bind (idx Row_e x38) fun Row_e_e =>
  Option.bind (idx x1.Rows l__e1.pair_.e1) fun Row_e1 =>
  Option.bind (idx Row_e1 x38) fun Row_e_e1 =>
  Option.bind (yy sg3 ((zR.mk at_ x38 Row_e_e Row_e_e1), l_2)) fun yr =>
  bif yr.2 then (
   bif Row_e_e.To != (-1) then (
    bif Row_e_e1.To != (-1) then (
     Option.bind (some ((JT seen2 (zh.mk Row_e_e.To Row_e_e1.To)).getD false)) fun val =>
     bif !val then (
      gd (l_2.length + ([(za.mk (zh.mk Row_e_e.To Row_e_e1.To) at_ x38)] : List za).length ≤ 4294967296) <|
      ym x38 yr.1 (KC seen2 (zh.mk Row_e_e.To Row_e_e1.To) true) (l_2 ++ ([(za.mk (zh.mk Row_e_e.To Row_e_e1.To) at_ x38)] : List za)))
     else (
      ym x38 yr.1 seen2 l_2))
    else (
     ym x38 yr.1 seen2 l_2))
   else (
    ym x38 yr.1 seen2 l_2))
  else (
   some (.done (.inr yr.1))))
 else (
  some (.done (.inl (sg3, seen2, l_2))))
def wZ {σ : Type} (x0 : z6) (x1 : z6) (yy : σ → (zR × List za) → Option (σ × Bool)) (sg1 : σ) (seen : List ((zh Int) × Bool)) (l_ : List za) (at_ : Int) : Option (LR (σ × (List ((zh Int) × Bool)) × List za × Int) σ) :=
 bif decide (at_ < ((l_.length : Nat) : Int)) then (
  Option.bind (idx l_ at_) fun l__e =>
  Option.bind (idx l_ at_) fun l__e1 =>
  Option.bind (loop (fun s => wY x0 x1 yy at_ l__e l__e1 s.1 s.2.1 s.2.2.1 s.2.2.2) (sg1, seen, l_, 0)) fun t3 =>
  match t3 with
  | .inl p => uq at_ p.1 p.2.1 p.2.2
  | .inr p => some (.done p))
 else (
  some (.done sg1))
def uJ (x0 : z6) (x1 : z6) {σ : Type} (yy : σ → (zR × List za) → Option (σ × Bool)) (sg : σ) : Option σ :=
 Option.bind (loop (fun s => wZ x0 x1 yy s.1 s.2.1 s.2.2.1 s.2.2.2) (sg, (KC ([] : List ((zh Int) × Bool)) (zh.mk 0 0) true), ([(za.mk (zh.mk 0 0) (-1) 0)] : List za), 0)) fun t1 =>
 some t1
def xS (s_ : List Int) : Option (List Int) :=
 gd ((0 : Int) ≤ 0 ∧ (0 : Int) ≤ ((s_.length : Nat) : Int) ∧ (((s_.length : Nat) : Int) : Int) ≤ ((s_.length : Nat) : Int) ∧ (((s_.length : Nat) : Int) : Int) ≤ ((s_.length : Nat) : Int)) <|
 some ((s_.drop 0).take (((s_.length : Nat) : Int).toNat - 0))
def jG (more1 : List Int) : Option (List Int) :=
 Option.bind (xS more1) fun r_ =>
 some r_
def uI (l_ : List za) (at_1 : Int) (more2 : List Int) : Option (LR (Int × List Int) (List Int)) :=
 Option.bind (idx l_ at_1) fun l__e =>
 bif l__e.from_ != (-1) then (
  Option.bind (idx l_ at_1) fun l__e1 =>
  gd (([l__e1.input_] : List Int).length + more2.length ≤ 4294967296) <|
  Option.bind (idx l_ at_1) fun l__e2 =>
  some (.next (l__e2.from_, (([l__e1.input_]) ++ more2))))
 else (
  some (.done more2))
def Zc (l_ : List za) (at_ : Int) (more : List Int) : Option (List Int) :=
 Option.bind (loop (fun s => uI l_ s.1 s.2) (at_, more)) fun t2 =>
 jG t2
def yX : Option Int :=
 some (-1)
def y8 (s_ : List (zh Int)) (v_ : zh Int) (x8 : Int) : Option (LR Int (Unit ⊕ Int)) :=
 bif decide (x8 < ((s_.length : Nat) : Int)) then (
  Option.bind (idx s_ x8) fun s__e =>
  bif (v_.e0 == s__e.e0) && ((v_.e1 == s__e.e1) && true) then (
   some (.done (.inr x8)))
  else (
   some (.next (w64 (x8 + 1)))))
 else (
  some (.done (.inl ())))
def xw (s_ : List (zh Int)) (v_ : zh Int) : Option Int :=
 Option.bind (loop (fun s => y8 s_ v_ s) 0) fun t2 =>
 match t2 with
 | .inl p => yX
 | .inr p => some p
def yk (s_ : List (zh Int)) (v_ : zh Int) : Option Bool :=
 Option.bind (xw s_ v_) fun r_ =>
 some (decide (r_ ≥ 0))
def q0 (x4 : List Int) (pairs : List (zh Int)) : Option (List Int × List (zh Int)) :=
 some (([] : List Int), pairs)
def xG (x41 : List Int) (pairs1 : List (zh Int)) (x15 : zR) (x16 : List za) : Option (LR (List Int × List (zh Int)) ((List Int × List (zh Int)))) :=
 bif x15.x_.Out != x15.y_.Out then (
  Option.bind (Zc x16 x15.at_ ([x15.input_])) fun r_1 =>
  some (.done (r_1, pairs1)))
 else (
  bif x15.x_.To != (-1) then (
   Option.bind (yk pairs1 (zh.mk x15.x_.To x15.y_.To)) fun r_2 =>
   bif !r_2 then (
    gd (pairs1.length + ([(zh.mk x15.x_.To x15.y_.To)] : List (zh Int)).length ≤ 4294967296) <|
    some (.next (x41, (pairs1 ++ ([(zh.mk x15.x_.To x15.y_.To)] : List (zh Int))))))
   else (
    some (.next (x41, pairs1))))
  else (
   some (.next (x41, pairs1))))
def ur (a_ : z6) (b_ : z6) : Option (List Int × List (zh Int)) :=
 Option.bind (ZD a_ b_) fun r_ =>
 Option.bind (uJ r_.1 r_.2 (yOf (fun s x => xG s.1 s.2 x.1 x.2)) (.next (([] : List Int), ([(zh.mk 0 0)] : List (zh Int))))) fun t2 =>
 match t2 with
 | .next (x41, pairs1) => (
  q0 x41 pairs1)
 | .done (x41, pairs1) => (
  some (x41, ([] : List (zh Int))))
def yh (a_ : z6) (b_ : z6) : Option (List Int × Bool × Int) :=
 Option.bind (qe a_ b_) fun r_ =>
 bif r_ != 0 then (
  some (([] : List Int), false, r_))
 else (
  Option.bind (ur a_ b_) fun r_1 =>
  some (r_1.1, decide (((r_1.1.length : Nat) : Int) > 0), 0))
def xM (is : Bool) : Option (Bool × Int) :=
 some (is, 0)
def yZ (x64 : Int) (is2 : Bool) : Option (LR (Bool × Int) Bool) :=
 some (.next (is2, w64 (x64 + 1)))
def yn (b_ : z6) (in_ : List ((zh Int) × Bool)) (r__e : zh Int) (Row_e : List z7) (is3 : Bool) (x75 : Int) : Option (LR (Bool × Int) Bool) :=
 bif decide (x75 < ((Row_e.length : Nat) : Int)) then (
  Option.bind (idx Row_e x75) fun Row_e_e =>
  Option.bind (idx b_.Rows r__e.e1) fun Row_e1 =>
  Option.bind (idx Row_e1 x75) fun Row_e_e1 =>
  bif is3 then (
   bif Row_e_e.Out == Row_e_e1.Out then (
    bif Row_e_e.To == (-1) then (
     some (.next (true, w64 (x75 + 1))))
    else (
     Option.bind (some ((JT in_ (zh.mk Row_e_e.To Row_e_e1.To)).getD false)) fun val1 =>
     some (.next (val1, w64 (x75 + 1)))))
   else (
    some (.next (false, w64 (x75 + 1)))))
  else (
   some (.next (false, w64 (x75 + 1)))))
 else (
  some (.done is3))
def ya (a_ : z6) (b_ : z6) (r_ : List (zh Int)) (in_ : List ((zh Int) × Bool)) (is1 : Bool) (x64 : Int) : Option (LR (Bool × Int) Bool) :=
 bif decide (x64 < ((r_.length : Nat) : Int)) then (
  Option.bind (idx r_ x64) fun r__e =>
  Option.bind (idx a_.Rows r__e.e0) fun Row_e =>
  Option.bind (loop (fun s => yn b_ in_ r__e Row_e s.1 s.2) (is1, 0)) fun t5 =>
  yZ x64 t5)
 else (
  some (.done is1))
def x5 (a_ : z6) (b_ : z6) (r_ : List (zh Int)) (in_ : List ((zh Int) × Bool)) : Option (Bool × Int) :=
 Option.bind (some ((JT in_ (zh.mk 0 0)).getD false)) fun val =>
 Option.bind (loop (fun s => ya a_ b_ r_ in_ s.1 s.2) (val, 0)) fun t3 =>
 xM t3
def y5 (a_ : z6) (b_ : z6) (r_ : List (zh Int)) (in_1 : List ((zh Int) × Bool)) (x30 : Int) : Option (LR ((List ((zh Int) × Bool)) × Int) ((List ((zh Int) × Bool)) ⊕ (Bool × Int))) :=
 bif decide (x30 < ((r_.length : Nat) : Int)) then (
  Option.bind (idx r_ x30) fun r__e1 =>
  bif decide ((mn r__e1.e0 r__e1.e1) < 0) then (
   some (.done (.inr (false, 1))))
  else (
   bif decide (r__e1.e0 ≥ ((a_.Rows.length : Nat) : Int)) then (
    some (.done (.inr (false, 1))))
   else (
    bif decide (r__e1.e1 ≥ ((b_.Rows.length : Nat) : Int)) then (
     some (.done (.inr (false, 1))))
    else (
     some (.next ((KC in_1 r__e1 true), w64 (x30 + 1)))))))
 else (
  some (.done (.inl in_1)))
def zw (a_ : z6) (b_ : z6) (r_ : List (zh Int)) : Option (Bool × Int) :=
 Option.bind (qe a_ b_) fun r_1 =>
 bif r_1 != 0 then (
  some (false, r_1))
 else (
  bif decide (((r_.length : Nat) : Int) > 4096) then (
   some (false, 3))
  else (
   Option.bind (loop (fun s => y5 a_ b_ r_ s.1 s.2) (([] : List ((zh Int) × Bool)), 0)) fun t6 =>
   match t6 with
   | .inl p => x5 a_ b_ r_ p
   | .inr p => some p))
def kw (x_ : zp) (m_Rows : List (List z7)) : Option z6 :=
 some (z6.mk (w64 (1 + (w64 (Int.tmod x_.Inputs 3)))) (w64 (1 + (w64 (Int.tmod x_.Outputs 3)))) m_Rows)
def ku (s_ : Int) (m_Rows2 : List (List z7)) : Option (LR (List (List z7) × Int) (List (List z7))) :=
 some (.next (m_Rows2, w64 (s_ + 1)))
def kr (m_Rows1 : List (List z7)) (s_ : Int) (row : List z7) : Option (LR (List (List z7) × Int) (List (List z7))) :=
 gd (m_Rows1.length + ([row] : List (List z7)).length ≤ 4294967296) <|
 ku s_ (m_Rows1 ++ ([row] : List (List z7)))
def ji (i_ : Int) (row2 : List z7) : Option (LR (List z7 × Int) (List z7)) :=
 some (.next (row2, w64 (i_ + 1)))
def v8 (x_ : zp) (row1 : List z7) (i_ : Int) (v_ : Int) : Option (LR (List z7 × Int) (List z7)) :=
 bif x_.Partial then (
  gd ((4 : Int) ≠ 0) <|
  bif (Int.tmod v_ 4) == 3 then (
   gd (row1.length + ([(z7.mk (-1) (-1))] : List z7).length ≤ 4294967296) <|
   ji i_ (row1 ++ ([(z7.mk (-1) (-1))] : List z7)))
  else (
   gd ((4 : Int) ≠ 0) <|
   gd (((w64 (1 + (w64 (Int.tmod x_.States 6)))) : Int) ≠ 0) <|
   gd ((4 : Int) ≠ 0) <|
   gd (((w64 (1 + (w64 (Int.tmod x_.States 6)))) : Int) ≠ 0) <|
   gd (((w64 (1 + (w64 (Int.tmod x_.Outputs 3)))) : Int) ≠ 0) <|
   gd (row1.length + ([(z7.mk (Int.tmod (w64 (Int.tdiv v_ 4)) (w64 (1 + (w64 (Int.tmod x_.States 6))))) (Int.tmod (w64 (Int.tdiv (w64 (Int.tdiv v_ 4)) (w64 (1 + (w64 (Int.tmod x_.States 6)))))) (w64 (1 + (w64 (Int.tmod x_.Outputs 3))))))] : List z7).length ≤ 4294967296) <|
   ji i_ (row1 ++ ([(z7.mk (Int.tmod (w64 (Int.tdiv v_ 4)) (w64 (1 + (w64 (Int.tmod x_.States 6))))) (Int.tmod (w64 (Int.tdiv (w64 (Int.tdiv v_ 4)) (w64 (1 + (w64 (Int.tmod x_.States 6)))))) (w64 (1 + (w64 (Int.tmod x_.Outputs 3))))))] : List z7))))
 else (
  gd ((4 : Int) ≠ 0) <|
  gd (((w64 (1 + (w64 (Int.tmod x_.States 6)))) : Int) ≠ 0) <|
  gd ((4 : Int) ≠ 0) <|
  gd (((w64 (1 + (w64 (Int.tmod x_.States 6)))) : Int) ≠ 0) <|
  gd (((w64 (1 + (w64 (Int.tmod x_.Outputs 3)))) : Int) ≠ 0) <|
  gd (row1.length + ([(z7.mk (Int.tmod (w64 (Int.tdiv v_ 4)) (w64 (1 + (w64 (Int.tmod x_.States 6))))) (Int.tmod (w64 (Int.tdiv (w64 (Int.tdiv v_ 4)) (w64 (1 + (w64 (Int.tmod x_.States 6)))))) (w64 (1 + (w64 (Int.tmod x_.Outputs 3))))))] : List z7).length ≤ 4294967296) <|
  ji i_ (row1 ++ ([(z7.mk (Int.tmod (w64 (Int.tdiv v_ 4)) (w64 (1 + (w64 (Int.tmod x_.States 6))))) (Int.tmod (w64 (Int.tdiv (w64 (Int.tdiv v_ 4)) (w64 (1 + (w64 (Int.tmod x_.States 6)))))) (w64 (1 + (w64 (Int.tmod x_.Outputs 3))))))] : List z7)))
def jh (x_ : zp) (s_ : Int) (row1 : List z7) (i_ : Int) : Option (LR (List z7 × Int) (List z7)) :=
 bif decide (i_ < (w64 (1 + (w64 (Int.tmod x_.Inputs 3))))) then (
  bif decide ((w64 ((w64 (s_ * (w64 (1 + (w64 (Int.tmod x_.Inputs 3)))))) + i_)) < ((x_.Edges.length : Nat) : Int)) then (
   Option.bind (idx x_.Edges (w64 ((w64 (s_ * (w64 (1 + (w64 (Int.tmod x_.Inputs 3)))))) + i_))) fun Edge_e =>
   v8 x_ row1 i_ (w64 (Edge_e)))
  else (
   v8 x_ row1 i_ 0))
 else (
  some (.done row1))
def kq (x_ : zp) (m_Rows1 : List (List z7)) (s_ : Int) : Option (LR (List (List z7) × Int) (List (List z7))) :=
 bif decide (s_ < (w64 (1 + (w64 (Int.tmod x_.States 6))))) then (
  Option.bind (loop (fun s => jh x_ s_ s.1 s.2) (([] : List z7), 0)) fun t5 =>
  kr m_Rows1 s_ t5)
 else (
  some (.done m_Rows1))
def kI (x_ : zp) : Option z6 :=
 gd ((6 : Int) ≠ 0) <|
 gd ((3 : Int) ≠ 0) <|
 gd ((3 : Int) ≠ 0) <|
 Option.bind (loop (fun s => kq x_ s.1 s.2) (([] : List (List z7)), 0)) fun t2 =>
 kw x_ t2
def kj (m_ : z6) (out_Rows : List (List z7)) : Option z6 :=
 some (z6.mk m_.Inputs m_.Outputs out_Rows)
def ja (m_ : z6) (out_Rows1 : List (List z7)) (s_ : Int) : Option (LR (List (List z7) × Int) (List (List z7))) :=
 bif decide (s_ < ((m_.Rows.length : Nat) : Int)) then (
  Option.bind (idx m_.Rows s_) fun Row_e =>
  gd (([] : List z7).length + Row_e.length ≤ 4294967296) <|
  gd (out_Rows1.length + ([Row_e] : List (List z7)).length ≤ 4294967296) <|
  some (.next ((out_Rows1 ++ ([Row_e] : List (List z7))), w64 (s_ + 1))))
 else (
  some (.done out_Rows1))
def jq (m_ : z6) : Option z6 :=
 Option.bind (loop (fun s => ja m_ s.1 s.2) (([] : List (List z7)), 0)) fun t2 =>
 kj m_ t2
def ZT : Option Int :=
 some 0
def ZS (s_ : Int) : Option (LR Int (Unit ⊕ Int)) :=
 some (.next (w64 (s_ + 1)))
def uG (i_ : Int) : Option (LR Int (Unit ⊕ Int)) :=
 some (.next (w64 (i_ + 1)))
def uF (m_ : z6) (i_ : Int) (Row_e_e : z7) : Option (LR Int (Unit ⊕ Int)) :=
 bif decide (Row_e_e.To < 0) then (
  some (.done (.inr 1)))
 else (
  bif decide (Row_e_e.To ≥ ((m_.Rows.length : Nat) : Int)) then (
   some (.done (.inr 1)))
  else (
   bif decide (Row_e_e.Out < 0) then (
    some (.done (.inr 1)))
   else (
    bif decide (Row_e_e.Out ≥ m_.Outputs) then (
     some (.done (.inr 1)))
    else (
     uG i_))))
def wK (m_ : z6) (s_ : Int) (i_ : Int) : Option (LR Int (Unit ⊕ Int)) :=
 bif decide (i_ < m_.Inputs) then (
  Option.bind (idx m_.Rows s_) fun Row_e1 =>
  Option.bind (idx Row_e1 i_) fun Row_e_e =>
  bif Row_e_e.To == (-1) then (
   bif Row_e_e.Out == (-1) then (
    uG i_)
   else (
    uF m_ i_ Row_e_e))
  else (
   uF m_ i_ Row_e_e))
 else (
  some (.done (.inl ())))
def vw (m_ : z6) (s_ : Int) : Option (LR Int (Unit ⊕ Int)) :=
 bif decide (s_ < ((m_.Rows.length : Nat) : Int)) then (
  Option.bind (idx m_.Rows s_) fun Row_e =>
  bif ((Row_e.length : Nat) : Int) != m_.Inputs then (
   some (.done (.inr 1)))
  else (
   Option.bind (loop (fun s => wK m_ s_ s) 0) fun t4 =>
   match t4 with
   | .inl p => ZS s_
   | .inr p => some (.done (.inr p))))
 else (
  some (.done (.inl ())))
def kX (m_ : z6) : Option Int :=
 bif decide (m_.Inputs > 16) then (
  some 3)
 else (
  bif decide (m_.Outputs > 16) then (
   some 3)
  else (
   bif decide (((m_.Rows.length : Nat) : Int) > 64) then (
    some 3)
   else (
    bif decide (m_.Inputs < 1) then (
     some 1)
    else (
     bif decide (m_.Outputs < 1) then (
      some 1)
     else (
      bif ((m_.Rows.length : Nat) : Int) == 0 then (
       some 1)
      else (
       Option.bind (loop (fun s => vw m_ s) 0) fun t2 =>
       match t2 with
       | .inl p => ZT
       | .inr p => some p))))))
def ko (x_ : zB) (r_ : z6) (r_2 : z6) (b_Rows : List (List z7)) : Option (z6 × z6) :=
 Option.bind (jq (z6.mk r_2.Inputs r_2.Outputs b_Rows)) fun r_3 =>
 gd ((((r_.Rows.length : Nat) : Int) : Int) ≠ 0) <|
 Option.bind (idx r_3.Rows (Int.tmod (w64 (x_.Place.e0)) ((r_.Rows.length : Nat) : Int))) fun Row_e =>
 gd ((r_.Inputs : Int) ≠ 0) <|
 Option.bind (idx Row_e (Int.tmod (w64 (x_.Place.e1)) r_.Inputs)) fun Row_e_e =>
 Option.bind (kX (z6.mk r_3.Inputs r_3.Outputs (r_3.Rows.set (Int.tmod (w64 (x_.Place.e0)) ((r_.Rows.length : Nat) : Int)).toNat (Row_e.set (Int.tmod (w64 (x_.Place.e1)) r_.Inputs).toNat x_.To)))) fun r_4 =>
 bif r_4 == 0 then (
  some (r_, (z6.mk r_3.Inputs r_3.Outputs (r_3.Rows.set (Int.tmod (w64 (x_.Place.e0)) ((r_.Rows.length : Nat) : Int)).toNat (Row_e.set (Int.tmod (w64 (x_.Place.e1)) r_.Inputs).toNat x_.To)))))
 else (
  some (r_, (z6.mk r_2.Inputs r_2.Outputs b_Rows)))
def kn (s_ : Int) (b_Rows2 : List (List z7)) : Option (LR (List (List z7) × Int) (List (List z7))) :=
 some (.next (b_Rows2, w64 (s_ + 1)))
def un (to1 : List Int) (s_ : Int) (b_Rows3 : List (List z7)) (i_ : Int) (Row_e_e1 : z7) (e_To : Int) : Option (LR (List (List z7) × Int) (List (List z7))) :=
 Option.bind (idx to1 s_) fun to_e =>
 Option.bind (idx b_Rows3 to_e) fun b_Row_e =>
 Option.bind (idx b_Row_e i_) fun b_Row_e_e =>
 some (.next ((b_Rows3.set to_e.toNat (b_Row_e.set i_.toNat (z7.mk e_To Row_e_e1.Out))), w64 (i_ + 1)))
def jf (r_ : z6) (to1 : List Int) (s_ : Int) (b_Rows3 : List (List z7)) (i_ : Int) : Option (LR (List (List z7) × Int) (List (List z7))) :=
 bif decide (i_ < r_.Inputs) then (
  Option.bind (idx r_.Rows s_) fun Row_e1 =>
  Option.bind (idx Row_e1 i_) fun Row_e_e1 =>
  bif decide (Row_e_e1.To ≥ 0) then (
   Option.bind (idx to1 Row_e_e1.To) fun to_e1 =>
   un to1 s_ b_Rows3 i_ Row_e_e1 to_e1)
  else (
   un to1 s_ b_Rows3 i_ Row_e_e1 Row_e_e1.To))
 else (
  some (.done b_Rows3))
def jg (r_ : z6) (to1 : List Int) (b_Rows1 : List (List z7)) (s_ : Int) : Option (LR (List (List z7) × Int) (List (List z7))) :=
 bif decide (s_ < ((r_.Rows.length : Nat) : Int)) then (
  Option.bind (loop (fun s => jf r_ to1 s_ s.1 s.2) (b_Rows1, 0)) fun t6 =>
  kn s_ t6)
 else (
  some (.done b_Rows1))
def uo (x_ : zB) (r_ : z6) (to1 : List Int) : Option (z6 × z6) :=
 Option.bind (jq r_) fun r_2 =>
 Option.bind (loop (fun s => jg r_ to1 s.1 s.2) (r_2.Rows, 0)) fun t4 =>
 ko x_ r_ r_2 t4
def kp (x_ : zB) (r_ : z6) (to : List Int) : Option (z6 × z6) :=
 bif decide (((r_.Rows.length : Nat) : Int) > 1) then (
  gd (((w64 (((r_.Rows.length : Nat) : Int) - 1)) : Int) ≠ 0) <|
  gd (((w64 (((r_.Rows.length : Nat) : Int) - 1)) : Int) ≠ 0) <|
  Option.bind (idx to (w64 (1 + (Int.tmod (w64 (x_.Swap.e1)) (w64 (((r_.Rows.length : Nat) : Int) - 1)))))) fun to_e2 =>
  Option.bind (idx to (w64 (1 + (Int.tmod (w64 (x_.Swap.e0)) (w64 (((r_.Rows.length : Nat) : Int) - 1)))))) fun to_e3 =>
  Option.bind (idx to (w64 (1 + (Int.tmod (w64 (x_.Swap.e0)) (w64 (((r_.Rows.length : Nat) : Int) - 1)))))) fun to_e4 =>
  Option.bind (idx (to.set (w64 (1 + (Int.tmod (w64 (x_.Swap.e0)) (w64 (((r_.Rows.length : Nat) : Int) - 1))))).toNat to_e2) (w64 (1 + (Int.tmod (w64 (x_.Swap.e1)) (w64 (((r_.Rows.length : Nat) : Int) - 1)))))) fun u_e =>
  uo x_ r_ ((to.set (w64 (1 + (Int.tmod (w64 (x_.Swap.e0)) (w64 (((r_.Rows.length : Nat) : Int) - 1))))).toNat to_e2).set (w64 (1 + (Int.tmod (w64 (x_.Swap.e1)) (w64 (((r_.Rows.length : Nat) : Int) - 1))))).toNat to_e3))
 else (
  uo x_ r_ to)
def je (r_ : z6) (to2 : List Int) (s_1 : Int) : Option (LR (List Int × Int) (List Int)) :=
 bif decide (s_1 < ((r_.Rows.length : Nat) : Int)) then (
  gd (to2.length + ([s_1] : List Int).length ≤ 4294967296) <|
  some (.next ((to2 ++ ([s_1] : List Int)), w64 (s_1 + 1))))
 else (
  some (.done to2))
def qn (x_ : zB) : Option (z6 × z6) :=
 Option.bind (kI x_.M) fun r_ =>
 bif !x_.Alike then (
  Option.bind (kI (zp.mk x_.X.States x_.M.Inputs x_.X.Outputs x_.X.Partial x_.X.Edges)) fun r_1 =>
  some (r_, r_1))
 else (
  Option.bind (loop (fun s => je r_ s.1 s.2) (([] : List Int), 0)) fun t8 =>
  kp x_ r_ t8)
def qN (a_ : z6) (b_ : z6) (m_Rows1 : List (List z7)) : Option z6 :=
 some (z6.mk a_.Inputs (mx a_.Outputs b_.Outputs) m_Rows1)
def qM (s_ : Int) (m_Rows3 : List (List z7)) : Option (LR (List (List z7) × Int) (List (List z7))) :=
 some (.next (m_Rows3, w64 (s_ + 1)))
def qL (m_Rows2 : List (List z7)) (s_ : Int) (row : List z7) : Option (LR (List (List z7) × Int) (List (List z7))) :=
 gd (m_Rows2.length + ([row] : List (List z7)).length ≤ 4294967296) <|
 qM s_ (m_Rows2 ++ ([row] : List (List z7)))
def u6 (row1 : List z7) (i_ : Int) (Row_e_e : z7) (x_To : Int) : Option (LR (List z7 × Int) (List z7)) :=
 gd (row1.length + ([(z7.mk x_To Row_e_e.Out)] : List z7).length ≤ 4294967296) <|
 some (.next ((row1 ++ ([(z7.mk x_To Row_e_e.Out)] : List z7)), w64 (i_ + 1)))
def xV (a_ : z6) (b_ : z6) (s_ : Int) (row1 : List z7) (i_ : Int) : Option (LR (List z7 × Int) (List z7)) :=
 bif decide (i_ < b_.Inputs) then (
  Option.bind (idx b_.Rows s_) fun Row_e =>
  Option.bind (idx Row_e i_) fun Row_e_e =>
  bif decide (Row_e_e.To ≥ 0) then (
   u6 row1 i_ Row_e_e (w64 (Row_e_e.To + ((a_.Rows.length : Nat) : Int))))
  else (
   u6 row1 i_ Row_e_e Row_e_e.To))
 else (
  some (.done row1))
def xW (a_ : z6) (b_ : z6) (m_Rows2 : List (List z7)) (s_ : Int) : Option (LR (List (List z7) × Int) (List (List z7))) :=
 bif decide (s_ < ((b_.Rows.length : Nat) : Int)) then (
  Option.bind (loop (fun s => xV a_ b_ s_ s.1 s.2) (([] : List z7), 0)) fun t6 =>
  qL m_Rows2 s_ t6)
 else (
  some (.done m_Rows2))
def qO (a_ : z6) (b_ : z6) (m_Rows : List (List z7)) : Option z6 :=
 Option.bind (loop (fun s => xW a_ b_ s.1 s.2) (m_Rows, 0)) fun t3 =>
 qN a_ b_ t3
def xU (a_ : z6) (m_Rows4 : List (List z7)) (s_1 : Int) : Option (LR (List (List z7) × Int) (List (List z7))) :=
 bif decide (s_1 < ((a_.Rows.length : Nat) : Int)) then (
  Option.bind (idx a_.Rows s_1) fun Row_e1 =>
  gd (m_Rows4.length + ([Row_e1] : List (List z7)).length ≤ 4294967296) <|
  some (.next ((m_Rows4 ++ ([Row_e1] : List (List z7))), w64 (s_1 + 1))))
 else (
  some (.done m_Rows4))
def jJ (a_ : z6) (b_ : z6) : Option z6 :=
 Option.bind (loop (fun s => xU a_ s.1 s.2) (([] : List (List z7)), 0)) fun t8 =>
 qO a_ b_ t8
def ZQ : Option Int :=
 some 0
def vt (i_ : Int) (x41 : Int) (x42 : Bool) (x43 : Bool) (x47 : Bool) (x48 : Bool) (x58 : Bool) : Option (LR Int (Unit ⊕ Int)) :=
 some (.next (w64 (i_ + 1)))
def vq (m_ : z6) (marked : List (List Bool)) (s_ : Int) (t_ : Int) (i_ : Int) : Option (LR Int (Unit ⊕ Int)) :=
 bif decide (i_ < m_.Inputs) then (
  Option.bind (idx m_.Rows s_) fun Row_e =>
  Option.bind (idx Row_e i_) fun Row_e_e =>
  Option.bind (idx m_.Rows t_) fun Row_e1 =>
  Option.bind (idx Row_e1 i_) fun Row_e_e1 =>
  bif Row_e_e.Out != Row_e_e1.Out then (
   some (.done (.inr 1)))
  else (
   bif decide (Row_e_e.To ≥ 0) then (
    bif decide (Row_e_e1.To ≥ 0) then (
     Option.bind (idx marked Row_e_e.To) fun marked_e =>
     Option.bind (idx marked_e Row_e_e1.To) fun marked_e_e =>
     bif marked_e_e then (
      some (.done (.inr 1)))
     else (
      vt i_ Row_e_e.To (decide (Row_e_e.To ≥ 0)) (decide (Row_e_e.To ≥ 0)) (decide (Row_e_e1.To ≥ 0)) (decide (Row_e_e1.To ≥ 0)) marked_e_e))
    else (
     vt i_ Row_e_e.To (decide (Row_e_e.To ≥ 0)) (decide (Row_e_e.To ≥ 0)) (decide (Row_e_e1.To ≥ 0)) (decide (Row_e_e1.To ≥ 0)) false))
   else (
    vt i_ Row_e_e.To (decide (Row_e_e.To ≥ 0)) (decide (Row_e_e.To ≥ 0)) false false false)))
 else (
  some (.done (.inl ())))
def kU (m_ : z6) (marked : List (List Bool)) (s_ : Int) (t_ : Int) : Option Int :=
 Option.bind (loop (fun s => vq m_ marked s_ t_ s) 0) fun t2 =>
 match t2 with
 | .inl p => ZQ
 | .inr p => some p
def qX (marked1 : List (List Bool)) : Option (List (List Bool)) :=
 some marked1
def qW (round : Int) (marked3 : List (List Bool)) : Option (LR (List (List Bool) × Int) (List (List Bool))) :=
 some (.next (marked3, w64 (round + 1)))
def qV (round : Int) (next : List (List Bool)) : Option (LR (List (List Bool) × Int) (List (List Bool))) :=
 qW round next
def qU (s_ : Int) (next2 : List (List Bool)) : Option (LR (List (List Bool) × Int) (List (List Bool))) :=
 some (.next (next2, w64 (s_ + 1)))
def xY (m_ : z6) (marked2 : List (List Bool)) (s_ : Int) (next3 : List (List Bool)) (t_ : Int) : Option (LR (List (List Bool) × Int) (List (List Bool))) :=
 bif decide (t_ < ((m_.Rows.length : Nat) : Int)) then (
  Option.bind (idx next3 s_) fun next_e =>
  Option.bind (idx marked2 s_) fun marked_e =>
  Option.bind (idx marked_e t_) fun marked_e_e =>
  bif marked_e_e then (
   Option.bind (idx next_e t_) fun next_e_e =>
   some (.next ((next3.set s_.toNat (next_e.set t_.toNat true)), w64 (t_ + 1))))
  else (
   Option.bind (kU m_ marked2 s_ t_) fun r_ =>
   Option.bind (idx next_e t_) fun next_e_e1 =>
   some (.next ((next3.set s_.toNat (next_e.set t_.toNat (r_ == 1))), w64 (t_ + 1)))))
 else (
  some (.done next3))
def xZ (m_ : z6) (marked2 : List (List Bool)) (next1 : List (List Bool)) (s_ : Int) : Option (LR (List (List Bool) × Int) (List (List Bool))) :=
 bif decide (s_ < ((m_.Rows.length : Nat) : Int)) then (
  gd ((0 : Int) ≤ ((m_.Rows.length : Nat) : Int) ∧ (((m_.Rows.length : Nat) : Int) : Int) ≤ 4294967296) <|
  gd (next1.length + ([(List.replicate ((m_.Rows.length : Nat) : Int).toNat false)] : List (List Bool)).length ≤ 4294967296) <|
  Option.bind (loop (fun s => xY m_ marked2 s_ s.1 s.2) ((next1 ++ ([(List.replicate ((m_.Rows.length : Nat) : Int).toNat false)] : List (List Bool))), 0)) fun t8 =>
  qU s_ t8)
 else (
  some (.done next1))
def w6 (m_ : z6) (k_ : Int) (marked2 : List (List Bool)) (round : Int) : Option (LR (List (List Bool) × Int) (List (List Bool))) :=
 bif decide (round < k_) then (
  Option.bind (loop (fun s => xZ m_ marked2 s.1 s.2) (([] : List (List Bool)), 0)) fun t6 =>
  qV round t6)
 else (
  some (.done marked2))
def qY (m_ : z6) (k_ : Int) (marked : List (List Bool)) : Option (List (List Bool)) :=
 Option.bind (loop (fun s => w6 m_ k_ s.1 s.2) (marked, 0)) fun t3 =>
 qX t3
def xX (m_ : z6) (marked4 : List (List Bool)) (s_1 : Int) : Option (LR (List (List Bool) × Int) (List (List Bool))) :=
 bif decide (s_1 < ((m_.Rows.length : Nat) : Int)) then (
  gd ((0 : Int) ≤ ((m_.Rows.length : Nat) : Int) ∧ (((m_.Rows.length : Nat) : Int) : Int) ≤ 4294967296) <|
  gd (marked4.length + ([(List.replicate ((m_.Rows.length : Nat) : Int).toNat false)] : List (List Bool)).length ≤ 4294967296) <|
  some (.next ((marked4 ++ ([(List.replicate ((m_.Rows.length : Nat) : Int).toNat false)] : List (List Bool))), w64 (s_1 + 1))))
 else (
  some (.done marked4))
def uc (m_ : z6) (k_ : Int) : Option (List (List Bool)) :=
 Option.bind (loop (fun s => xX m_ s.1 s.2) (([] : List (List Bool)), 0)) fun t9 =>
 qY m_ k_ t9
def qI (w_ : List Int) : Option (List Int × Bool) :=
 some (w_, true)
def wU (i_ : Int) (x82 : Int) (x83 : Bool) (x84 : Bool) (x88 : Bool) (x89 : Bool) (x99 : Bool) : Option (LR Int ((Int × Int × Int × List Int))) :=
 some (.next (w64 (i_ + 1)))
def u0 (r_ : z6) (s_ : Int) (t_ : Int) (n_1 : Int) (w_1 : List Int) (r_1 : List (List Bool)) (i_ : Int) : Option (LR Int ((Int × Int × Int × List Int))) :=
 bif decide (i_ < r_.Inputs) then (
  Option.bind (idx r_.Rows s_) fun Row_e =>
  Option.bind (idx Row_e i_) fun Row_e_e =>
  Option.bind (idx r_.Rows t_) fun Row_e1 =>
  Option.bind (idx Row_e1 i_) fun Row_e_e1 =>
  bif Row_e_e.Out != Row_e_e1.Out then (
   gd (w_1.length + ([i_] : List Int).length ≤ 4294967296) <|
   some (.done (Row_e_e.To, Row_e_e1.To, w64 (n_1 - 1), (w_1 ++ ([i_] : List Int)))))
  else (
   bif decide (Row_e_e.To ≥ 0) then (
    bif decide (Row_e_e1.To ≥ 0) then (
     Option.bind (idx r_1 Row_e_e.To) fun r__e =>
     Option.bind (idx r__e Row_e_e1.To) fun r__e_e =>
     bif r__e_e then (
      gd (w_1.length + ([i_] : List Int).length ≤ 4294967296) <|
      some (.done (Row_e_e.To, Row_e_e1.To, w64 (n_1 - 1), (w_1 ++ ([i_] : List Int)))))
     else (
      wU i_ Row_e_e.To (decide (Row_e_e.To ≥ 0)) (decide (Row_e_e.To ≥ 0)) (decide (Row_e_e1.To ≥ 0)) (decide (Row_e_e1.To ≥ 0)) r__e_e))
    else (
     wU i_ Row_e_e.To (decide (Row_e_e.To ≥ 0)) (decide (Row_e_e.To ≥ 0)) (decide (Row_e_e1.To ≥ 0)) (decide (Row_e_e1.To ≥ 0)) false))
   else (
    wU i_ Row_e_e.To (decide (Row_e_e.To ≥ 0)) (decide (Row_e_e.To ≥ 0)) false false false)))
 else (
  some (.done (s_, t_, w64 (n_1 - 1), w_1)))
def qH (r_ : z6) (s_ : Int) (t_ : Int) (n_1 : Int) (w_1 : List Int) : Option (LR (Int × Int × Int × List Int) (List Int)) :=
 bif decide (n_1 > 0) then (
  Option.bind (uc r_ (w64 (n_1 - 1))) fun r_1 =>
  Option.bind (loop (fun s => u0 r_ s_ t_ n_1 w_1 r_1 s) 0) fun t4 =>
  some (.next t4))
 else (
  some (.done w_1))
def qJ (a_ : z6) (r_ : z6) (n_ : Int) : Option (List Int × Bool) :=
 bif n_ == ((r_.Rows.length : Nat) : Int) then (
  some (([] : List Int), false))
 else (
  Option.bind (loop (fun s => qH r_ s.1 s.2.1 s.2.2.1 s.2.2.2) (0, ((a_.Rows.length : Nat) : Int), n_, ([] : List Int))) fun t3 =>
  qI t3)
def vZ (a_ : z6) (r_ : z6) (n_2 : Int) : Option (LR Int Int) :=
 bif decide (n_2 < ((r_.Rows.length : Nat) : Int)) then (
  Option.bind (uc r_ n_2) fun r_2 =>
  Option.bind (idx r_2 0) fun r__e1 =>
  Option.bind (idx r__e1 ((a_.Rows.length : Nat) : Int)) fun r__e_e1 =>
  bif !r__e_e1 then (
   some (.next (w64 (n_2 + 1))))
  else (
   some (.done n_2)))
 else (
  some (.done n_2))
def u3 (a_ : z6) (b_ : z6) : Option (List Int × Bool) :=
 Option.bind (jJ a_ b_) fun r_ =>
 Option.bind (loop (fun s => vZ a_ r_ s) 0) fun t6 =>
 qJ a_ r_ t6
def uV : Option Int :=
 some 0
def wk (a_ : List Int) (b_ : List Int) (i_ : Int) : Option (LR Int (Unit ⊕ Int)) :=
 bif decide (i_ < ((a_.length : Nat) : Int)) then (
  Option.bind (idx a_ i_) fun a__e =>
  Option.bind (idx b_ i_) fun b__e =>
  bif decide (a__e < b__e) then (
   some (.done (.inr (-1))))
  else (
   Option.bind (idx a_ i_) fun a__e1 =>
   Option.bind (idx b_ i_) fun b__e1 =>
   bif decide (a__e1 > b__e1) then (
    some (.done (.inr 1)))
   else (
    some (.next (w64 (i_ + 1))))))
 else (
  some (.done (.inl ())))
def kl (a_ : List Int) (b_ : List Int) : Option Int :=
 bif decide (((a_.length : Nat) : Int) < ((b_.length : Nat) : Int)) then (
  some (-1))
 else (
  bif decide (((a_.length : Nat) : Int) > ((b_.length : Nat) : Int)) then (
   some 1)
  else (
   Option.bind (loop (fun s => wk a_ b_ s) 0) fun t2 =>
   match t2 with
   | .inl p => uV
   | .inr p => some p))
def qm (a_ : List Int) (b_ : List Int) : Option Bool :=
 Option.bind (kl a_ b_) fun r_ =>
 some (r_ == 0)
def ul (l_ : List Int) (e_ : Int) (want : List Int) (f_ : Int) : Option Bool :=
 bif e_ == f_ then (
  Option.bind (qm l_ want) fun r_ =>
  bif r_ then (
   some (((l_.length : Nat) : Int) == ((l_.length : Nat) : Int)))
  else (
   some false))
 else (
  some false)
def kH (m_ : z6) (s_ : Int) (i_ : Int) : Option z7 :=
 bif decide (s_ < 0) then (
  some (z7.mk (-1) (-1)))
 else (
  Option.bind (idx m_.Rows s_) fun Row_e =>
  Option.bind (idx Row_e i_) fun Row_e_e =>
  some Row_e_e)
def ZB (out : List Int) : Option (List Int) :=
 some out
def jM (m_ : z6) (w_ : List Int) (s_1 : Int) (out1 : List Int) (k_ : Int) : Option (LR (Int × List Int × Int) (List Int)) :=
 bif decide (k_ < ((w_.length : Nat) : Int)) then (
  Option.bind (idx w_ k_) fun w__e =>
  Option.bind (kH m_ s_1 w__e) fun r_ =>
  gd (out1.length + ([r_.Out] : List Int).length ≤ 4294967296) <|
  some (.next (r_.To, (out1 ++ ([r_.Out] : List Int)), w64 (k_ + 1))))
 else (
  some (.done out1))
def wv (m_ : z6) (s_ : Int) (w_ : List Int) : Option (List Int) :=
 Option.bind (loop (fun s => jM m_ w_ s.1 s.2.1 s.2.2) (s_, ([] : List Int), 0)) fun t2 =>
 ZB t2
def ud (a_ : z6) (b_ : z6) : Option (Bool × Int) :=
 Option.bind (yh a_ b_) fun r_ =>
 bif r_.2.2 == 0 then (
  some (!r_.2.1, r_.2.2))
 else (
  some (false, r_.2.2))
def jl (x_ : Int) : Option Bool :=
 some (x_ != x_)
def ue (x_ : Int) (y_ : Int) : Option Int :=
 Option.bind (jl x_) fun r_ =>
 Option.bind (jl y_) fun r_1 =>
 bif r_ then (
  bif r_1 then (
   some 0)
  else (
   some (-1)))
 else (
  bif r_1 then (
   some 1)
  else (
   bif decide (x_ < y_) then (
    some (-1))
   else (
    bif decide (x_ > y_) then (
     some 1)
    else (
     some 0))))
def xj (s1 : List Int) (s2 : List Int) : Option Int :=
 bif decide (((s1.length : Nat) : Int) < ((s2.length : Nat) : Int)) then (
  some (-1))
 else (
  some 0)
def ye (s1 : List Int) (s2 : List Int) (x11 : Int) : Option (LR Int (Unit ⊕ Int)) :=
 bif decide (x11 < ((s1.length : Nat) : Int)) then (
  Option.bind (idx s1 x11) fun s_e =>
  bif decide (x11 ≥ ((s2.length : Nat) : Int)) then (
   some (.done (.inr 1)))
  else (
   Option.bind (idx s2 x11) fun s_e1 =>
   Option.bind (ue s_e s_e1) fun r_ =>
   bif r_ != 0 then (
    some (.done (.inr r_)))
   else (
    some (.next (w64 (x11 + 1))))))
 else (
  some (.done (.inl ())))
def xh (s1 : List Int) (s2 : List Int) : Option Int :=
 Option.bind (loop (fun s => ye s1 s2 s) 0) fun t2 =>
 match t2 with
 | .inl p => xj s1 s2
 | .inr p => some p
def xu (p_ : zh Int) (q_ : zh Int) : Option Int :=
 Option.bind (xh ([p_.e0, p_.e1]) ([q_.e0, q_.e1])) fun r_ =>
 some r_
def yY (s_ : List (zh Int)) : Option (List (zh Int)) :=
 gd ((0 : Int) ≤ 0 ∧ (0 : Int) ≤ ((s_.length : Nat) : Int) ∧ (((s_.length : Nat) : Int) : Int) ≤ ((s_.length : Nat) : Int) ∧ (((s_.length : Nat) : Int) : Int) ≤ ((s_.length : Nat) : Int)) <|
 some ((s_.drop 0).take (((s_.length : Nat) : Int).toNat - 0))
def ut (a_ : z6) (b_ : z6) : Option (List (zh Int) × Bool × Int) :=
 Option.bind (qe a_ b_) fun r_ =>
 bif r_ != 0 then (
  some (([] : List (zh Int)), false, r_))
 else (
  Option.bind (ur a_ b_) fun r_1 =>
  Option.bind (z58 (fun x y => xu x y) r_1.2) fun sorted =>
  Option.bind (yY sorted) fun r_2 =>
  some (r_2, ((r_1.1.length : Nat) : Int) == 0, 0))
def xL (a_ : z6) (b_ : z6) (k_ : Int) : Option (Bool × Int) :=
 Option.bind (yh a_ b_) fun r_ =>
 bif r_.2.2 != 0 then (
  some (false, r_.2.2))
 else (
  bif decide (k_ < 0) then (
   some (false, 1))
  else (
   bif !r_.2.1 then (
    some (true, 0))
   else (
    some (decide (((r_.1.length : Nat) : Int) > k_), 0))))
def ZW : Option Bool :=
 some true
def vA (a_ : List (zh Int)) (b_ : List (zh Int)) (k_ : Int) : Option (LR Int (Unit ⊕ Bool)) :=
 bif decide (k_ < ((a_.length : Nat) : Int)) then (
  Option.bind (idx a_ k_) fun a__e =>
  Option.bind (idx b_ k_) fun b__e =>
  bif !((a__e.e0 == b__e.e0) && ((a__e.e1 == b__e.e1) && true)) then (
   some (.done (.inr false)))
  else (
   some (.next (w64 (k_ + 1)))))
 else (
  some (.done (.inl ())))
def js (a_ : List (zh Int)) (b_ : List (zh Int)) : Option Bool :=
 bif ((a_.length : Nat) : Int) != ((b_.length : Nat) : Int) then (
  some false)
 else (
  bif ((a_.length : Nat) : Int) != ((a_.length : Nat) : Int) then (
   some false)
  else (
   Option.bind (loop (fun s => vA a_ b_ s) 0) fun t2 =>
   match t2 with
   | .inl p => ZW
   | .inr p => some p))
def w7 : Option Bool :=
 Option.bind (y9 1 0) fun r_ =>
 Option.bind (y9 2 0) fun r_1 =>
 Option.bind (y9 0 1) fun r_2 =>
 Option.bind (y9 1 0) fun r_3 =>
 Option.bind (y9 2 0) fun r_4 =>
 Option.bind (y9 3 1) fun r_5 =>
 Option.bind (y9 1 0) fun r_6 =>
 Option.bind (y9 1 0) fun r_7 =>
 Option.bind (y9 2 0) fun r_8 =>
 Option.bind (y9 2 0) fun r_9 =>
 Option.bind (y9 0 0) fun r_10 =>
 Option.bind (y9 0 0) fun r_11 =>
 Option.bind (yh (z6.mk 1 2 ([[r_], [r_1], [r_2]])) (z6.mk 1 2 ([[r_3], [r_4], [r_5], [r_6]]))) fun r_12 =>
 Option.bind (ud (z6.mk 1 2 ([[r_], [r_1], [r_2]])) (z6.mk 1 2 ([[r_3], [r_4], [r_5], [r_6]]))) fun r_13 =>
 Option.bind (ut (z6.mk 1 2 ([[r_], [r_1], [r_2]])) (z6.mk 1 2 ([[r_3], [r_4], [r_5], [r_6]]))) fun r_14 =>
 Option.bind (yh (z6.mk 1 2 ([[r_], [r_1], [r_2]])) (z6.mk 1 2 ([[r_7], [r_8], [r_9]]))) fun r_15 =>
 Option.bind (xL (z6.mk 1 2 ([[r_], [r_1], [r_2]])) (z6.mk 1 2 ([[r_7], [r_8], [r_9]])) 2) fun r_16 =>
 Option.bind (xL (z6.mk 1 2 ([[r_], [r_1], [r_2]])) (z6.mk 1 2 ([[r_7], [r_8], [r_9]])) 3) fun r_17 =>
 Option.bind (zw (z6.mk 1 2 ([[r_], [r_1], [r_2]])) (z6.mk 1 2 ([[r_3], [r_4], [r_5], [r_6]])) ([(zh.mk 0 0), (zh.mk 0 3), (zh.mk 1 1), (zh.mk 2 2)])) fun r_18 =>
 Option.bind (zw (z6.mk 1 2 ([[r_], [r_1], [r_2]])) (z6.mk 1 2 ([[r_3], [r_4], [r_5], [r_6]])) ([(zh.mk 0 0), (zh.mk 1 1)])) fun r_19 =>
 Option.bind (ud (z6.mk 1 2 ([[r_], [r_1], [r_2]])) (z6.mk 2 1 ([[r_10, r_11]]))) fun r_20 =>
 Option.bind (xL (z6.mk 1 2 ([[r_], [r_1], [r_2]])) (z6.mk 1 2 ([[r_3], [r_4], [r_5], [r_6]])) (-1)) fun r_21 =>
 Option.bind (zw (z6.mk 1 2 ([[r_], [r_1], [r_2]])) (z6.mk 1 2 ([[r_3], [r_4], [r_5], [r_6]])) ([(zh.mk 0 4)])) fun r_22 =>
 Option.bind (ul r_12.1 r_12.2.2 [] 0) fun r_23 =>
 bif r_23 then (
  bif !r_12.2.1 then (
   bif r_13.1 then (
    bif r_13.2 == 0 then (
     Option.bind (js r_14.1 ([(zh.mk 0 0), (zh.mk 0 3), (zh.mk 1 1), (zh.mk 2 2)])) fun r_24 =>
     bif r_24 then (
      bif r_14.2.1 then (
       bif r_14.2.2 == 0 then (
        Option.bind (ul r_15.1 r_15.2.2 ([0, 0, 0]) 0) fun r_25 =>
        bif r_25 then (
         bif r_15.2.1 then (
          bif r_16.1 then (
           bif r_16.2 == 0 then (
            bif !r_17.1 then (
             bif r_17.2 == 0 then (
              bif r_18.1 then (
               bif r_18.2 == 0 then (
                bif !r_19.1 then (
                 bif r_19.2 == 0 then (
                  bif r_20.2 == 5 then (
                   bif r_21.2 == 1 then (
                    some (r_22.2 == 1))
                   else (
                    some false))
                  else (
                   some false))
                 else (
                  some false))
                else (
                 some false))
               else (
                some false))
              else (
               some false))
             else (
              some false))
            else (
             some false))
           else (
            some false))
          else (
           some false))
         else (
          some false))
        else (
         some false))
       else (
        some false))
      else (
       some false))
     else (
      some false))
    else (
     some false))
   else (
    some false))
  else (
   some false))
 else (
  some false)
def xr : Option Bool :=
 Option.bind (w7) fun r_6 =>
 some r_6
def wC (x_ : zB) : Option Bool :=
 Option.bind (qn (zB.mk x_.M x_.X x_.Alike x_.Swap x_.Place x_.To)) fun r_ =>
 Option.bind (yh r_.1 r_.2) fun r_1 =>
 Option.bind (yh r_.2 r_.1) fun r_2 =>
 Option.bind (u3 r_.1 r_.2) fun r_3 =>
 Option.bind (ul r_1.1 r_1.2.2 r_3.1 0) fun r_4 =>
 bif !r_4 then (
  some false)
 else (
  Option.bind (ul r_2.1 r_2.2.2 r_3.1 0) fun r_5 =>
  bif !r_5 then (
   some false)
  else (
   bif !(r_1.2.1 == r_3.2) then (
    some false)
   else (
    bif !(r_2.2.1 == r_3.2) then (
     some false)
    else (
     bif r_1.2.1 then (
      Option.bind (wv r_.1 0 r_1.1) fun r_7 =>
      Option.bind (wv r_.2 0 r_1.1) fun r_8 =>
      Option.bind (qm r_7 r_8) fun r_9 =>
      bif r_9 then (
       some false)
      else (
       gd ((0 : Int) ≤ 0 ∧ (0 : Int) ≤ w64 (((r_1.1.length : Nat) : Int) - 1) ∧ (w64 (((r_1.1.length : Nat) : Int) - 1) : Int) ≤ ((r_1.1.length : Nat) : Int)) <|
       Option.bind (wv r_.1 0 ((r_1.1.drop 0).take ((w64 (((r_1.1.length : Nat) : Int) - 1)).toNat - 0))) fun r_10 =>
       gd ((0 : Int) ≤ 0 ∧ (0 : Int) ≤ w64 (((r_1.1.length : Nat) : Int) - 1) ∧ (w64 (((r_1.1.length : Nat) : Int) - 1) : Int) ≤ ((r_1.1.length : Nat) : Int)) <|
       Option.bind (wv r_.2 0 ((r_1.1.drop 0).take ((w64 (((r_1.1.length : Nat) : Int) - 1)).toNat - 0))) fun r_11 =>
       Option.bind (qm r_10 r_11) fun r_12 =>
       bif !r_12 then (
        some false)
       else (
        bif decide (((r_1.1.length : Nat) : Int) ≥ (w64 (((r_.1.Rows.length : Nat) : Int) + ((r_.2.Rows.length : Nat) : Int)))) then (
         some false)
        else (
         xr))))
     else (
      xr)))))
def ky (out : List Int) : Option (List Int) :=
 some out
def kx (x_ : v7) (inputs : Int) (out1 : List Int) (i_ : Int) : Option (LR (List Int × Int) (List Int)) :=
 bif decide (i_ < ((x_.Symbols.length : Nat) : Int)) then (
  bif decide (i_ < 12) then (
   Option.bind (idx x_.Symbols i_) fun Symbol_e =>
   gd ((inputs : Int) ≠ 0) <|
   gd (out1.length + ([Int.tmod (w64 (Symbol_e)) inputs] : List Int).length ≤ 4294967296) <|
   some (.next ((out1 ++ ([Int.tmod (w64 (Symbol_e)) inputs] : List Int)), w64 (i_ + 1))))
  else (
   some (.done out1)))
 else (
  some (.done out1))
def Y5 (x_ : v7) (inputs : Int) : Option (List Int) :=
 Option.bind (loop (fun s => kx x_ inputs s.1 s.2) (([] : List Int), 0)) fun t2 =>
 ky t2
def qS (out : List Int) : Option (List Int) :=
 some out
def vK (s_ : Int) (out2 : List Int) (n_1 : Int) : Option (LR (List Int × Int × Int) (List Int)) :=
 some (.next (out2, n_1, w64 (s_ + 1)))
def xA (out1 : List Int) (s_ : Int) (n_2 : Int) (b_1 : Int) : Option (LR (List Int × Int × Int) (List Int)) :=
 gd (out1.length + ([b_1] : List Int).length ≤ 4294967296) <|
 vK s_ (out1 ++ ([b_1] : List Int)) n_2
def vJ (out1 : List Int) (n_ : Int) (s_ : Int) (b_ : Int) : Option (LR (List Int × Int × Int) (List Int)) :=
 bif decide (b_ < 0) then (
  xA out1 s_ (w64 (n_ + 1)) n_)
 else (
  xA out1 s_ n_ b_)
def wu (t_ : Int) (b_3 : Int) : Option (LR (Int × Int) Int) :=
 some (.next (b_3, w64 (t_ + 1)))
def wt (marked : List (List Bool)) (out1 : List Int) (s_ : Int) (b_2 : Int) (t_ : Int) : Option (LR (Int × Int) Int) :=
 bif decide (t_ < s_) then (
  Option.bind (idx marked s_) fun marked_e =>
  Option.bind (idx marked_e t_) fun marked_e_e =>
  bif !marked_e_e then (
   Option.bind (idx out1 t_) fun out_e =>
   wu t_ out_e)
  else (
   wu t_ b_2))
 else (
  some (.done b_2))
def vI (marked : List (List Bool)) (out1 : List Int) (n_ : Int) (s_ : Int) : Option (LR (List Int × Int × Int) (List Int)) :=
 bif decide (s_ < ((marked.length : Nat) : Int)) then (
  Option.bind (loop (fun s => wt marked out1 s_ s.1 s.2) ((-1), 0)) fun t6 =>
  vJ out1 n_ s_ t6)
 else (
  some (.done out1))
def ub (marked : List (List Bool)) : Option (List Int) :=
 Option.bind (loop (fun s => vI marked s.1 s.2.1 s.2.2) (([] : List Int), 0, 0)) fun t2 =>
 qS t2
def ZA (m_ : z6) (k_ : Int) : Option (List Int) :=
 Option.bind (uc m_ k_) fun r_ =>
 Option.bind (ub r_) fun r_1 =>
 some r_1
def uj (m_ : z6) : Option (List Int) :=
 Option.bind (ZA m_ ((m_.Rows.length : Nat) : Int)) fun r_ =>
 some r_
def uk (rc_ : z6 → Int → (List Int) → Option Int) (m_ : z6) (s_ : Int) (w_ : List Int) : Option Int :=
 bif ((w_.length : Nat) : Int) == 0 then (
  some s_)
 else (
  Option.bind (idx w_ 0) fun w__e =>
  Option.bind (kH m_ s_ w__e) fun r_ =>
  gd ((0 : Int) ≤ 1 ∧ (1 : Int) ≤ ((w_.length : Nat) : Int) ∧ (((w_.length : Nat) : Int) : Int) ≤ ((w_.length : Nat) : Int)) <|
  Option.bind (rc_ m_ r_.To (w_.drop (1 : Int).toNat)) fun r_1 =>
  some r_1)
def jb (fu : Nat) : z6 → Int → (List Int) → Option Int := Nat.rec (motive := fun _ => z6 → Int → (List Int) → Option Int) (fun _ _ _ => none) (fun _ ih => uk ih) fu
def YD (m_ : z6) (s_ : Int) (w_ : List Int) : Option Int := jb (w_.length + 1) m_ s_ w_
def j0 (out : List Int) : Option (List Int) :=
 gd (out.length + ([0] : List Int).length ≤ 4294967296) <|
 some (out ++ ([0] : List Int))
def qZ (inputs : Int) (out1 : List Int) (k_ : Int) : Option (LR (List Int × Int) (List Int ⊕ List Int)) :=
 bif decide (k_ ≥ 0) then (
  Option.bind (idx out1 k_) fun out_e =>
  bif decide ((w64 (out_e + 1)) < inputs) then (
   Option.bind (idx out1 k_) fun out_e1 =>
   Option.bind (idx out1 k_) fun out_e2 =>
   some (.done (.inr (out1.set k_.toNat (w64 (out_e1 + 1))))))
  else (
   Option.bind (idx out1 k_) fun out_e3 =>
   some (.next ((out1.set k_.toNat 0), w64 (k_ - 1)))))
 else (
  some (.done (.inl out1)))
def kF (w_ : List Int) (inputs : Int) : Option (List Int) :=
 gd (([] : List Int).length + w_.length ≤ 4294967296) <|
 Option.bind (loop (fun s => qZ inputs s.1 s.2) (w_, w64 (((w_.length : Nat) : Int) - 1))) fun t2 =>
 match t2 with
 | .inl p => j0 p
 | .inr p => some p
def jE (l_ : List (List Int)) (is : List Bool) : Option (List (List Int) × List Bool) :=
 some (l_, is)
def wJ (m_ : z6) (w_ : List Int) (l_2 : List (List Int)) (is2 : List Bool) : Option (LR (List (List Int) × List Bool × List Int) ((List (List Int) × List Bool))) :=
 Option.bind (kF w_ m_.Inputs) fun r_ =>
 some (.next (l_2, is2, r_))
def jD (m_ : z6) (from_ : Int) (l_1 : List (List Int)) (is1 : List Bool) (w_ : List Int) : Option (LR (List (List Int) × List Bool × List Int) ((List (List Int) × List Bool))) :=
 bif decide (((w_.length : Nat) : Int) < ((m_.Rows.length : Nat) : Int)) then (
  Option.bind (YD m_ from_ w_) fun r_1 =>
  bif decide (r_1 ≥ 0) then (
   Option.bind (idx is1 r_1) fun is_e =>
   bif !is_e then (
    Option.bind (idx is1 r_1) fun is_e1 =>
    Option.bind (idx l_1 r_1) fun l__e =>
    wJ m_ w_ (l_1.set r_1.toNat w_) (is1.set r_1.toNat true))
   else (
    wJ m_ w_ l_1 is1))
  else (
   wJ m_ w_ l_1 is1))
 else (
  some (.done (l_1, is1)))
def kV (m_ : z6) (from_ : Int) : Option (List (List Int) × List Bool) :=
 gd ((0 : Int) ≤ ((m_.Rows.length : Nat) : Int) ∧ (((m_.Rows.length : Nat) : Int) : Int) ≤ 4294967296) <|
 gd ((0 : Int) ≤ ((m_.Rows.length : Nat) : Int) ∧ (((m_.Rows.length : Nat) : Int) : Int) ≤ 4294967296) <|
 Option.bind (loop (fun s => jD m_ from_ s.1 s.2.1 s.2.2) ((List.replicate ((m_.Rows.length : Nat) : Int).toNat ([] : List Int)), (List.replicate ((m_.Rows.length : Nat) : Int).toNat false), ([] : List Int))) fun t2 =>
 jE t2.1 t2.2
def jL (m_ : z6) : Option (List (List Int) × List Bool) :=
 Option.bind (kV m_ 0) fun r_ =>
 some (r_.1, r_.2)
def YB : Option Int :=
 some 0
def j6 (a_ : List Int) (b_ : List Int) (i_ : Int) : Option (LR Int (Unit ⊕ Int)) :=
 bif decide (i_ < ((a_.length : Nat) : Int)) then (
  Option.bind (idx a_ i_) fun a__e =>
  Option.bind (idx b_ i_) fun b__e =>
  bif a__e != b__e then (
   Option.bind (idx a_ i_) fun a__e1 =>
   Option.bind (idx b_ i_) fun b__e1 =>
   bif decide (a__e1 < b__e1) then (
    some (.done (.inr 1)))
   else (
    some (.done (.inr 0))))
  else (
   some (.next (w64 (i_ + 1)))))
 else (
  some (.done (.inl ())))
def Y0 (a_ : List Int) (b_ : List Int) : Option Int :=
 bif ((a_.length : Nat) : Int) != ((b_.length : Nat) : Int) then (
  bif decide (((a_.length : Nat) : Int) < ((b_.length : Nat) : Int)) then (
   some 1)
  else (
   some 0))
 else (
  Option.bind (loop (fun s => j6 a_ b_ s) 0) fun t2 =>
  match t2 with
  | .inl p => YB
  | .inr p => some p)
def ZR (out : List Int) : Option (List Int) :=
 some out
def vu (s_ : Int) (out2 : List Int) : Option (LR (List Int × Int) (List Int)) :=
 some (.next (out2, w64 (s_ + 1)))
def jF (out1 : List Int) (s_ : Int) (k_ : Int) : Option (LR (List Int × Int) (List Int)) :=
 gd ((0 : Int) ≤ 0 ∧ (0 : Int) ≤ k_ ∧ (k_ : Int) ≤ ((out1.length : Nat) : Int)) <|
 gd (([] : List Int).length + ((out1.drop 0).take (k_.toNat - 0)).length ≤ 4294967296) <|
 gd (((out1.drop 0).take (k_.toNat - 0)).length + ([s_] : List Int).length ≤ 4294967296) <|
 gd ((0 : Int) ≤ k_ ∧ (k_ : Int) ≤ ((out1.length : Nat) : Int) ∧ (((out1.length : Nat) : Int) : Int) ≤ ((out1.length : Nat) : Int)) <|
 gd ((((out1.drop 0).take (k_.toNat - 0)) ++ ([s_] : List Int)).length + (out1.drop k_.toNat).length ≤ 4294967296) <|
 vu s_ ((((out1.drop 0).take (k_.toNat - 0)) ++ ([s_] : List Int)) ++ (out1.drop k_.toNat))
def uD (r_ : List (List Int) × List Bool) (out1 : List Int) (s_ : Int) (k_1 : Int) : Option (LR Int Int) :=
 bif decide (k_1 < ((out1.length : Nat) : Int)) then (
  Option.bind (idx out1 k_1) fun out_e =>
  Option.bind (idx r_.1 out_e) fun u_1 =>
  Option.bind (idx r_.1 s_) fun u_2 =>
  Option.bind (Y0 u_1 u_2) fun r_1 =>
  bif r_1 == 1 then (
   some (.next (w64 (k_1 + 1))))
  else (
   some (.done k_1)))
 else (
  some (.done k_1))
def uE (r_ : List (List Int) × List Bool) (out1 : List Int) (s_ : Int) : Option (LR (List Int × Int) (List Int)) :=
 bif decide (s_ < ((r_.1.length : Nat) : Int)) then (
  Option.bind (idx r_.2 s_) fun u_ =>
  bif !u_ then (
   vu s_ out1)
  else (
   Option.bind (loop (fun s => uD r_ out1 s_ s) 0) fun t5 =>
   jF out1 s_ t5))
 else (
  some (.done out1))
def kW (m_ : z6) : Option (List Int) :=
 Option.bind (jL m_) fun r_ =>
 Option.bind (loop (fun s => uE r_ s.1 s.2) (([] : List Int), 0)) fun t2 =>
 ZR t2
def qR (out : List Int) : Option (List Int) :=
 some out
def wV (k_ : Int) (out2 : List Int) : Option (LR (List Int × Int) (List Int)) :=
 some (.next (out2, w64 (k_ + 1)))
def qQ (r_1 : List Int) (out1 : List Int) (k_ : Int) (there : Int) : Option (LR (List Int × Int) (List Int)) :=
 bif there == 0 then (
  Option.bind (idx r_1 k_) fun r__e =>
  gd (out1.length + ([r__e] : List Int).length ≤ 4294967296) <|
  wV k_ (out1 ++ ([r__e] : List Int)))
 else (
  wV k_ out1)
def u9 (n_ : Int) (there2 : Int) : Option (LR (Int × Int) Int) :=
 some (.next (there2, w64 (n_ + 1)))
def u7 (r_ : List Int) (r_1 : List Int) (k_ : Int) (there1 : Int) (n_ : Int) : Option (LR (Int × Int) Int) :=
 bif decide (n_ < k_) then (
  Option.bind (idx r_1 n_) fun r__e1 =>
  Option.bind (idx r_ r__e1) fun r__e2 =>
  Option.bind (idx r_1 k_) fun r__e3 =>
  Option.bind (idx r_ r__e3) fun r__e4 =>
  bif r__e2 == r__e4 then (
   u9 n_ 1)
  else (
   u9 n_ there1))
 else (
  some (.done there1))
def qP (r_ : List Int) (r_1 : List Int) (out1 : List Int) (k_ : Int) : Option (LR (List Int × Int) (List Int)) :=
 bif decide (k_ < ((r_1.length : Nat) : Int)) then (
  Option.bind (loop (fun s => u7 r_ r_1 k_ s.1 s.2) (0, 0)) fun t5 =>
  qQ r_1 out1 k_ t5)
 else (
  some (.done out1))
def ua (m_ : z6) : Option (List Int) :=
 Option.bind (uj m_) fun r_ =>
 Option.bind (kW m_) fun r_1 =>
 Option.bind (loop (fun s => qP r_ r_1 s.1 s.2) (([] : List Int), 0)) fun t2 =>
 qR t2
def uU (out : List Bool) : Option (List Bool) :=
 some out
def uT (round : Int) (out2 : List Bool) : Option (LR (List Bool × Int) (List Bool)) :=
 some (.next (out2, w64 (round + 1)))
def uS (s_ : Int) (out4 : List Bool) : Option (LR (List Bool × Int) (List Bool)) :=
 some (.next (out4, w64 (s_ + 1)))
def wj (i_ : Int) (out6 : List Bool) : Option (LR (List Bool × Int) (List Bool)) :=
 some (.next (out6, w64 (i_ + 1)))
def vj (m_ : z6) (s_ : Int) (out5 : List Bool) (i_ : Int) : Option (LR (List Bool × Int) (List Bool)) :=
 bif decide (i_ < m_.Inputs) then (
  Option.bind (idx m_.Rows s_) fun Row_e =>
  Option.bind (idx Row_e i_) fun Row_e_e =>
  Option.bind (idx out5 s_) fun out_e =>
  bif out_e then (
   bif decide (Row_e_e.To ≥ 0) then (
    Option.bind (idx out5 Row_e_e.To) fun out_e1 =>
    wj i_ (out5.set Row_e_e.To.toNat true))
   else (
    wj i_ out5))
  else (
   wj i_ out5))
 else (
  some (.done out5))
def vm (m_ : z6) (out3 : List Bool) (s_ : Int) : Option (LR (List Bool × Int) (List Bool)) :=
 bif decide (s_ < ((m_.Rows.length : Nat) : Int)) then (
  Option.bind (loop (fun s => vj m_ s_ s.1 s.2) (out3, 0)) fun t6 =>
  uS s_ t6)
 else (
  some (.done out3))
def uR (m_ : z6) (out1 : List Bool) (round : Int) : Option (LR (List Bool × Int) (List Bool)) :=
 bif decide (round < ((m_.Rows.length : Nat) : Int)) then (
  Option.bind (loop (fun s => vm m_ s.1 s.2) (out1, 0)) fun t4 =>
  uT round t4)
 else (
  some (.done out1))
def j9 (m_ : z6) (from_ : Int) : Option (List Bool) :=
 gd ((0 : Int) ≤ ((m_.Rows.length : Nat) : Int) ∧ (((m_.Rows.length : Nat) : Int) : Int) ≤ 4294967296) <|
 Option.bind (idx (List.replicate ((m_.Rows.length : Nat) : Int).toNat false) from_) fun u_e =>
 Option.bind (loop (fun s => uR m_ s.1 s.2) (((List.replicate ((m_.Rows.length : Nat) : Int).toNat false).set from_.toNat true), 0)) fun t2 =>
 uU t2
def Zz (out : List Int) : Option (List Int) :=
 some out
def Zy (s_ : Int) (out2 : List Int) : Option (LR (List Int × Int) (List Int)) :=
 some (.next (out2, w64 (s_ + 1)))
def Zx (out1 : List Int) (s_ : Int) (k_ : Int) : Option (LR (List Int × Int) (List Int)) :=
 gd (out1.length + ([k_] : List Int).length ≤ 4294967296) <|
 Zy s_ (out1 ++ ([k_] : List Int))
def qj (n_ : Int) (k_2 : Int) : Option (LR (Int × Int) Int) :=
 some (.next (k_2, w64 (n_ + 1)))
def jK (r_ : List Int) (r_1 : List Int) (r_2 : List Bool) (s_ : Int) (k_1 : Int) (n_ : Int) : Option (LR (Int × Int) Int) :=
 bif decide (n_ < ((r_1.length : Nat) : Int)) then (
  Option.bind (idx r_2 s_) fun r__e =>
  bif r__e then (
   Option.bind (idx r_1 n_) fun r__e1 =>
   Option.bind (idx r_ r__e1) fun r__e2 =>
   Option.bind (idx r_ s_) fun r__e3 =>
   bif r__e2 == r__e3 then (
    qj n_ n_)
   else (
    qj n_ k_1))
  else (
   qj n_ k_1))
 else (
  some (.done k_1))
def Zw (r_ : List Int) (r_1 : List Int) (r_2 : List Bool) (out1 : List Int) (s_ : Int) : Option (LR (List Int × Int) (List Int)) :=
 bif decide (s_ < ((r_.length : Nat) : Int)) then (
  Option.bind (loop (fun s => jK r_ r_1 r_2 s_ s.1 s.2) ((-1), 0)) fun t5 =>
  Zx out1 s_ t5)
 else (
  some (.done out1))
def Xn (m_ : z6) : Option (List Int) :=
 Option.bind (uj m_) fun r_ =>
 Option.bind (ua m_) fun r_1 =>
 Option.bind (j9 m_ 0) fun r_2 =>
 Option.bind (loop (fun s => Zw r_ r_1 r_2 s.1 s.2) (([] : List Int), 0)) fun t2 =>
 Zz t2
def uQ (m_ : z6) (out_Rows : List (List z7)) : Option z6 :=
 some (z6.mk m_.Inputs m_.Outputs out_Rows)
def uP (k_ : Int) (out_Rows2 : List (List z7)) : Option (LR (List (List z7) × Int) (List (List z7))) :=
 some (.next (out_Rows2, w64 (k_ + 1)))
def uO (out_Rows1 : List (List z7)) (k_ : Int) (row : List z7) : Option (LR (List (List z7) × Int) (List (List z7))) :=
 gd (out_Rows1.length + ([row] : List (List z7)).length ≤ 4294967296) <|
 uP k_ (out_Rows1 ++ ([row] : List (List z7)))
def wh (row1 : List z7) (i_ : Int) (Row_e_e : z7) (x_To : Int) : Option (LR (List z7 × Int) (List z7)) :=
 gd (row1.length + ([(z7.mk x_To Row_e_e.Out)] : List z7).length ≤ 4294967296) <|
 some (.next ((row1 ++ ([(z7.mk x_To Row_e_e.Out)] : List z7)), w64 (i_ + 1)))
def vg (m_ : z6) (r_ : List Int) (r_1 : List Int) (k_ : Int) (row1 : List z7) (i_ : Int) : Option (LR (List z7 × Int) (List z7)) :=
 bif decide (i_ < m_.Inputs) then (
  Option.bind (idx r_ k_) fun r__e =>
  Option.bind (idx m_.Rows r__e) fun Row_e =>
  Option.bind (idx Row_e i_) fun Row_e_e =>
  bif decide (Row_e_e.To ≥ 0) then (
   Option.bind (idx r_1 Row_e_e.To) fun r__e1 =>
   wh row1 i_ Row_e_e r__e1)
  else (
   wh row1 i_ Row_e_e Row_e_e.To))
 else (
  some (.done row1))
def vh (m_ : z6) (r_ : List Int) (r_1 : List Int) (out_Rows1 : List (List z7)) (k_ : Int) : Option (LR (List (List z7) × Int) (List (List z7))) :=
 bif decide (k_ < ((r_.length : Nat) : Int)) then (
  Option.bind (loop (fun s => vg m_ r_ r_1 k_ s.1 s.2) (([] : List z7), 0)) fun t5 =>
  uO out_Rows1 k_ t5)
 else (
  some (.done out_Rows1))
def ui (m_ : z6) : Option z6 :=
 Option.bind (ua m_) fun r_ =>
 Option.bind (Xn m_) fun r_1 =>
 Option.bind (loop (fun s => vh m_ r_ r_1 s.1 s.2) (([] : List (List z7)), 0)) fun t2 =>
 uQ m_ t2
def YC : Option Bool :=
 some true
def ki (s_ : Int) : Option (LR Int (Unit ⊕ Bool)) :=
 some (.next (w64 (s_ + 1)))
def j7 (a_ : z6) (b_ : z6) (s_ : Int) (i_ : Int) : Option (LR Int (Unit ⊕ Bool)) :=
 Option.bind (idx a_.Rows s_) fun Row_e2 =>
 bif decide (i_ < ((Row_e2.length : Nat) : Int)) then (
  Option.bind (idx a_.Rows s_) fun Row_e3 =>
  Option.bind (idx Row_e3 i_) fun Row_e_e =>
  Option.bind (idx b_.Rows s_) fun Row_e4 =>
  Option.bind (idx Row_e4 i_) fun Row_e_e1 =>
  bif !((Row_e_e.To == Row_e_e1.To) && ((Row_e_e.Out == Row_e_e1.Out) && true)) then (
   some (.done (.inr false)))
  else (
   some (.next (w64 (i_ + 1)))))
 else (
  some (.done (.inl ())))
def j8 (a_ : z6) (b_ : z6) (s_ : Int) : Option (LR Int (Unit ⊕ Bool)) :=
 bif decide (s_ < ((a_.Rows.length : Nat) : Int)) then (
  Option.bind (idx a_.Rows s_) fun Row_e =>
  Option.bind (idx b_.Rows s_) fun Row_e1 =>
  bif ((Row_e.length : Nat) : Int) != ((Row_e1.length : Nat) : Int) then (
   some (.done (.inr false)))
  else (
   Option.bind (loop (fun s => j7 a_ b_ s_ s) 0) fun t4 =>
   match t4 with
   | .inl p => ki s_
   | .inr p => some (.done (.inr p))))
 else (
  some (.done (.inl ())))
def kG (a_ : z6) (b_ : z6) : Option Bool :=
 bif a_.Inputs != b_.Inputs then (
  some false)
 else (
  bif a_.Outputs != b_.Outputs then (
   some false)
  else (
   bif ((a_.Rows.length : Nat) : Int) != ((b_.Rows.length : Nat) : Int) then (
    some false)
   else (
    Option.bind (loop (fun s => j8 a_ b_ s) 0) fun t2 =>
    match t2 with
    | .inl p => YC
    | .inr p => some p)))
def wX (x_ : zB) (y_ : v7) : Option Bool :=
 Option.bind (qn x_) fun r_ =>
 Option.bind (Y5 y_ r_.1.Inputs) fun r_1 =>
 Option.bind (ud r_.1 r_.2) fun r_2 =>
 Option.bind (ui r_.1) fun r_3 =>
 Option.bind (ui r_.2) fun r_4 =>
 bif r_2.2 == 0 then (
  Option.bind (kG r_3 (z6.mk r_4.Inputs r_3.Outputs r_4.Rows)) fun r_5 =>
  bif r_2.1 == r_5 then (
   bif !r_2.1 then (
    Option.bind (w7) fun r_6 =>
    some r_6)
   else (
    Option.bind (wv r_.1 0 r_1) fun r_7 =>
    Option.bind (wv r_.2 0 r_1) fun r_8 =>
    Option.bind (qm r_7 r_8) fun r_9 =>
    bif r_9 then (
     Option.bind (w7) fun r_10 =>
     some r_10)
    else (
     some false)))
  else (
   some false))
 else (
  some false)
def ww (x_ : zB) (k_ : Int) : Option Bool :=
 Option.bind (qn x_) fun r_ =>
 Option.bind (xL r_.1 r_.2 k_) fun r_1 =>
 bif decide (k_ < 0) then (
  bif !r_1.1 then (
   bif r_1.2 == 1 then (
    Option.bind (w7) fun r_2 =>
    some r_2)
   else (
    some false))
  else (
   some false))
 else (
  Option.bind (u3 r_.1 r_.2) fun r_3 =>
  Option.bind (xL r_.1 r_.2 (w64 ((w64 (((r_.1.Rows.length : Nat) : Int) + ((r_.2.Rows.length : Nat) : Int))) - 1))) fun r_4 =>
  bif r_1.2 == 0 then (
   bif !r_3.2 then (
    bif r_1.1 == true then (
     bif r_4.2 == 0 then (
      bif r_4.1 == (!r_3.2) then (
       Option.bind (w7) fun r_5 =>
       some r_5)
      else (
       some false))
     else (
      some false))
    else (
     some false))
   else (
    bif r_1.1 == (decide (((r_3.1.length : Nat) : Int) > k_)) then (
     bif r_4.2 == 0 then (
      bif r_4.1 == (!r_3.2) then (
       Option.bind (w7) fun r_6 =>
       some r_6)
      else (
       some false))
     else (
      some false))
    else (
     some false)))
  else (
   some false))
def jA (out : List (zh Int)) : Option (List (zh Int)) :=
 some out
def jz (s_ : Int) (out2 : List (zh Int)) : Option (LR (List (zh Int) × Int) (List (zh Int))) :=
 some (.next (out2, w64 (s_ + 1)))
def uC (t_ : Int) (out4 : List (zh Int)) : Option (LR (List (zh Int) × Int) (List (zh Int))) :=
 some (.next (out4, w64 (t_ + 1)))
def wH (b_ : z6) (in_1 : List (List Bool)) (s_ : Int) (out3 : List (zh Int)) (t_ : Int) : Option (LR (List (zh Int) × Int) (List (zh Int))) :=
 bif decide (t_ < ((b_.Rows.length : Nat) : Int)) then (
  Option.bind (idx in_1 s_) fun in__e1 =>
  Option.bind (idx in__e1 t_) fun in__e_e1 =>
  bif in__e_e1 then (
   gd (out3.length + ([(zh.mk s_ t_)] : List (zh Int)).length ≤ 4294967296) <|
   uC t_ (out3 ++ ([(zh.mk s_ t_)] : List (zh Int))))
  else (
   uC t_ out3))
 else (
  some (.done out3))
def wI (a_ : z6) (b_ : z6) (in_1 : List (List Bool)) (out1 : List (zh Int)) (s_ : Int) : Option (LR (List (zh Int) × Int) (List (zh Int))) :=
 bif decide (s_ < ((a_.Rows.length : Nat) : Int)) then (
  Option.bind (loop (fun s => wH b_ in_1 s_ s.1 s.2) (out1, 0)) fun t6 =>
  jz s_ t6)
 else (
  some (.done out1))
def jB (a_ : z6) (b_ : z6) (in_1 : List (List Bool)) : Option (List (zh Int)) :=
 Option.bind (loop (fun s => wI a_ b_ in_1 s.1 s.2) (([] : List (zh Int)), 0)) fun t4 =>
 jA t4
def jy (round : Int) (in_3 : List (List Bool)) : Option (LR (List (List Bool) × Int) (List (List Bool))) :=
 some (.next (in_3, w64 (round + 1)))
def qG (s_1 : Int) (in_5 : List (List Bool)) : Option (LR (List (List Bool) × Int) (List (List Bool))) :=
 some (.next (in_5, w64 (s_1 + 1)))
def qE (t_1 : Int) (in_7 : List (List Bool)) : Option (LR (List (List Bool) × Int) (List (List Bool))) :=
 some (.next (in_7, w64 (t_1 + 1)))
def wT (i_ : Int) (in_9 : List (List Bool)) : Option (LR (List (List Bool) × Int) (List (List Bool))) :=
 some (.next (in_9, w64 (i_ + 1)))
def vW (a_ : z6) (b_ : z6) (s_1 : Int) (t_1 : Int) (in_8 : List (List Bool)) (i_ : Int) : Option (LR (List (List Bool) × Int) (List (List Bool))) :=
 bif decide (i_ < a_.Inputs) then (
  Option.bind (idx in_8 s_1) fun in__e2 =>
  Option.bind (idx in__e2 t_1) fun in__e_e2 =>
  bif in__e_e2 then (
   Option.bind (idx a_.Rows s_1) fun Row_e =>
   Option.bind (idx Row_e i_) fun Row_e_e =>
   Option.bind (idx b_.Rows t_1) fun Row_e1 =>
   Option.bind (idx Row_e1 i_) fun Row_e_e1 =>
   bif decide (Row_e_e.To ≥ 0) then (
    bif decide (Row_e_e1.To ≥ 0) then (
     Option.bind (idx in_8 Row_e_e.To) fun in__e3 =>
     Option.bind (idx in__e3 Row_e_e1.To) fun in__e_e3 =>
     wT i_ (in_8.set Row_e_e.To.toNat (in__e3.set Row_e_e1.To.toNat true)))
    else (
     wT i_ in_8))
   else (
    wT i_ in_8))
  else (
   some (.done in_8)))
 else (
  some (.done in_8))
def vX (a_ : z6) (b_ : z6) (s_1 : Int) (in_6 : List (List Bool)) (t_1 : Int) : Option (LR (List (List Bool) × Int) (List (List Bool))) :=
 bif decide (t_1 < ((b_.Rows.length : Nat) : Int)) then (
  Option.bind (loop (fun s => vW a_ b_ s_1 t_1 s.1 s.2) (in_6, 0)) fun t14 =>
  qE t_1 t14)
 else (
  some (.done in_6))
def vY (a_ : z6) (b_ : z6) (in_4 : List (List Bool)) (s_1 : Int) : Option (LR (List (List Bool) × Int) (List (List Bool))) :=
 bif decide (s_1 < ((a_.Rows.length : Nat) : Int)) then (
  Option.bind (loop (fun s => vX a_ b_ s_1 s.1 s.2) (in_4, 0)) fun t12 =>
  qG s_1 t12)
 else (
  some (.done in_4))
def uB (a_ : z6) (b_ : z6) (in_2 : List (List Bool)) (round : Int) : Option (LR (List (List Bool) × Int) (List (List Bool))) :=
 bif decide (round < (w64 (((a_.Rows.length : Nat) : Int) * ((b_.Rows.length : Nat) : Int)))) then (
  Option.bind (loop (fun s => vY a_ b_ s.1 s.2) (in_2, 0)) fun t10 =>
  jy round t10)
 else (
  some (.done in_2))
def jC (a_ : z6) (b_ : z6) (in_ : List (List Bool)) : Option (List (zh Int)) :=
 Option.bind (idx in_ 0) fun in__e =>
 Option.bind (idx in__e 0) fun in__e_e =>
 Option.bind (loop (fun s => uB a_ b_ s.1 s.2) ((in_.set (0 : Int).toNat (in__e.set (0 : Int).toNat true)), 0)) fun t8 =>
 jB a_ b_ t8
def xT (a_ : z6) (b_ : z6) (in_10 : List (List Bool)) (s_2 : Int) : Option (LR (List (List Bool) × Int) (List (List Bool))) :=
 bif decide (s_2 < ((a_.Rows.length : Nat) : Int)) then (
  gd ((0 : Int) ≤ ((b_.Rows.length : Nat) : Int) ∧ (((b_.Rows.length : Nat) : Int) : Int) ≤ 4294967296) <|
  gd (in_10.length + ([(List.replicate ((b_.Rows.length : Nat) : Int).toNat false)] : List (List Bool)).length ≤ 4294967296) <|
  some (.next ((in_10 ++ ([(List.replicate ((b_.Rows.length : Nat) : Int).toNat false)] : List (List Bool))), w64 (s_2 + 1))))
 else (
  some (.done in_10))
def kT (a_ : z6) (b_ : z6) : Option (List (zh Int)) :=
 Option.bind (loop (fun s => xT a_ b_ s.1 s.2) (([] : List (List Bool)), 0)) fun t16 =>
 jC a_ b_ t16
def Wr : Option Int :=
 some 0
def jp (l_ : List (zh Int)) (p_ : zh Int) (k_ : Int) : Option (LR Int (Unit ⊕ Int)) :=
 bif decide (k_ < ((l_.length : Nat) : Int)) then (
  Option.bind (idx l_ k_) fun l__e =>
  bif (l__e.e0 == p_.e0) && ((l__e.e1 == p_.e1) && true) then (
   some (.done (.inr 1)))
  else (
   some (.next (w64 (k_ + 1)))))
 else (
  some (.done (.inl ())))
def Zv (l_ : List (zh Int)) (p_ : zh Int) : Option Int :=
 Option.bind (loop (fun s => jp l_ p_ s) 0) fun t2 =>
 match t2 with
 | .inl p => Wr
 | .inr p => some p
def qK : Option Int :=
 some 1
def vH (k_ : Int) : Option (LR Int (Unit ⊕ Int)) :=
 some (.next (w64 (k_ + 1)))
def wr (i_ : Int) (x58 : Int) (x59 : Bool) (x60 : Bool) (x69 : Bool) : Option (LR Int (Unit ⊕ Int)) :=
 some (.next (w64 (i_ + 1)))
def xy (a_ : z6) (b_ : z6) (r_ : List (zh Int)) (k_ : Int) (i_ : Int) : Option (LR Int (Unit ⊕ Int)) :=
 bif decide (i_ < a_.Inputs) then (
  Option.bind (idx r_ k_) fun r__e =>
  Option.bind (idx a_.Rows r__e.e0) fun Row_e =>
  Option.bind (idx Row_e i_) fun Row_e_e =>
  Option.bind (idx r_ k_) fun r__e1 =>
  Option.bind (idx b_.Rows r__e1.e1) fun Row_e1 =>
  Option.bind (idx Row_e1 i_) fun Row_e_e1 =>
  bif Row_e_e.Out != Row_e_e1.Out then (
   some (.done (.inr 0)))
  else (
   bif decide (Row_e_e.To ≥ 0) then (
    Option.bind (Zv r_ (zh.mk Row_e_e.To Row_e_e1.To)) fun r_2 =>
    bif r_2 == 0 then (
     some (.done (.inr 0)))
    else (
     wr i_ Row_e_e.To (decide (Row_e_e.To ≥ 0)) (decide (Row_e_e.To ≥ 0)) (r_2 == 0)))
   else (
    wr i_ Row_e_e.To (decide (Row_e_e.To ≥ 0)) (decide (Row_e_e.To ≥ 0)) false)))
 else (
  some (.done (.inl ())))
def xz (a_ : z6) (b_ : z6) (r_ : List (zh Int)) (k_ : Int) : Option (LR Int (Unit ⊕ Int)) :=
 bif decide (k_ < ((r_.length : Nat) : Int)) then (
  Option.bind (loop (fun s => xy a_ b_ r_ k_ s) 0) fun t4 =>
  match t4 with
  | .inl p => vH k_
  | .inr p => some (.done (.inr p)))
 else (
  some (.done (.inl ())))
def u4 (a_ : z6) (b_ : z6) (r_ : List (zh Int)) : Option Int :=
 Option.bind (Zv r_ (zh.mk 0 0)) fun r_1 =>
 bif r_1 == 0 then (
  some 0)
 else (
  Option.bind (loop (fun s => xz a_ b_ r_ s) 0) fun t2 =>
  match t2 with
  | .inl p => qK
  | .inr p => some p)
def yl : Option Bool :=
 Option.bind (w7) fun r_4 =>
 some r_4
def wx (r_ : z6 × z6) (less : List (zh Int)) : Option Bool :=
 Option.bind (zw r_.1 r_.2 less) fun r_5 =>
 bif r_5.1 then (
  some false)
 else (
  bif r_5.2 != 0 then (
   some false)
  else (
   yl))
def xp (k_ : Int) (less2 : List (zh Int)) : Option (LR (List (zh Int) × Int) (List (zh Int))) :=
 some (.next (less2, w64 (k_ + 1)))
def xo (more : List (zh Int)) (r_1 : List (zh Int) × Bool × Int) (all1 : List (zh Int)) (less1 : List (zh Int)) (k_ : Int) : Option (LR (List (zh Int) × Int) (List (zh Int))) :=
 bif decide (k_ < ((all1.length : Nat) : Int)) then (
  Option.bind (idx all1 k_) fun all_e =>
  Option.bind (idx r_1.1 (Int.tmod ((more.length : Nat) : Int) ((r_1.1.length : Nat) : Int))) fun u_ =>
  bif !((all_e.e0 == u_.e0) && ((all_e.e1 == u_.e1) && true)) then (
   Option.bind (idx all1 k_) fun all_e1 =>
   gd (less1.length + ([all_e1] : List (zh Int)).length ≤ 4294967296) <|
   xp k_ (less1 ++ ([all_e1] : List (zh Int))))
  else (
   xp k_ less1))
 else (
  some (.done less1))
def yS (more : List (zh Int)) (r_ : z6 × z6) (r_1 : List (zh Int) × Bool × Int) (all1 : List (zh Int)) : Option Bool :=
 bif r_1.2.1 then (
  bif decide (((r_1.1.length : Nat) : Int) > 0) then (
   gd ((((r_1.1.length : Nat) : Int) : Int) ≠ 0) <|
   Option.bind (loop (fun s => xo more r_1 all1 s.1 s.2) (([] : List (zh Int)), 0)) fun t6 =>
   wx r_ t6)
  else (
   yl))
 else (
  yl)
def xq (more : List (zh Int)) (r_ : z6 × z6) (r_1 : List (zh Int) × Bool × Int) (all1 : List (zh Int)) : Option Bool :=
 Option.bind (zw r_.1 r_.2 all1) fun r_3 =>
 bif r_3.2 != 0 then (
  some false)
 else (
  Option.bind (u4 r_.1 r_.2 all1) fun r_6 =>
  bif !(r_3.1 == (r_6 == 1)) then (
   some false)
  else (
   bif r_3.1 then (
    bif !r_1.2.1 then (
     some false)
    else (
     yS more r_ r_1 all1))
   else (
    yS more r_ r_1 all1)))
def xm (more : List (zh Int)) (r_ : z6 × z6) (all2 : List (zh Int)) (k_1 : Int) : Option (LR (List (zh Int) × Int) (List (zh Int))) :=
 bif decide (k_1 < ((more.length : Nat) : Int)) then (
  Option.bind (idx more k_1) fun more_e =>
  gd ((((r_.1.Rows.length : Nat) : Int) : Int) ≠ 0) <|
  Option.bind (idx more k_1) fun more_e1 =>
  gd ((((r_.2.Rows.length : Nat) : Int) : Int) ≠ 0) <|
  gd (all2.length + ([(zh.mk (Int.tmod (w64 (more_e.e0)) ((r_.1.Rows.length : Nat) : Int)) (Int.tmod (w64 (more_e1.e1)) ((r_.2.Rows.length : Nat) : Int)))] : List (zh Int)).length ≤ 4294967296) <|
  some (.next ((all2 ++ ([(zh.mk (Int.tmod (w64 (more_e.e0)) ((r_.1.Rows.length : Nat) : Int)) (Int.tmod (w64 (more_e1.e1)) ((r_.2.Rows.length : Nat) : Int)))] : List (zh Int))), w64 (k_1 + 1))))
 else (
  some (.done all2))
def yT (more : List (zh Int)) (r_ : z6 × z6) (r_1 : List (zh Int) × Bool × Int) (all : List (zh Int)) : Option Bool :=
 Option.bind (loop (fun s => xm more r_ s.1 s.2) (all, 0)) fun t8 =>
 xq more r_ r_1 t8
def wy (x_ : zB) (more : List (zh Int)) : Option Bool :=
 bif decide (((more.length : Nat) : Int) > 40) then (
  some true)
 else (
  Option.bind (qn x_) fun r_ =>
  Option.bind (ut r_.1 r_.2) fun r_1 =>
  Option.bind (u3 r_.1 r_.2) fun r_2 =>
  bif r_1.2.2 != 0 then (
   some false)
  else (
   bif r_1.2.1 == r_2.2 then (
    some false)
   else (
    bif r_1.2.1 then (
     Option.bind (kT r_.1 r_.2) fun r_7 =>
     Option.bind (js r_1.1 r_7) fun r_8 =>
     bif !r_8 then (
      some false)
     else (
      Option.bind (zw r_.1 r_.2 r_1.1) fun r_9 =>
      bif !r_9.1 then (
       some false)
      else (
       bif r_9.2 != 0 then (
        some false)
       else (
        gd (([] : List (zh Int)).length + r_1.1.length ≤ 4294967296) <|
        yT more r_ r_1 r_1.1))))
    else (
     bif ((r_1.1.length : Nat) : Int) != 0 then (
      some false)
     else (
      yT more r_ r_1 ([] : List (zh Int)))))))
def xc : Option Bool :=
 Option.bind (w7) fun r_3 =>
 some r_3
def wS (n_ : Int) (k_1 : Int) (x177_M_Edges : List Int) (x177_X_States : Int) (x177_X_Edges : List Int) (x177_Swap_e1 : Int) (x177_Place_e0 : Int) (x177_To_To : Int) (x177_To_Out : Int) (x178 : Int) (x179 : Int) (x183_Symbols : List Int) (x184 : Bool) (x185 : Bool) (x188_M_Edges : List Int) (x188_X_States : Int) (x188_X_Edges : List Int) (x188_Swap_e1 : Int) (x188_Place_e0 : Int) (x188_To_To : Int) (x188_To_Out : Int) (x191 : Bool) (x192 : Bool) (x195_M_Edges : List Int) (x195_X_States : Int) (x195_X_Edges : List Int) (x195_Swap_e1 : Int) (x195_Place_e0 : Int) (x195_To_To : Int) (x195_To_Out : Int) (x198 : Int) (x199 : Int) (x200_e1 : Int) (x202 : List (zh Int)) (x203 : Bool) (x204 : Bool) : Option (LR (Int × Int) (Unit ⊕ Bool)) :=
 some (.next (k_1, w64 (n_ + 1)))
def wR (n_ : Int) (k_2 : Int) (l_ : List Int) : Option (LR (Int × Int) (Unit ⊕ Bool)) :=
 gd ((3 : Int) ≠ 0) <|
 gd ((2 : Int) ≠ 0) <|
 gd ((3 : Int) ≠ 0) <|
 gd ((0 : Int) ≤ 3 ∧ (3 : Int) ≤ ((l_.length : Nat) : Int) ∧ (((l_.length : Nat) : Int) : Int) ≤ ((l_.length : Nat) : Int)) <|
 gd ((4 : Int) ≠ 0) <|
 gd ((5 : Int) ≠ 0) <|
 gd ((4 : Int) ≠ 0) <|
 Option.bind (y9 (Int.tmod n_ 5) (Int.tmod n_ 4)) fun r_4 =>
 Option.bind (wC (zB.mk (zp.mk (IntKind.u8.wrap (n_)) (IntKind.u8.wrap (w64 (Int.tdiv n_ 3))) 1 ((Int.tmod n_ 2) == 0) l_) (zp.mk (IntKind.u8.wrap (k_2)) 0 1 ((Int.tmod n_ 3) == 0) (l_.drop (3 : Int).toNat)) ((Int.tmod n_ 4) != 0) (zh.mk (IntKind.u8.wrap (n_)) (IntKind.u8.wrap (k_2))) (zh.mk (IntKind.u8.wrap (k_2)) (IntKind.u8.wrap (n_))) r_4)) fun r_5 =>
 bif !r_5 then (
  some (.done (.inr false)))
 else (
  Option.bind (wX (zB.mk (zp.mk (IntKind.u8.wrap (n_)) (IntKind.u8.wrap (w64 (Int.tdiv n_ 3))) 1 ((Int.tmod n_ 2) == 0) l_) (zp.mk (IntKind.u8.wrap (k_2)) 0 1 ((Int.tmod n_ 3) == 0) (l_.drop (3 : Int).toNat)) ((Int.tmod n_ 4) != 0) (zh.mk (IntKind.u8.wrap (n_)) (IntKind.u8.wrap (k_2))) (zh.mk (IntKind.u8.wrap (k_2)) (IntKind.u8.wrap (n_))) r_4) (v7.mk ([IntKind.u8.wrap (k_2), IntKind.u8.wrap (n_), 1, 2]))) fun r_6 =>
  bif !r_6 then (
   some (.done (.inr false)))
  else (
   gd ((8 : Int) ≠ 0) <|
   Option.bind (ww (zB.mk (zp.mk (IntKind.u8.wrap (n_)) (IntKind.u8.wrap (w64 (Int.tdiv n_ 3))) 1 ((Int.tmod n_ 2) == 0) l_) (zp.mk (IntKind.u8.wrap (k_2)) 0 1 ((Int.tmod n_ 3) == 0) (l_.drop (3 : Int).toNat)) ((Int.tmod n_ 4) != 0) (zh.mk (IntKind.u8.wrap (n_)) (IntKind.u8.wrap (k_2))) (zh.mk (IntKind.u8.wrap (k_2)) (IntKind.u8.wrap (n_))) r_4) (Int.tmod n_ 8)) fun r_7 =>
   bif !r_7 then (
    some (.done (.inr false)))
   else (
    Option.bind (wy (zB.mk (zp.mk (IntKind.u8.wrap (n_)) (IntKind.u8.wrap (w64 (Int.tdiv n_ 3))) 1 ((Int.tmod n_ 2) == 0) l_) (zp.mk (IntKind.u8.wrap (k_2)) 0 1 ((Int.tmod n_ 3) == 0) (l_.drop (3 : Int).toNat)) ((Int.tmod n_ 4) != 0) (zh.mk (IntKind.u8.wrap (n_)) (IntKind.u8.wrap (k_2))) (zh.mk (IntKind.u8.wrap (k_2)) (IntKind.u8.wrap (n_))) r_4) ([(zh.mk (IntKind.u8.wrap (n_)) (IntKind.u8.wrap (k_2))), (zh.mk 0 1)])) fun r_8 =>
    bif !r_8 then (
     some (.done (.inr false)))
    else (
     wS n_ k_2 l_ (IntKind.u8.wrap (k_2)) (l_.drop (3 : Int).toNat) (IntKind.u8.wrap (k_2)) (IntKind.u8.wrap (k_2)) r_4.To r_4.Out k_2 (IntKind.u8.wrap (k_2)) ([IntKind.u8.wrap (k_2), IntKind.u8.wrap (n_), 1, 2] : List Int) r_6 (!r_6) l_ (IntKind.u8.wrap (k_2)) (l_.drop (3 : Int).toNat) (IntKind.u8.wrap (k_2)) (IntKind.u8.wrap (k_2)) r_4.To r_4.Out r_7 (!r_7) l_ (IntKind.u8.wrap (k_2)) (l_.drop (3 : Int).toNat) (IntKind.u8.wrap (k_2)) (IntKind.u8.wrap (k_2)) r_4.To r_4.Out k_2 (IntKind.u8.wrap (k_2)) (IntKind.u8.wrap (k_2)) ([(zh.mk (IntKind.u8.wrap (n_)) (IntKind.u8.wrap (k_2))), (zh.mk 0 1)] : List (zh Int)) r_8 (!r_8)))))
def xa (n_ : Int) (k_3 : Int) (l_1 : List Int) (i_ : Int) : Option (LR (Int × List Int × Int) ((Int × List Int))) :=
 bif decide (i_ < 18) then (
  gd ((100003 : Int) ≠ 0) <|
  gd (((w64 (8 + n_)) : Int) ≠ 0) <|
  gd (l_1.length + ([IntKind.u16.wrap (Int.tmod (Int.tmod (w64 ((w64 ((w64 (k_3 * 31)) + (w64 (7 * i_)))) + 11)) 100003) (w64 (8 + n_)))] : List Int).length ≤ 4294967296) <|
  some (.next (Int.tmod (w64 ((w64 ((w64 (k_3 * 31)) + (w64 (7 * i_)))) + 11)) 100003, (l_1 ++ ([IntKind.u16.wrap (Int.tmod (Int.tmod (w64 ((w64 ((w64 (k_3 * 31)) + (w64 (7 * i_)))) + 11)) 100003) (w64 (8 + n_)))] : List Int)), w64 (i_ + 1))))
 else (
  some (.done (k_3, l_1)))
def yw (k_ : Int) (n_ : Int) : Option (LR (Int × Int) (Unit ⊕ Bool)) :=
 bif decide (n_ < 40) then (
  Option.bind (loop (fun s => xa n_ s.1 s.2.1 s.2.2) (k_, ([] : List Int), 0)) fun t6 =>
  wR n_ t6.1 t6.2)
 else (
  some (.done (.inl ())))
def xJ : Option Bool :=
 Option.bind (y9 0 0) fun r_ =>
 gd ((0 : Int) ≤ 4096 ∧ (4096 : Int) ≤ 4294967296) <|
 Option.bind (zw (z6.mk 1 1 ([[r_]])) (z6.mk 1 1 ([[r_]])) (List.replicate (4096 : Int).toNat (zh.mk 0 0))) fun r_1 =>
 gd ((0 : Int) ≤ 4097 ∧ (4097 : Int) ≤ 4294967296) <|
 Option.bind (zw (z6.mk 1 1 ([[r_]])) (z6.mk 1 1 ([[r_]])) (List.replicate (4097 : Int).toNat (zh.mk 0 0))) fun r_2 =>
 bif !r_1.1 then (
  some false)
 else (
  bif r_1.2 != 0 then (
   some false)
  else (
   bif r_2.1 then (
    some false)
   else (
    bif r_2.2 != 3 then (
     some false)
    else (
     Option.bind (loop (fun s => yw s.1 s.2) (1, 0)) fun t3 =>
     match t3 with
     | .inl p => xc
     | .inr p => some p))))
def wQ (n_1 : Int) (x72 : Bool) (x73 : Bool) (x76 : List Int) (x77 : Int) (x79 : Bool) : Option (LR Int (Unit ⊕ Bool)) :=
 some (.next (w64 (n_1 + 1)))
def wP (n_1 : Int) (l_e0_Rows : List (List z7)) (l_e1_Rows : List (List z7)) : Option (LR Int (Unit ⊕ Bool)) :=
 Option.bind (yh (z6.mk 1 2 l_e0_Rows) (z6.mk 1 2 l_e1_Rows)) fun r_9 =>
 bif r_9.2.2 != 0 then (
  some (.done (.inr false)))
 else (
  bif !r_9.2.1 then (
   some (.done (.inr false)))
  else (
   bif ((r_9.1.length : Nat) : Int) != n_1 then (
    some (.done (.inr false)))
   else (
    wQ n_1 r_9.2.1 (!r_9.2.1) r_9.1 ((r_9.1.length : Nat) : Int) (((r_9.1.length : Nat) : Int) != n_1))))
def wz (n_1 : Int) (l_e0_Rows1 : List (List z7)) (l_e1_Rows1 : List (List z7)) : Option (LR Int (Unit ⊕ Bool)) :=
 wP n_1 l_e0_Rows1 l_e1_Rows1
def zZ (n_1 : Int) (l_e1_Rows2 : List (List z7)) (s_ : Int) : Option (LR (List (List z7) × Int) (List (List z7))) :=
 bif decide (s_ < (w64 (n_1 + 1))) then (
  gd (((w64 (n_1 + 1)) : Int) ≠ 0) <|
  gd (((w64 (n_1 + 1)) : Int) ≠ 0) <|
  Option.bind (y9 (Int.tmod (w64 (s_ + 1)) (w64 (n_1 + 1))) (w64 (Int.tdiv (w64 (s_ + 1)) (w64 (n_1 + 1))))) fun r_10 =>
  gd (l_e1_Rows2.length + ([[r_10]] : List (List z7)).length ≤ 4294967296) <|
  some (.next ((l_e1_Rows2 ++ ([[r_10]] : List (List z7))), w64 (s_ + 1))))
 else (
  some (.done l_e1_Rows2))
def wB (n_1 : Int) (l_e0_Rows1 : List (List z7)) : Option (LR Int (Unit ⊕ Bool)) :=
 Option.bind (loop (fun s => zZ n_1 s.1 s.2) (([] : List (List z7)), 0)) fun t12 =>
 wz n_1 l_e0_Rows1 t12
def zY (n_1 : Int) (l_e0_Rows2 : List (List z7)) (s_1 : Int) : Option (LR (List (List z7) × Int) (List (List z7))) :=
 bif decide (s_1 < (w64 (n_1 + 0))) then (
  gd (((w64 (n_1 + 0)) : Int) ≠ 0) <|
  gd (((w64 (n_1 + 0)) : Int) ≠ 0) <|
  Option.bind (y9 (Int.tmod (w64 (s_1 + 1)) (w64 (n_1 + 0))) (w64 (Int.tdiv (w64 (s_1 + 1)) (w64 (n_1 + 0))))) fun r_11 =>
  gd (l_e0_Rows2.length + ([[r_11]] : List (List z7)).length ≤ 4294967296) <|
  some (.next ((l_e0_Rows2 ++ ([[r_11]] : List (List z7))), w64 (s_1 + 1))))
 else (
  some (.done l_e0_Rows2))
def xI (n_1 : Int) : Option (LR Int (Unit ⊕ Bool)) :=
 bif decide (n_1 < 64) then (
  Option.bind (loop (fun s => zY n_1 s.1 s.2) (([] : List (List z7)), 0)) fun t13 =>
  wB n_1 t13)
 else (
  some (.done (.inl ())))
def um : Option Bool :=
 Option.bind (loop (fun s => xI s) 1) fun t7 =>
 match t7 with
 | .inl p => xJ
 | .inr p => some p
abbrev F0_ := yG (eI .i64)
abbrev F1_ := eSl 1 true (eI .i64)
abbrev F2_ := eSl 1 false (eI .i64)
abbrev F3_ := eSl 1 false (eI .u16)
abbrev F4_ := eOs 1 false (eI .i64)
abbrev F5_ := eSl 2 true F0_
abbrev F6_ := eSl 2 false F0_
abbrev F7_ := wl (eI .i64) (eI .i64)
abbrev F8_ := eOs 2 true F7_
abbrev F9_ := eSl 2 true F7_
abbrev zP := eSl 2 false F7_
abbrev uv := eOs 2 false F7_
abbrev XN := y7 F0_ (eI .i64) (eI .i64)
abbrev zeW := eSl 1 true F9_
abbrev zeV := eSl 1 false zP
abbrev kK := Y8 (eI .u8) (eI .u8) (eI .u8) eB F3_
abbrev z8h := eSl 4 false XN
abbrev Q6 := x6 (eI .i64) (eI .i64) zeW
abbrev zl := x6 (eI .i64) (eI .i64) zeV
abbrev z4O := z0N (eI .i64) (eI .i64) F7_ F7_
abbrev z6J := eSp zl
abbrev z4F := Y7 kK kK eB (yG (eI .u8)) (yG (eI .u8)) F7_
def rpN {α : Type _} (n : Nat) (a : α) (l : List α) : List α := Nat.rec l (fun _ r => a :: r) n
end Go.Own

namespace Go.Proofs
open Go.Shelf
def Try.so78_ren : Go.Shelf.Ren := ⟨fun | 6 => 78 | 15 => 103 | 14 => 102 | 28 => 129 | 29 => 130 | 20 => 121 | 21 => 122 | 22 => 123 | 23 => 124 | 24 => 125 | 25 => 126 | 26 => 127 | 27 => 128 | 46 => 145 | 47 => 146 | 48 => 147 | 49 => 148 | 50 => 149 | 57 => 159 | n => n, fun | 22 => 89 | 24 => 95 | 25 => 128 | 3 => 3 | 39 => 155 | 0 => 0 | 53 => 182 | 55 => 184 | 4 => 4 | 46 => 175 | 45 => 174 | 50 => 179 | 5 => 5 | 9 => 9 | 66 => 194 | 70 => 198 | 76 => 209 | 77 => 43 | n => n, fun | n => n⟩
theorem Try.so78 : Go.Proofs.SlLaysF0.n6 Try.prog Try.so78_ren := {
 mixed := by kernel_rfl
 f6 := ⟨Try.f78.name, by decide, Try.func78.trans (congrArg some (by kernel_rfl))⟩
 f14 := ⟨Try.f102.name, by decide, Try.func102.trans (congrArg some (by kernel_rfl))⟩
 f15 := Try.func103.trans (congrArg some (by kernel_rfl))
 f20 := ⟨Try.f121.name, by decide, Try.func121.trans (congrArg some (by kernel_rfl))⟩
 f21 := ⟨Try.f122.name, by decide, Try.func122.trans (congrArg some (by kernel_rfl))⟩
 f22 := ⟨Try.f123.name, by decide, Try.func123.trans (congrArg some (by kernel_rfl))⟩
 f23 := ⟨Try.f124.name, by decide, Try.func124.trans (congrArg some (by kernel_rfl))⟩
 f24 := ⟨Try.f125.name, by decide, Try.func125.trans (congrArg some (by kernel_rfl))⟩
 f25 := ⟨Try.f126.name, by decide, Try.func126.trans (congrArg some (by kernel_rfl))⟩
 f26 := ⟨Try.f127.name, by decide, Try.func127.trans (congrArg some (by kernel_rfl))⟩
 f27 := ⟨Try.f128.name, by decide, Try.func128.trans (congrArg some (by kernel_rfl))⟩
 f28 := Try.func129.trans (congrArg some (by kernel_rfl))
 f29 := Try.func130.trans (congrArg some (by kernel_rfl))
 f46 := ⟨Try.f145.name, by decide, Try.func145.trans (congrArg some (by kernel_rfl))⟩
 f47 := Try.func146.trans (congrArg some (by kernel_rfl))
 f48 := Try.func147.trans (congrArg some (by kernel_rfl))
 f49 := ⟨Try.f148.name, by decide, Try.func148.trans (congrArg some (by kernel_rfl))⟩
 f50 := ⟨Try.f149.name, by decide, Try.func149.trans (congrArg some (by kernel_rfl))⟩
 f57 := ⟨Try.f159.name, by decide, Try.func159.trans (congrArg some (by kernel_rfl))⟩
 t0 := Try.underlying0
 a0 := Try.isAgg0
 z0 := Try.sizeOf0
 v0 := Try.zeroValue0
 t3 := Try.underlying3
 a3 := Try.isAgg3
 z3 := Try.sizeOf3
 v3 := Try.zeroValue3
 t4 := Try.underlying4
 a4 := Try.isAgg4
 z4 := Try.sizeOf4
 v4 := Try.zeroValue4
 t5 := Try.underlying5
 a5 := Try.isAgg5
 z5 := Try.sizeOf5
 v5 := Try.zeroValue5
 t9 := Try.underlying9
 a9 := Try.isAgg9
 z9 := Try.sizeOf9
 v9 := Try.zeroValue9
 t22 := Try.underlying89
 a22 := Try.isAgg89
 z22 := Try.sizeOf89
 v22 := Try.zeroValue89
 t25 := Try.underlying128
 a25 := Try.isAgg128
 z25 := Try.sizeOf128
 v25 := Try.zeroValue128
 t39 := Try.underlying155
 a39 := Try.isAgg155
 z39 := Try.sizeOf155
 v39 := Try.zeroValue155
 t45 := Try.underlying174
 a45 := Try.isAgg174
 z45 := Try.sizeOf174
 v45 := Try.zeroValue174
 t46 := Try.underlying175
 a46 := Try.isAgg175
 z46 := Try.sizeOf175
 v46 := Try.zeroValue175
 t50 := Try.underlying179
 a50 := Try.isAgg179
 z50 := Try.sizeOf179
 v50 := Try.zeroValue179
 t53 := Try.underlying182
 a53 := Try.isAgg182
 z53 := Try.sizeOf182
 v53 := Try.zeroValue182
 t55 := Try.underlying184
 a55 := Try.isAgg184
 z55 := Try.sizeOf184
 v55 := Try.zeroValue184
 t66 := Try.underlying194
 a66 := Try.isAgg194
 z66 := Try.sizeOf194
 v66 := Try.zeroValue194
 t70 := Try.underlying198
 a70 := Try.isAgg198
 z70 := Try.sizeOf198
 v70 := Try.zeroValue198
 t76 := Try.underlying209
 a76 := Try.isAgg209
 z76 := Try.sizeOf209
 v76 := Try.zeroValue209
 t77 := Try.underlying43
 a77 := Try.isAgg43
 z77 := Try.sizeOf43
 v77 := Try.zeroValue43 }
end Go.Proofs
