/- -/
import Derived.Test.YtdnenbcldibnoaaPartB
import Derived.Test.YtdnenbcldibnoaaProg
import Derived.Test.YtdnenbcldibnoaaPartC
import Derived.Test.YtdnenbcldibnoaaPartD
import Derived.Shelf.SlSortCmp.NoneTotal
import Derived.Ground.SlsfProg
set_option linter.unusedVariables false
set_option linter.unusedSimpArgs false
namespace Go.Ex
open Go.Proofs
def i64 : EI := ⟨.func, 1, 8, some [.nilFunc], false⟩
theorem q5 : EqP Try.prog 5 [.int .u8 0] false 1 := eqP_leaf (k := .int .u8) Try.underlying5 ⟨_, (by kernel_rfl : Try.prog.info? 5 = some Try.t5), rfl⟩ rfl
theorem q65 : EqP Try.prog 65 (repZ 2 [.int .u8 0]) true 2 := eqP_array Try.underlying65 q5 ⟨_, (by kernel_rfl : Try.prog.info? 65 = some Try.t65), rfl⟩
def i65 : EI := ⟨.array 2 5, 2, 2, some [.int .u8 0, .int .u8 0], true⟩
theorem i65_ok : EIok Try.prog 65 i65 := ⟨⟨Try.t65, by kernel_rfl, rfl, rfl, fun z h => by cases h; exact ⟨_, rfl, rfl, allOne rfl, rfl, ⟨_, rfl⟩⟩⟩, Try.underlying65, fun _ => eqOk_of q65 rfl rfl (Nat.le_of_ble_eq_true (by kernel_rfl)) (by decide)⟩
theorem q3 : EqP Try.prog 3 [.int .i64 0] false 1 := eqP_leaf (k := .int .i64) Try.underlying3 ⟨_, (by kernel_rfl : Try.prog.info? 3 = some Try.t3), rfl⟩ rfl
theorem q66 : EqP Try.prog 66 (flatZ [([.int .i64 0], false), ([.int .i64 0], false)]) true 2 := eqP_struct Try.underlying66 (by kernel_rfl) ⟨_, (by kernel_rfl : Try.prog.info? 66 = some Try.t66), rfl⟩ (by decide) (FieldsOk.cons (by decide) rfl (q3.mono (by decide)) (FieldsOk.cons (by decide) rfl (q3.mono (by decide)) (FieldsOk.nil)))
def i66 : EI := ⟨.struct [(0, 3), (1, 3)], 2, 16, some [.int .i64 0, .int .i64 0], true⟩
theorem i66_ok : EIok Try.prog 66 i66 := ⟨⟨Try.t66, by kernel_rfl, rfl, rfl, fun z h => by cases h; exact ⟨_, rfl, rfl, allOne rfl, rfl, ⟨_, rfl⟩⟩⟩, ⟨_, Try.underlying66, by kernel_rfl, by
  intro f hf
  simp only [List.mem_cons, List.not_mem_nil, or_false] at hf
  rcases hf with rfl | rfl
  ·exact ⟨Try.t3, by kernel_rfl⟩
  ·exact ⟨Try.t3, by kernel_rfl⟩⟩, fun _ => eqOk_of q66 rfl rfl (Nat.le_of_ble_eq_true (by kernel_rfl)) (by decide)⟩
theorem q67 : EqP Try.prog 67 (flatZ [([.int .i64 0], false), ([.int .i64 0], false)]) true 2 := eqP_struct Try.underlying67 (by kernel_rfl) ⟨_, (by kernel_rfl : Try.prog.info? 67 = some Try.t67), rfl⟩ (by decide) (FieldsOk.cons (by decide) rfl (q3.mono (by decide)) (FieldsOk.cons (by decide) rfl (q3.mono (by decide)) (FieldsOk.nil)))
def i67 : EI := ⟨.struct [(0, 3), (1, 3)], 2, 16, some [.int .i64 0, .int .i64 0], true⟩
theorem i67_ok : EIok Try.prog 67 i67 := ⟨⟨Try.t67, by kernel_rfl, rfl, rfl, fun z h => by cases h; exact ⟨_, rfl, rfl, allOne rfl, rfl, ⟨_, rfl⟩⟩⟩, ⟨_, Try.underlying67, by kernel_rfl, by
  intro f hf
  simp only [List.mem_cons, List.not_mem_nil, or_false] at hf
  rcases hf with rfl | rfl
  ·exact ⟨Try.t3, by kernel_rfl⟩
  ·exact ⟨Try.t3, by kernel_rfl⟩⟩, fun _ => eqOk_of q67 rfl rfl (Nat.le_of_ble_eq_true (by kernel_rfl)) (by decide)⟩
theorem q95 : EqP Try.prog 95 (repZ 2 [.int .i64 0]) true 2 := eqP_array Try.underlying95 q3 ⟨_, (by kernel_rfl : Try.prog.info? 95 = some Try.t95), rfl⟩
def i95 : EI := ⟨.array 2 3, 2, 16, some [.int .i64 0, .int .i64 0], true⟩
theorem i95_ok : EIok Try.prog 95 i95 := ⟨⟨Try.t95, by kernel_rfl, rfl, rfl, fun z h => by cases h; exact ⟨_, rfl, rfl, allOne rfl, rfl, ⟨_, rfl⟩⟩⟩, Try.underlying95, fun _ => eqOk_of q95 rfl rfl (Nat.le_of_ble_eq_true (by kernel_rfl)) (by decide)⟩
theorem q103 : EqP Try.prog 103 (repZ 4 [.int .u8 0]) true 2 := eqP_array Try.underlying103 q5 ⟨_, (by kernel_rfl : Try.prog.info? 103 = some Try.t103), rfl⟩
def i103 : EI := ⟨.array 4 5, 4, 4, some [.int .u8 0, .int .u8 0, .int .u8 0, .int .u8 0], true⟩
theorem i103_ok : EIok Try.prog 103 i103 := ⟨⟨Try.t103, by kernel_rfl, rfl, rfl, fun z h => by cases h; exact ⟨_, rfl, rfl, allOne rfl, rfl, ⟨_, rfl⟩⟩⟩, Try.underlying103, fun _ => eqOk_of q103 rfl rfl (Nat.le_of_ble_eq_true (by kernel_rfl)) (by decide)⟩
theorem q146 : EqP Try.prog 146 (flatZ [([.int .i64 0], false), ([.int .i64 0], false), ([.int .i64 0, .int .i64 0], true), ([.int .i64 0, .int .i64 0], true)]) true 3 := eqP_struct Try.underlying146 (by kernel_rfl) ⟨_, (by kernel_rfl : Try.prog.info? 146 = some Try.t146), rfl⟩ (by decide) (FieldsOk.cons (by decide) rfl (q3.mono (by decide)) (FieldsOk.cons (by decide) rfl (q3.mono (by decide)) (FieldsOk.cons (by decide) rfl (q67.mono (by decide)) (FieldsOk.cons (by decide) rfl (q67.mono (by decide)) (FieldsOk.nil)))))
def i146 : EI := ⟨.struct [(0, 3), (1, 3), (2, 67), (4, 67)], 6, 48, some [.int .i64 0, .int .i64 0, .int .i64 0, .int .i64 0, .int .i64 0, .int .i64 0], true⟩
theorem i146_ok : EIok Try.prog 146 i146 := ⟨⟨Try.t146, by kernel_rfl, rfl, rfl, fun z h => by cases h; exact ⟨_, rfl, rfl, allOne rfl, rfl, ⟨_, rfl⟩⟩⟩, ⟨_, Try.underlying146, by kernel_rfl, by
  intro f hf
  simp only [List.mem_cons, List.not_mem_nil, or_false] at hf
  rcases hf with rfl | rfl | rfl | rfl
  ·exact ⟨Try.t3, by kernel_rfl⟩
  ·exact ⟨Try.t3, by kernel_rfl⟩
  ·exact ⟨Try.t67, by kernel_rfl⟩
  ·exact ⟨Try.t67, by kernel_rfl⟩⟩, fun _ => eqOk_of q146 rfl rfl (Nat.le_of_ble_eq_true (by kernel_rfl)) (by decide)⟩
theorem q147 : EqP Try.prog 147 (flatZ [([.int .i64 0], false), ([.int .i64 0], false), ([.int .i64 0, .int .i64 0], true), ([.int .i64 0, .int .i64 0], true)]) true 3 := eqP_struct Try.underlying147 (by kernel_rfl) ⟨_, (by kernel_rfl : Try.prog.info? 147 = some Try.t147), rfl⟩ (by decide) (FieldsOk.cons (by decide) rfl (q3.mono (by decide)) (FieldsOk.cons (by decide) rfl (q3.mono (by decide)) (FieldsOk.cons (by decide) rfl (q67.mono (by decide)) (FieldsOk.cons (by decide) rfl (q67.mono (by decide)) (FieldsOk.nil)))))
def i147 : EI := ⟨.struct [(0, 3), (1, 3), (2, 67), (4, 67)], 6, 48, some [.int .i64 0, .int .i64 0, .int .i64 0, .int .i64 0, .int .i64 0, .int .i64 0], true⟩
theorem i147_ok : EIok Try.prog 147 i147 := ⟨⟨Try.t147, by kernel_rfl, rfl, rfl, fun z h => by cases h; exact ⟨_, rfl, rfl, allOne rfl, rfl, ⟨_, rfl⟩⟩⟩, ⟨_, Try.underlying147, by kernel_rfl, by
  intro f hf
  simp only [List.mem_cons, List.not_mem_nil, or_false] at hf
  rcases hf with rfl | rfl | rfl | rfl
  ·exact ⟨Try.t3, by kernel_rfl⟩
  ·exact ⟨Try.t3, by kernel_rfl⟩
  ·exact ⟨Try.t67, by kernel_rfl⟩
  ·exact ⟨Try.t67, by kernel_rfl⟩⟩, fun _ => eqOk_of q147 rfl rfl (Nat.le_of_ble_eq_true (by kernel_rfl)) (by decide)⟩
theorem q169 : EqP Try.prog 169 (flatZ [([.int .i64 0, .int .i64 0], true), ([.int .i64 0], false), ([.int .i64 0], false)]) true 3 := eqP_struct Try.underlying169 (by kernel_rfl) ⟨_, (by kernel_rfl : Try.prog.info? 169 = some Try.t169), rfl⟩ (by decide) (FieldsOk.cons (by decide) rfl (q95.mono (by decide)) (FieldsOk.cons (by decide) rfl (q3.mono (by decide)) (FieldsOk.cons (by decide) rfl (q3.mono (by decide)) (FieldsOk.nil))))
def i169 : EI := ⟨.struct [(0, 95), (2, 3), (3, 3)], 4, 32, some [.int .i64 0, .int .i64 0, .int .i64 0, .int .i64 0], true⟩
theorem i169_ok : EIok Try.prog 169 i169 := ⟨⟨Try.t169, by kernel_rfl, rfl, rfl, fun z h => by cases h; exact ⟨_, rfl, rfl, allOne rfl, rfl, ⟨_, rfl⟩⟩⟩, ⟨_, Try.underlying169, by kernel_rfl, by
  intro f hf
  simp only [List.mem_cons, List.not_mem_nil, or_false] at hf
  rcases hf with rfl | rfl | rfl
  ·exact ⟨Try.t95, by kernel_rfl⟩
  ·exact ⟨Try.t3, by kernel_rfl⟩
  ·exact ⟨Try.t3, by kernel_rfl⟩⟩, fun _ => eqOk_of q169 rfl rfl (Nat.le_of_ble_eq_true (by kernel_rfl)) (by decide)⟩
theorem q170 : EqP Try.prog 170 (flatZ [([.int .i64 0, .int .i64 0], true), ([.int .i64 0], false), ([.int .i64 0], false)]) true 3 := eqP_struct Try.underlying170 (by kernel_rfl) ⟨_, (by kernel_rfl : Try.prog.info? 170 = some Try.t170), rfl⟩ (by decide) (FieldsOk.cons (by decide) rfl (q95.mono (by decide)) (FieldsOk.cons (by decide) rfl (q3.mono (by decide)) (FieldsOk.cons (by decide) rfl (q3.mono (by decide)) (FieldsOk.nil))))
def i170 : EI := ⟨.struct [(0, 95), (2, 3), (3, 3)], 4, 32, some [.int .i64 0, .int .i64 0, .int .i64 0, .int .i64 0], true⟩
theorem i170_ok : EIok Try.prog 170 i170 := ⟨⟨Try.t170, by kernel_rfl, rfl, rfl, fun z h => by cases h; exact ⟨_, rfl, rfl, allOne rfl, rfl, ⟨_, rfl⟩⟩⟩, ⟨_, Try.underlying170, by kernel_rfl, by
  intro f hf
  simp only [List.mem_cons, List.not_mem_nil, or_false] at hf
  rcases hf with rfl | rfl | rfl
  ·exact ⟨Try.t95, by kernel_rfl⟩
  ·exact ⟨Try.t3, by kernel_rfl⟩
  ·exact ⟨Try.t3, by kernel_rfl⟩⟩, fun _ => eqOk_of q170 rfl rfl (Nat.le_of_ble_eq_true (by kernel_rfl)) (by decide)⟩
theorem q220 : EqP Try.prog 220 (repZ 16 [.int .i64 0, .int .i64 0]) true 3 := eqP_array Try.underlying220 q95 ⟨_, (by kernel_rfl : Try.prog.info? 220 = some Try.t220), rfl⟩
def i220 : EI := ⟨.array 16 95, 32, 256, some [.int .i64 0, .int .i64 0, .int .i64 0, .int .i64 0, .int .i64 0, .int .i64 0, .int .i64 0, .int .i64 0, .int .i64 0, .int .i64 0, .int .i64 0, .int .i64 0, .int .i64 0, .int .i64 0, .int .i64 0, .int .i64 0, .int .i64 0, .int .i64 0, .int .i64 0, .int .i64 0, .int .i64 0, .int .i64 0, .int .i64 0, .int .i64 0, .int .i64 0, .int .i64 0, .int .i64 0, .int .i64 0, .int .i64 0, .int .i64 0, .int .i64 0, .int .i64 0], true⟩
theorem i220_ok : EIok Try.prog 220 i220 := ⟨⟨Try.t220, by kernel_rfl, rfl, rfl, fun z h => by cases h; exact ⟨_, rfl, rfl, allOne rfl, rfl, ⟨_, rfl⟩⟩⟩, Try.underlying220, fun _ => eqOk_of q220 rfl rfl (Nat.le_of_ble_eq_true (by kernel_rfl)) (by decide)⟩
theorem q221 : EqP Try.prog 221 (repZ 16 [.int .i64 0, .int .i64 0]) true 3 := eqP_array Try.underlying221 q95 ⟨_, (by kernel_rfl : Try.prog.info? 221 = some Try.t221), rfl⟩
def i221 : EI := ⟨.array 16 95, 32, 256, some [.int .i64 0, .int .i64 0, .int .i64 0, .int .i64 0, .int .i64 0, .int .i64 0, .int .i64 0, .int .i64 0, .int .i64 0, .int .i64 0, .int .i64 0, .int .i64 0, .int .i64 0, .int .i64 0, .int .i64 0, .int .i64 0, .int .i64 0, .int .i64 0, .int .i64 0, .int .i64 0, .int .i64 0, .int .i64 0, .int .i64 0, .int .i64 0, .int .i64 0, .int .i64 0, .int .i64 0, .int .i64 0, .int .i64 0, .int .i64 0, .int .i64 0, .int .i64 0], true⟩
theorem i221_ok : EIok Try.prog 221 i221 := ⟨⟨Try.t221, by kernel_rfl, rfl, rfl, fun z h => by cases h; exact ⟨_, rfl, rfl, allOne rfl, rfl, ⟨_, rfl⟩⟩⟩, Try.underlying221, fun _ => eqOk_of q221 rfl rfl (Nat.le_of_ble_eq_true (by kernel_rfl)) (by decide)⟩
theorem q223 : EqP Try.prog 223 (flatZ [([.int .i64 0], false), ([.int .i64 0, .int .i64 0, .int .i64 0, .int .i64 0, .int .i64 0, .int .i64 0, .int .i64 0, .int .i64 0, .int .i64 0, .int .i64 0, .int .i64 0, .int .i64 0, .int .i64 0, .int .i64 0, .int .i64 0, .int .i64 0, .int .i64 0, .int .i64 0, .int .i64 0, .int .i64 0, .int .i64 0, .int .i64 0, .int .i64 0, .int .i64 0, .int .i64 0, .int .i64 0, .int .i64 0, .int .i64 0, .int .i64 0, .int .i64 0, .int .i64 0, .int .i64 0], true)]) true 4 := eqP_struct Try.underlying223 (by kernel_rfl) ⟨_, (by kernel_rfl : Try.prog.info? 223 = some Try.t223), rfl⟩ (by decide) (FieldsOk.cons (by decide) rfl (q3.mono (by decide)) (FieldsOk.cons (by decide) rfl (q221.mono (by decide)) (FieldsOk.nil)))
def i223 : EI := ⟨.struct [(0, 3), (1, 221)], 33, 264, some [.int .i64 0, .int .i64 0, .int .i64 0, .int .i64 0, .int .i64 0, .int .i64 0, .int .i64 0, .int .i64 0, .int .i64 0, .int .i64 0, .int .i64 0, .int .i64 0, .int .i64 0, .int .i64 0, .int .i64 0, .int .i64 0, .int .i64 0, .int .i64 0, .int .i64 0, .int .i64 0, .int .i64 0, .int .i64 0, .int .i64 0, .int .i64 0, .int .i64 0, .int .i64 0, .int .i64 0, .int .i64 0, .int .i64 0, .int .i64 0, .int .i64 0, .int .i64 0, .int .i64 0], true⟩
theorem i223_ok : EIok Try.prog 223 i223 := ⟨⟨Try.t223, by kernel_rfl, rfl, rfl, fun z h => by cases h; exact ⟨_, rfl, rfl, allOne rfl, rfl, ⟨_, rfl⟩⟩⟩, ⟨_, Try.underlying223, by kernel_rfl, by
  intro f hf
  simp only [List.mem_cons, List.not_mem_nil, or_false] at hf
  rcases hf with rfl | rfl
  ·exact ⟨Try.t3, by kernel_rfl⟩
  ·exact ⟨Try.t221, by kernel_rfl⟩⟩, fun _ => eqOk_of q223 rfl rfl (Nat.le_of_ble_eq_true (by kernel_rfl)) (by decide)⟩
theorem q224 : EqP Try.prog 224 (flatZ [([.int .i64 0], false), ([.int .i64 0, .int .i64 0, .int .i64 0, .int .i64 0, .int .i64 0, .int .i64 0, .int .i64 0, .int .i64 0, .int .i64 0, .int .i64 0, .int .i64 0, .int .i64 0, .int .i64 0, .int .i64 0, .int .i64 0, .int .i64 0, .int .i64 0, .int .i64 0, .int .i64 0, .int .i64 0, .int .i64 0, .int .i64 0, .int .i64 0, .int .i64 0, .int .i64 0, .int .i64 0, .int .i64 0, .int .i64 0, .int .i64 0, .int .i64 0, .int .i64 0, .int .i64 0], true)]) true 4 := eqP_struct Try.underlying224 (by kernel_rfl) ⟨_, (by kernel_rfl : Try.prog.info? 224 = some Try.t224), rfl⟩ (by decide) (FieldsOk.cons (by decide) rfl (q3.mono (by decide)) (FieldsOk.cons (by decide) rfl (q221.mono (by decide)) (FieldsOk.nil)))
def i224 : EI := ⟨.struct [(0, 3), (1, 221)], 33, 264, some [.int .i64 0, .int .i64 0, .int .i64 0, .int .i64 0, .int .i64 0, .int .i64 0, .int .i64 0, .int .i64 0, .int .i64 0, .int .i64 0, .int .i64 0, .int .i64 0, .int .i64 0, .int .i64 0, .int .i64 0, .int .i64 0, .int .i64 0, .int .i64 0, .int .i64 0, .int .i64 0, .int .i64 0, .int .i64 0, .int .i64 0, .int .i64 0, .int .i64 0, .int .i64 0, .int .i64 0, .int .i64 0, .int .i64 0, .int .i64 0, .int .i64 0, .int .i64 0, .int .i64 0], true⟩
theorem i224_ok : EIok Try.prog 224 i224 := ⟨⟨Try.t224, by kernel_rfl, rfl, rfl, fun z h => by cases h; exact ⟨_, rfl, rfl, allOne rfl, rfl, ⟨_, rfl⟩⟩⟩, ⟨_, Try.underlying224, by kernel_rfl, by
  intro f hf
  simp only [List.mem_cons, List.not_mem_nil, or_false] at hf
  rcases hf with rfl | rfl
  ·exact ⟨Try.t3, by kernel_rfl⟩
  ·exact ⟨Try.t221, by kernel_rfl⟩⟩, fun _ => eqOk_of q224 rfl rfl (Nat.le_of_ble_eq_true (by kernel_rfl)) (by decide)⟩
end Go.Ex

namespace Go.Own
open Go.Proofs
def intV : Value → Bool
 | .int _ _ => true
 | _ => false
theorem fitZ_ints : ∀ {z vs us : List Value} {r : Bool}, z.all intV = true → z.length = vs.length → eqVals vs us = some r → Go.Ex.fitZ z vs = true ∧ Go.Ex.eqVals vs us = some r
 | [], [], us, r, _, _, h => by
  cases us with
  | nil => simp only [eqVals, Option.some.injEq] at h; subst h; exact ⟨rfl, rfl⟩
  | cons u us => simp [eqVals] at h
 | a :: z, v :: vs, us, r, hz, hl, h => by
  have q : ∃ k x u' k' y, v = .int k x ∧ us = .int k' y :: u' ∧ k = k' := by
   cases us with
   | nil => cases v <;> simp [eqVals] at h
   | cons u us =>
    cases v <;> cases u <;> simp [eqVals] at h
    exact ⟨_, _, _, _, _, rfl, rfl, h.1⟩
  obtain ⟨k, x, u', k', y, rfl, rfl, hk⟩ := q
  simp only [eqVals, hk, if_true, Option.map_eq_some_iff] at h
  obtain ⟨r', e1, rfl⟩ := h
  simp only [List.all_cons, Bool.and_eq_true] at hz
  obtain ⟨q1, q2⟩ := fitZ_ints hz.2 (by simpa using hl) e1
  refine ⟨?_, by simp [Go.Ex.eqVals, hk, q2]⟩
  cases a <;> first | (simp [intV] at hz; done) | simpa [Go.Ex.fitZ] using q1
 | [], _ :: _, _, _, _, hl, _ => by simp at hl
 | _ :: _, [], _, _, _, hl, _ => by simp at hl
theorem eqOk_ex {P : Program} {t n : Nat} {i : Go.Ex.EI} (h : Go.Ex.EqOk P t i) {z : List Value} (hz : i.zero = some z) (hi : z.all intV = true) (hs : i.size = n) (hn : z.length = n) : EqOk P t n := {
 guard := h.guard
 run := fun vs us r w hv hu he => by
  obtain ⟨q1, q2⟩ := fitZ_ints hi (by rw [hn, hv]) he
  exact h.run vs us r w (by rw [hs]; exact hv) (by rw [hs]; exact hu) (by simpa only [Go.Ex.fitE, hz] using q1) q2 }
theorem conc_atom {S : Still} {h : Array Obj} {v : Value} (hv : v.oneCell' = true) : Conc S h (.atom v) [v] [] := by simp only [Conc, Rep]; exact ⟨⟨trivial, hv⟩, trivial⟩
theorem conc_nil {S : Still} {h : Array Obj} (sz : Nat) : Conc S h (.osl sz true []) [.slice none 0 0] [] := by
 simp only [Conc]
 exact ⟨none, 0, rfl, (fun _ => rfl), Nat.le_refl _, Nat.zero_le _, by simp, .inl ⟨trivial, rfl, rfl, trivial⟩⟩
theorem conc_agg {S : Still} {h : Array Obj} {fs : List A} {cs : List Value} (q : Concs S h fs cs []) : Conc S h (.agg fs) cs [] := by simpa only [Conc] using q
theorem concs_nil {S : Still} {h : Array Obj} : Concs S h [] [] [] := by simp [Concs]
theorem concs_app {S : Still} {h : Array Obj} {a : A} {fs : List A} {c1 c2 : List Value} (q1 : Conc S h a c1 []) (q2 : Concs S h fs c2 []) : Concs S h (a :: fs) (c1 ++ c2) [] := by simp only [Concs]; exact ⟨c1, c2, [], [], rfl, rfl, q1, q2⟩
def ti1 : TI := ⟨.other, 1, 8, some (.atom .nilFunc), false⟩
theorem ti1_ok : TIok Try.prog 1 ti1 := ⟨⟨Try.t1, by kernel_rfl, rfl, rfl, fun z h => by cases h; exact ⟨_, rfl, rfl, fun S h => conc_atom rfl⟩⟩, ⟨_, Try.underlying1, rfl⟩, by intro h; cases h⟩
def ti2 : TI := ⟨.int .i64, 1, 8, some (.atom (.int .i64 0)), false⟩
theorem ti2_ok : TIok Try.prog 2 ti2 := ⟨⟨Try.t2, by kernel_rfl, rfl, rfl, fun z h => by cases h; exact ⟨_, rfl, rfl, fun S h => conc_atom rfl⟩⟩, Try.underlying2, by intro h; cases h⟩
def ti3 : TI := ⟨.int .i64, 1, 8, some (.atom (.int .i64 0)), false⟩
theorem ti3_ok : TIok Try.prog 3 ti3 := ⟨⟨Try.t3, by kernel_rfl, rfl, rfl, fun z h => by cases h; exact ⟨_, rfl, rfl, fun S h => conc_atom rfl⟩⟩, Try.underlying3, by intro h; cases h⟩
def ti4 : TI := ⟨.bool, 1, 1, some (.atom (.bool false)), false⟩
theorem ti4_ok : TIok Try.prog 4 ti4 := ⟨⟨Try.t4, by kernel_rfl, rfl, rfl, fun z h => by cases h; exact ⟨_, rfl, rfl, fun S h => conc_atom rfl⟩⟩, Try.underlying4, by intro h; cases h⟩
def ti5 : TI := ⟨.int .u8, 1, 1, some (.atom (.int .u8 0)), false⟩
theorem ti5_ok : TIok Try.prog 5 ti5 := ⟨⟨Try.t5, by kernel_rfl, rfl, rfl, fun z h => by cases h; exact ⟨_, rfl, rfl, fun S h => conc_atom rfl⟩⟩, Try.underlying5, by intro h; cases h⟩
def ti22 : TI := ⟨.slice 102, 1, 24, some (.osl 1 true []), false⟩
theorem ti22_ok : TIok Try.prog 22 ti22 := ⟨⟨Try.t22, by kernel_rfl, rfl, rfl, fun z h => by cases h; exact ⟨_, rfl, rfl, fun S h => conc_nil _⟩⟩, Try.underlying22, by intro h; cases h⟩
def ti24 : TI := ⟨.struct [(0, 1), (1, 1), (2, 1), (3, 1), (4, 1)], 5, 32, some (.agg [.atom (.int .u8 0), .atom (.int .u8 0), .atom (.int .u8 0), .atom (.bool false), .osl 1 true []]), false⟩
theorem ti24_ok : TIok Try.prog 24 ti24 := ⟨⟨Try.t24, by kernel_rfl, rfl, rfl, fun z h => by cases h; exact ⟨_, rfl, rfl, fun S h => conc_agg (concs_app (conc_atom rfl) (concs_app (conc_atom rfl) (concs_app (conc_atom rfl) (concs_app (conc_atom rfl) (concs_app (conc_nil _) (concs_nil))))))⟩⟩, ⟨_, Try.underlying24, by kernel_rfl, by
  intro f hf
  simp only [List.mem_cons, List.not_mem_nil, or_false] at hf
  rcases hf with rfl | rfl | rfl | rfl | rfl
  ·exact ⟨Try.t5, by kernel_rfl⟩
  ·exact ⟨Try.t5, by kernel_rfl⟩
  ·exact ⟨Try.t5, by kernel_rfl⟩
  ·exact ⟨Try.t4, by kernel_rfl⟩
  ·exact ⟨Try.t22, by kernel_rfl⟩⟩, by intro h; cases h⟩
def ti25 : TI := ⟨.slice 5, 1, 24, some (.osl 1 true []), false⟩
theorem ti25_ok : TIok Try.prog 25 ti25 := ⟨⟨Try.t25, by kernel_rfl, rfl, rfl, fun z h => by cases h; exact ⟨_, rfl, rfl, fun S h => conc_nil _⟩⟩, Try.underlying25, by intro h; cases h⟩
def ti32 : TI := ⟨.slice 98, 1, 24, some (.osl 1 true []), false⟩
theorem ti32_ok : TIok Try.prog 32 ti32 := ⟨⟨Try.t32, by kernel_rfl, rfl, rfl, fun z h => by cases h; exact ⟨_, rfl, rfl, fun S h => conc_nil _⟩⟩, Try.underlying32, by intro h; cases h⟩
def ti34 : TI := ⟨.struct [(0, 1), (1, 1), (2, 1)], 3, 40, some (.agg [.atom (.int .i64 0), .atom (.int .i64 0), .osl 1 true []]), false⟩
theorem ti34_ok : TIok Try.prog 34 ti34 := ⟨⟨Try.t34, by kernel_rfl, rfl, rfl, fun z h => by cases h; exact ⟨_, rfl, rfl, fun S h => conc_agg (concs_app (conc_atom rfl) (concs_app (conc_atom rfl) (concs_app (conc_nil _) (concs_nil))))⟩⟩, ⟨_, Try.underlying34, by kernel_rfl, by
  intro f hf
  simp only [List.mem_cons, List.not_mem_nil, or_false] at hf
  rcases hf with rfl | rfl | rfl
  ·exact ⟨Try.t3, by kernel_rfl⟩
  ·exact ⟨Try.t3, by kernel_rfl⟩
  ·exact ⟨Try.t32, by kernel_rfl⟩⟩, by intro h; cases h⟩
def ti37 : TI := ⟨.slice 45, 1, 24, some (.osl 1 true []), false⟩
theorem ti37_ok : TIok Try.prog 37 ti37 := ⟨⟨Try.t37, by kernel_rfl, rfl, rfl, fun z h => by cases h; exact ⟨_, rfl, rfl, fun S h => conc_nil _⟩⟩, Try.underlying37, by intro h; cases h⟩
def ti40 : TI := ⟨.int .i64, 1, 8, some (.atom (.int .i64 0)), false⟩
theorem ti40_ok : TIok Try.prog 40 ti40 := ⟨⟨Try.t40, by kernel_rfl, rfl, rfl, fun z h => by cases h; exact ⟨_, rfl, rfl, fun S h => conc_atom rfl⟩⟩, Try.underlying40, by intro h; cases h⟩
def ti45 : TI := ⟨.slice 3, 1, 24, some (.osl 1 true []), false⟩
theorem ti45_ok : TIok Try.prog 45 ti45 := ⟨⟨Try.t45, by kernel_rfl, rfl, rfl, fun z h => by cases h; exact ⟨_, rfl, rfl, fun S h => conc_nil _⟩⟩, Try.underlying45, by intro h; cases h⟩
def ti65 : TI := ⟨.array 2 5, 2, 2, some (.agg [.atom (.int .u8 0), .atom (.int .u8 0)]), true⟩
theorem ti65_ok : TIok Try.prog 65 ti65 := ⟨⟨Try.t65, by kernel_rfl, rfl, rfl, fun z h => by cases h; exact ⟨_, rfl, rfl, fun S h => conc_agg (concs_app (conc_atom rfl) (concs_app (conc_atom rfl) (concs_nil)))⟩⟩, Try.underlying65, fun _ => eqOk_ex (Go.Ex.i65_ok.eqn rfl) rfl rfl rfl rfl⟩
def ti67 : TI := ⟨.struct [(0, 1), (1, 1)], 2, 16, some (.agg [.atom (.int .i64 0), .atom (.int .i64 0)]), true⟩
theorem ti67_ok : TIok Try.prog 67 ti67 := ⟨⟨Try.t67, by kernel_rfl, rfl, rfl, fun z h => by cases h; exact ⟨_, rfl, rfl, fun S h => conc_agg (concs_app (conc_atom rfl) (concs_app (conc_atom rfl) (concs_nil)))⟩⟩, ⟨_, Try.underlying67, by kernel_rfl, by
  intro f hf
  simp only [List.mem_cons, List.not_mem_nil, or_false] at hf
  rcases hf with rfl | rfl
  ·exact ⟨Try.t3, by kernel_rfl⟩
  ·exact ⟨Try.t3, by kernel_rfl⟩⟩, fun _ => eqOk_ex (Go.Ex.i67_ok.eqn rfl) rfl rfl rfl rfl⟩
def ti69 : TI := ⟨.struct [(0, 5), (5, 5), (10, 1), (11, 2), (13, 2), (15, 2)], 17, 88, some (.agg [.agg [.atom (.int .u8 0), .atom (.int .u8 0), .atom (.int .u8 0), .atom (.bool false), .osl 1 true []], .agg [.atom (.int .u8 0), .atom (.int .u8 0), .atom (.int .u8 0), .atom (.bool false), .osl 1 true []], .atom (.bool false), .agg [.atom (.int .u8 0), .atom (.int .u8 0)], .agg [.atom (.int .u8 0), .atom (.int .u8 0)], .agg [.atom (.int .i64 0), .atom (.int .i64 0)]]), false⟩
theorem ti69_ok : TIok Try.prog 69 ti69 := ⟨⟨Try.t69, by kernel_rfl, rfl, rfl, fun z h => by cases h; exact ⟨_, rfl, rfl, fun S h => conc_agg (concs_app (conc_agg (concs_app (conc_atom rfl) (concs_app (conc_atom rfl) (concs_app (conc_atom rfl) (concs_app (conc_atom rfl) (concs_app (conc_nil _) (concs_nil))))))) (concs_app (conc_agg (concs_app (conc_atom rfl) (concs_app (conc_atom rfl) (concs_app (conc_atom rfl) (concs_app (conc_atom rfl) (concs_app (conc_nil _) (concs_nil))))))) (concs_app (conc_atom rfl) (concs_app (conc_agg (concs_app (conc_atom rfl) (concs_app (conc_atom rfl) (concs_nil)))) (concs_app (conc_agg (concs_app (conc_atom rfl) (concs_app (conc_atom rfl) (concs_nil)))) (concs_app (conc_agg (concs_app (conc_atom rfl) (concs_app (conc_atom rfl) (concs_nil)))) (concs_nil)))))))⟩⟩, ⟨_, Try.underlying69, by kernel_rfl, by
  intro f hf
  simp only [List.mem_cons, List.not_mem_nil, or_false] at hf
  rcases hf with rfl | rfl | rfl | rfl | rfl | rfl
  ·exact ⟨Try.t24, by kernel_rfl⟩
  ·exact ⟨Try.t24, by kernel_rfl⟩
  ·exact ⟨Try.t4, by kernel_rfl⟩
  ·exact ⟨Try.t65, by kernel_rfl⟩
  ·exact ⟨Try.t65, by kernel_rfl⟩
  ·exact ⟨Try.t67, by kernel_rfl⟩⟩, by intro h; cases h⟩
def ti80 : TI := ⟨.struct [(0, 1)], 1, 24, some (.agg [.osl 1 true []]), false⟩
theorem ti80_ok : TIok Try.prog 80 ti80 := ⟨⟨Try.t80, by kernel_rfl, rfl, rfl, fun z h => by cases h; exact ⟨_, rfl, rfl, fun S h => conc_agg (concs_app (conc_nil _) (concs_nil))⟩⟩, ⟨_, Try.underlying80, by kernel_rfl, by
  intro f hf
  simp only [List.mem_cons, List.not_mem_nil, or_false] at hf
  rcases hf with rfl
  ·exact ⟨Try.t25, by kernel_rfl⟩⟩, by intro h; cases h⟩
def ti89 : TI := ⟨.slice 95, 1, 24, some (.osl 2 true []), false⟩
theorem ti89_ok : TIok Try.prog 89 ti89 := ⟨⟨Try.t89, by kernel_rfl, rfl, rfl, fun z h => by cases h; exact ⟨_, rfl, rfl, fun S h => conc_nil _⟩⟩, Try.underlying89, by intro h; cases h⟩
def ti95 : TI := ⟨.array 2 3, 2, 16, some (.agg [.atom (.int .i64 0), .atom (.int .i64 0)]), true⟩
theorem ti95_ok : TIok Try.prog 95 ti95 := ⟨⟨Try.t95, by kernel_rfl, rfl, rfl, fun z h => by cases h; exact ⟨_, rfl, rfl, fun S h => conc_agg (concs_app (conc_atom rfl) (concs_app (conc_atom rfl) (concs_nil)))⟩⟩, Try.underlying95, fun _ => eqOk_ex (Go.Ex.i95_ok.eqn rfl) rfl rfl rfl rfl⟩
def ti98 : TI := ⟨.slice 67, 1, 24, some (.osl 2 true []), false⟩
theorem ti98_ok : TIok Try.prog 98 ti98 := ⟨⟨Try.t98, by kernel_rfl, rfl, rfl, fun z h => by cases h; exact ⟨_, rfl, rfl, fun S h => conc_nil _⟩⟩, Try.underlying98, by intro h; cases h⟩
def ti102 : TI := ⟨.int .u16, 1, 2, some (.atom (.int .u16 0)), false⟩
theorem ti102_ok : TIok Try.prog 102 ti102 := ⟨⟨Try.t102, by kernel_rfl, rfl, rfl, fun z h => by cases h; exact ⟨_, rfl, rfl, fun S h => conc_atom rfl⟩⟩, Try.underlying102, by intro h; cases h⟩
def ti106 : TI := ⟨.other, 1, 8, some (.atom .nilFunc), false⟩
theorem ti106_ok : TIok Try.prog 106 ti106 := ⟨⟨Try.t106, by kernel_rfl, rfl, rfl, fun z h => by cases h; exact ⟨_, rfl, rfl, fun S h => conc_atom rfl⟩⟩, ⟨_, Try.underlying106, rfl⟩, by intro h; cases h⟩
def ti117 : TI := ⟨.other, 1, 8, some (.atom .nilFunc), false⟩
theorem ti117_ok : TIok Try.prog 117 ti117 := ⟨⟨Try.t117, by kernel_rfl, rfl, rfl, fun z h => by cases h; exact ⟨_, rfl, rfl, fun S h => conc_atom rfl⟩⟩, ⟨_, Try.underlying117, rfl⟩, by intro h; cases h⟩
def ti122 : TI := ⟨.slice 4, 1, 24, some (.osl 1 true []), false⟩
theorem ti122_ok : TIok Try.prog 122 ti122 := ⟨⟨Try.t122, by kernel_rfl, rfl, rfl, fun z h => by cases h; exact ⟨_, rfl, rfl, fun S h => conc_nil _⟩⟩, Try.underlying122, by intro h; cases h⟩
def ti123 : TI := ⟨.slice 122, 1, 24, some (.osl 1 true []), false⟩
theorem ti123_ok : TIok Try.prog 123 ti123 := ⟨⟨Try.t123, by kernel_rfl, rfl, rfl, fun z h => by cases h; exact ⟨_, rfl, rfl, fun S h => conc_nil _⟩⟩, Try.underlying123, by intro h; cases h⟩
def ti130 : TI := ⟨.other, 1, 8, none, false⟩
theorem ti130_ok : TIok Try.prog 130 ti130 := ⟨⟨Try.t130, by kernel_rfl, rfl, rfl, fun z h => by cases h⟩, ⟨_, Try.underlying130, rfl⟩, by intro h; cases h⟩
def ti143 : TI := ⟨.other, 1, 8, some (.atom .nilFunc), false⟩
theorem ti143_ok : TIok Try.prog 143 ti143 := ⟨⟨Try.t143, by kernel_rfl, rfl, rfl, fun z h => by cases h; exact ⟨_, rfl, rfl, fun S h => conc_atom rfl⟩⟩, ⟨_, Try.underlying143, rfl⟩, by intro h; cases h⟩
def ti144 : TI := ⟨.other, 1, 8, some (.atom .nilFunc), false⟩
theorem ti144_ok : TIok Try.prog 144 ti144 := ⟨⟨Try.t144, by kernel_rfl, rfl, rfl, fun z h => by cases h; exact ⟨_, rfl, rfl, fun S h => conc_atom rfl⟩⟩, ⟨_, Try.underlying144, rfl⟩, by intro h; cases h⟩
def ti147 : TI := ⟨.struct [(0, 1), (1, 1), (2, 2), (4, 2)], 6, 48, some (.agg [.atom (.int .i64 0), .atom (.int .i64 0), .agg [.atom (.int .i64 0), .atom (.int .i64 0)], .agg [.atom (.int .i64 0), .atom (.int .i64 0)]]), true⟩
theorem ti147_ok : TIok Try.prog 147 ti147 := ⟨⟨Try.t147, by kernel_rfl, rfl, rfl, fun z h => by cases h; exact ⟨_, rfl, rfl, fun S h => conc_agg (concs_app (conc_atom rfl) (concs_app (conc_atom rfl) (concs_app (conc_agg (concs_app (conc_atom rfl) (concs_app (conc_atom rfl) (concs_nil)))) (concs_app (conc_agg (concs_app (conc_atom rfl) (concs_app (conc_atom rfl) (concs_nil)))) (concs_nil)))))⟩⟩, ⟨_, Try.underlying147, by kernel_rfl, by
  intro f hf
  simp only [List.mem_cons, List.not_mem_nil, or_false] at hf
  rcases hf with rfl | rfl | rfl | rfl
  ·exact ⟨Try.t3, by kernel_rfl⟩
  ·exact ⟨Try.t3, by kernel_rfl⟩
  ·exact ⟨Try.t67, by kernel_rfl⟩
  ·exact ⟨Try.t67, by kernel_rfl⟩⟩, fun _ => eqOk_ex (Go.Ex.i147_ok.eqn rfl) rfl rfl rfl rfl⟩
def ti148 : TI := ⟨.slice 170, 1, 24, some (.osl 4 true []), false⟩
theorem ti148_ok : TIok Try.prog 148 ti148 := ⟨⟨Try.t148, by kernel_rfl, rfl, rfl, fun z h => by cases h; exact ⟨_, rfl, rfl, fun S h => conc_nil _⟩⟩, Try.underlying148, by intro h; cases h⟩
def ti159 : TI := ⟨.other, 1, 8, some (.atom .nilFunc), false⟩
theorem ti159_ok : TIok Try.prog 159 ti159 := ⟨⟨Try.t159, by kernel_rfl, rfl, rfl, fun z h => by cases h; exact ⟨_, rfl, rfl, fun S h => conc_atom rfl⟩⟩, ⟨_, Try.underlying159, rfl⟩, by intro h; cases h⟩
def ti167 : TI := ⟨.slice 40, 1, 24, some (.osl 1 true []), false⟩
theorem ti167_ok : TIok Try.prog 167 ti167 := ⟨⟨Try.t167, by kernel_rfl, rfl, rfl, fun z h => by cases h; exact ⟨_, rfl, rfl, fun S h => conc_nil _⟩⟩, Try.underlying167, by intro h; cases h⟩
def ti168 : TI := ⟨.other, 1, 8, some (.atom .nilFunc), false⟩
theorem ti168_ok : TIok Try.prog 168 ti168 := ⟨⟨Try.t168, by kernel_rfl, rfl, rfl, fun z h => by cases h; exact ⟨_, rfl, rfl, fun S h => conc_atom rfl⟩⟩, ⟨_, Try.underlying168, rfl⟩, by intro h; cases h⟩
def ti170 : TI := ⟨.struct [(0, 2), (2, 1), (3, 1)], 4, 32, some (.agg [.agg [.atom (.int .i64 0), .atom (.int .i64 0)], .atom (.int .i64 0), .atom (.int .i64 0)]), true⟩
theorem ti170_ok : TIok Try.prog 170 ti170 := ⟨⟨Try.t170, by kernel_rfl, rfl, rfl, fun z h => by cases h; exact ⟨_, rfl, rfl, fun S h => conc_agg (concs_app (conc_agg (concs_app (conc_atom rfl) (concs_app (conc_atom rfl) (concs_nil)))) (concs_app (conc_atom rfl) (concs_app (conc_atom rfl) (concs_nil))))⟩⟩, ⟨_, Try.underlying170, by kernel_rfl, by
  intro f hf
  simp only [List.mem_cons, List.not_mem_nil, or_false] at hf
  rcases hf with rfl | rfl | rfl
  ·exact ⟨Try.t95, by kernel_rfl⟩
  ·exact ⟨Try.t3, by kernel_rfl⟩
  ·exact ⟨Try.t3, by kernel_rfl⟩⟩, fun _ => eqOk_ex (Go.Ex.i170_ok.eqn rfl) rfl rfl rfl rfl⟩
def tiL : List (Nat × TI) := [(1, ti1), (2, ti2), (3, ti3), (4, ti4), (5, ti5), (22, ti22), (24, ti24), (25, ti25), (32, ti32), (34, ti34), (37, ti37), (40, ti40), (45, ti45), (65, ti65), (67, ti67), (69, ti69), (80, ti80), (89, ti89), (95, ti95), (98, ti98), (102, ti102), (106, ti106), (117, ti117), (122, ti122), (123, ti123), (130, ti130), (143, ti143), (144, ti144), (147, ti147), (148, ti148), (159, ti159), (167, ti167), (168, ti168), (170, ti170)]
def TTab : TT := fun t => (tiL.find? fun p => p.1 == t).map (·.2)
def AllOk (P : Program) : List (Nat × TI) → Prop
 | [] => True
 | p :: l => TIok P p.1 p.2 ∧ AllOk P l
theorem AllOk.mem {P : Program} : ∀ {l : List (Nat × TI)}, AllOk P l → ∀ p ∈ l, TIok P p.1 p.2
 | p :: _, h, q, hq => by
  rcases List.mem_cons.1 hq with rfl | hq
  ·exact h.1
  ·exact AllOk.mem h.2 q hq
 | [], _, _, hq => by cases hq
theorem tiL_ok : AllOk Try.prog tiL := ⟨ti1_ok, ti2_ok, ti3_ok, ti4_ok, ti5_ok, ti22_ok, ti24_ok, ti25_ok, ti32_ok, ti34_ok, ti37_ok, ti40_ok, ti45_ok, ti65_ok, ti67_ok, ti69_ok, ti80_ok, ti89_ok, ti95_ok, ti98_ok, ti102_ok, ti106_ok, ti117_ok, ti122_ok, ti123_ok, ti130_ok, ti143_ok, ti144_ok, ti147_ok, ti148_ok, ti159_ok, ti167_ok, ti168_ok, ti170_ok, trivial⟩
theorem TTab_ok : TTok Try.prog TTab := by
 intro t i h
 unfold TTab at h
 rw [Option.map_eq_some_iff] at h
 obtain ⟨p, h1, rfl⟩ := h
 have h2 := List.find?_some h1
 have h3 := tiL_ok.mem p (List.mem_of_find?_eq_some h1)
 rw [beq_iff_eq.1 h2] at h3
 exact h3
theorem TT_1 : TTab 1 = some ⟨.other, 1, 8, some (.atom .nilFunc), false⟩ := rfl
theorem TT_2 : TTab 2 = some ⟨.int .i64, 1, 8, some (.atom (.int .i64 0)), false⟩ := rfl
theorem TT_3 : TTab 3 = some ⟨.int .i64, 1, 8, some (.atom (.int .i64 0)), false⟩ := rfl
theorem TT_4 : TTab 4 = some ⟨.bool, 1, 1, some (.atom (.bool false)), false⟩ := rfl
theorem TT_5 : TTab 5 = some ⟨.int .u8, 1, 1, some (.atom (.int .u8 0)), false⟩ := rfl
theorem TT_22 : TTab 22 = some ⟨.slice 102, 1, 24, some (.osl 1 true []), false⟩ := rfl
theorem TT_24 : TTab 24 = some ⟨.struct [(0, 1), (1, 1), (2, 1), (3, 1), (4, 1)], 5, 32, some (.agg [.atom (.int .u8 0), .atom (.int .u8 0), .atom (.int .u8 0), .atom (.bool false), .osl 1 true []]), false⟩ := rfl
theorem TT_25 : TTab 25 = some ⟨.slice 5, 1, 24, some (.osl 1 true []), false⟩ := rfl
theorem TT_32 : TTab 32 = some ⟨.slice 98, 1, 24, some (.osl 1 true []), false⟩ := rfl
theorem TT_34 : TTab 34 = some ⟨.struct [(0, 1), (1, 1), (2, 1)], 3, 40, some (.agg [.atom (.int .i64 0), .atom (.int .i64 0), .osl 1 true []]), false⟩ := rfl
theorem TT_37 : TTab 37 = some ⟨.slice 45, 1, 24, some (.osl 1 true []), false⟩ := rfl
theorem TT_40 : TTab 40 = some ⟨.int .i64, 1, 8, some (.atom (.int .i64 0)), false⟩ := rfl
theorem TT_45 : TTab 45 = some ⟨.slice 3, 1, 24, some (.osl 1 true []), false⟩ := rfl
theorem TT_65 : TTab 65 = some ⟨.array 2 5, 2, 2, some (.agg [.atom (.int .u8 0), .atom (.int .u8 0)]), true⟩ := rfl
theorem TT_67 : TTab 67 = some ⟨.struct [(0, 1), (1, 1)], 2, 16, some (.agg [.atom (.int .i64 0), .atom (.int .i64 0)]), true⟩ := rfl
theorem TT_69 : TTab 69 = some ⟨.struct [(0, 5), (5, 5), (10, 1), (11, 2), (13, 2), (15, 2)], 17, 88, some (.agg [.agg [.atom (.int .u8 0), .atom (.int .u8 0), .atom (.int .u8 0), .atom (.bool false), .osl 1 true []], .agg [.atom (.int .u8 0), .atom (.int .u8 0), .atom (.int .u8 0), .atom (.bool false), .osl 1 true []], .atom (.bool false), .agg [.atom (.int .u8 0), .atom (.int .u8 0)], .agg [.atom (.int .u8 0), .atom (.int .u8 0)], .agg [.atom (.int .i64 0), .atom (.int .i64 0)]]), false⟩ := rfl
theorem TT_80 : TTab 80 = some ⟨.struct [(0, 1)], 1, 24, some (.agg [.osl 1 true []]), false⟩ := rfl
theorem TT_89 : TTab 89 = some ⟨.slice 95, 1, 24, some (.osl 2 true []), false⟩ := rfl
theorem TT_95 : TTab 95 = some ⟨.array 2 3, 2, 16, some (.agg [.atom (.int .i64 0), .atom (.int .i64 0)]), true⟩ := rfl
theorem TT_98 : TTab 98 = some ⟨.slice 67, 1, 24, some (.osl 2 true []), false⟩ := rfl
theorem TT_102 : TTab 102 = some ⟨.int .u16, 1, 2, some (.atom (.int .u16 0)), false⟩ := rfl
theorem TT_106 : TTab 106 = some ⟨.other, 1, 8, some (.atom .nilFunc), false⟩ := rfl
theorem TT_117 : TTab 117 = some ⟨.other, 1, 8, some (.atom .nilFunc), false⟩ := rfl
theorem TT_122 : TTab 122 = some ⟨.slice 4, 1, 24, some (.osl 1 true []), false⟩ := rfl
theorem TT_123 : TTab 123 = some ⟨.slice 122, 1, 24, some (.osl 1 true []), false⟩ := rfl
theorem TT_130 : TTab 130 = some ⟨.other, 1, 8, none, false⟩ := rfl
theorem TT_143 : TTab 143 = some ⟨.other, 1, 8, some (.atom .nilFunc), false⟩ := rfl
theorem TT_144 : TTab 144 = some ⟨.other, 1, 8, some (.atom .nilFunc), false⟩ := rfl
theorem TT_147 : TTab 147 = some ⟨.struct [(0, 1), (1, 1), (2, 2), (4, 2)], 6, 48, some (.agg [.atom (.int .i64 0), .atom (.int .i64 0), .agg [.atom (.int .i64 0), .atom (.int .i64 0)], .agg [.atom (.int .i64 0), .atom (.int .i64 0)]]), true⟩ := rfl
theorem TT_148 : TTab 148 = some ⟨.slice 170, 1, 24, some (.osl 4 true []), false⟩ := rfl
theorem TT_159 : TTab 159 = some ⟨.other, 1, 8, some (.atom .nilFunc), false⟩ := rfl
theorem TT_167 : TTab 167 = some ⟨.slice 40, 1, 24, some (.osl 1 true []), false⟩ := rfl
theorem TT_168 : TTab 168 = some ⟨.other, 1, 8, some (.atom .nilFunc), false⟩ := rfl
theorem TT_170 : TTab 170 = some ⟨.struct [(0, 2), (2, 1), (3, 1)], 4, 32, some (.agg [.agg [.atom (.int .i64 0), .atom (.int .i64 0)], .atom (.int .i64 0), .atom (.int .i64 0)]), true⟩ := rfl
attribute [go_sem] TT_1 TT_2 TT_3 TT_4 TT_5 TT_22 TT_24 TT_25 TT_32 TT_34 TT_37 TT_40 TT_45 TT_65 TT_67 TT_69 TT_80 TT_89 TT_95 TT_98 TT_102 TT_106 TT_117 TT_122 TT_123 TT_130 TT_143 TT_144 TT_147 TT_148 TT_159 TT_167 TT_168 TT_170
end Go.Own

namespace Go.Own
set_option linter.unusedVariables false
structure Arr2 (α : Type) where
 e0 : α
 e1 : α
 deriving DecidableEq
instance {α : Type} [BEq α] : BEq (Arr2 α) := ⟨fun x y => (x.e0 == y.e0) && (x.e1 == y.e1)⟩
section
variable {α : Type}
def eArr2 (f : α → A) (x : Arr2 α) : A := .agg [f x.e0, f x.e1]
instance (f : α → A) [h : EncD f] : EncD (eArr2 f) := ⟨fun x => by simp [eArr2, A.isD, A.areD, h.isD]⟩
instance (f g : α → A) [h : EncL f g] : EncL (eArr2 f) (eArr2 g) := ⟨fun x => by simp [eArr2, A.loose, A.looses, h.lo]⟩
instance (f g : α → A) [h : EncS f g] : EncS (eArr2 f) (eArr2 g) := ⟨fun x => by simp [eArr2, A.live, A.lives, h.live], fun x => by simp [eArr2, A.shut, A.shuts, h.sh]⟩
instance (f : α → A) [h : EncI f] : EncI (eArr2 f) := ⟨fun x y q => by
 simp only [eArr2, A.agg.injEq, List.cons.injEq, and_true] at q
 cases x; cases y
 simp only [Arr2.mk.injEq]
 exact ⟨h.inj _ _ q.1, h.inj _ _ q.2⟩⟩
end
structure S_law04_M where
 States : Int
 Inputs : Int
 Outputs : Int
 Partial : Bool
 Edges : List Int
def e_law04_M (f0 : Int → A) (f1 : Int → A) (f2 : Int → A) (f3 : Bool → A) (f4 : List Int → A) (x : S_law04_M) : A := .agg [f0 x.States, f1 x.Inputs, f2 x.Outputs, f3 x.Partial, f4 x.Edges]
instance (f0 : Int → A) (f1 : Int → A) (f2 : Int → A) (f3 : Bool → A) (f4 : List Int → A) (g0 : Int → A) (g1 : Int → A) (g2 : Int → A) (g3 : Bool → A) (g4 : List Int → A) [h0 : EncL f0 g0] [h1 : EncL f1 g1] [h2 : EncL f2 g2] [h3 : EncL f3 g3] [h4 : EncL f4 g4] : EncL (e_law04_M f0 f1 f2 f3 f4) (e_law04_M g0 g1 g2 g3 g4) := ⟨fun x => by simp [e_law04_M, A.loose, A.looses, h0.lo, h1.lo, h2.lo, h3.lo, h4.lo]⟩
instance (f0 : Int → A) (f1 : Int → A) (f2 : Int → A) (f3 : Bool → A) (f4 : List Int → A) [h0 : EncI f0] [h1 : EncI f1] [h2 : EncI f2] [h3 : EncI f3] [h4 : EncI f4] : EncI (e_law04_M f0 f1 f2 f3 f4) := ⟨fun x y h => by
 simp only [e_law04_M, A.agg.injEq, List.cons.injEq, and_true] at h
 cases x; cases y
 simp only [S_law04_M.mk.injEq]
 exact ⟨h0.inj _ _ h.1, h1.inj _ _ h.2.1, h2.inj _ _ h.2.2.1, h3.inj _ _ h.2.2.2.1, h4.inj _ _ h.2.2.2.2⟩⟩
structure S_api_Edge where
 To : Int
 Out : Int
def e_api_Edge (f0 : Int → A) (f1 : Int → A) (x : S_api_Edge) : A := .agg [f0 x.To, f1 x.Out]
instance (f0 : Int → A) (f1 : Int → A) [h0 : EncD f0] [h1 : EncD f1] : EncD (e_api_Edge f0 f1) := ⟨fun x => by simp [e_api_Edge, A.isD, A.areD, h0.isD, h1.isD]⟩
instance (f0 : Int → A) (f1 : Int → A) (g0 : Int → A) (g1 : Int → A) [h0 : EncL f0 g0] [h1 : EncL f1 g1] : EncL (e_api_Edge f0 f1) (e_api_Edge g0 g1) := ⟨fun x => by simp [e_api_Edge, A.loose, A.looses, h0.lo, h1.lo]⟩
instance (f0 : Int → A) (f1 : Int → A) (g0 : Int → A) (g1 : Int → A) [h0 : EncS f0 g0] [h1 : EncS f1 g1] : EncS (e_api_Edge f0 f1) (e_api_Edge g0 g1) := ⟨fun x => by simp [e_api_Edge, A.live, A.lives, h0.live, h1.live], fun x => by simp [e_api_Edge, A.shut, A.shuts, h0.sh, h1.sh]⟩
instance (f0 : Int → A) (f1 : Int → A) [h0 : EncI f0] [h1 : EncI f1] : EncI (e_api_Edge f0 f1) := ⟨fun x y h => by
 simp only [e_api_Edge, A.agg.injEq, List.cons.injEq, and_true] at h
 cases x; cases y
 simp only [S_api_Edge.mk.injEq]
 exact ⟨h0.inj _ _ h.1, h1.inj _ _ h.2⟩⟩
structure S_law10_D where
 M : S_law04_M
 X : S_law04_M
 Alike : Bool
 Swap : Arr2 Int
 Place : Arr2 Int
 To : S_api_Edge
def e_law10_D (f0 : S_law04_M → A) (f1 : S_law04_M → A) (f2 : Bool → A) (f3 : Arr2 Int → A) (f4 : Arr2 Int → A) (f5 : S_api_Edge → A) (x : S_law10_D) : A := .agg [f0 x.M, f1 x.X, f2 x.Alike, f3 x.Swap, f4 x.Place, f5 x.To]
instance (f0 : S_law04_M → A) (f1 : S_law04_M → A) (f2 : Bool → A) (f3 : Arr2 Int → A) (f4 : Arr2 Int → A) (f5 : S_api_Edge → A) (g0 : S_law04_M → A) (g1 : S_law04_M → A) (g2 : Bool → A) (g3 : Arr2 Int → A) (g4 : Arr2 Int → A) (g5 : S_api_Edge → A) [h0 : EncL f0 g0] [h1 : EncL f1 g1] [h2 : EncL f2 g2] [h3 : EncL f3 g3] [h4 : EncL f4 g4] [h5 : EncL f5 g5] : EncL (e_law10_D f0 f1 f2 f3 f4 f5) (e_law10_D g0 g1 g2 g3 g4 g5) := ⟨fun x => by simp [e_law10_D, A.loose, A.looses, h0.lo, h1.lo, h2.lo, h3.lo, h4.lo, h5.lo]⟩
instance (f0 : S_law04_M → A) (f1 : S_law04_M → A) (f2 : Bool → A) (f3 : Arr2 Int → A) (f4 : Arr2 Int → A) (f5 : S_api_Edge → A) [h0 : EncI f0] [h1 : EncI f1] [h2 : EncI f2] [h3 : EncI f3] [h4 : EncI f4] [h5 : EncI f5] : EncI (e_law10_D f0 f1 f2 f3 f4 f5) := ⟨fun x y h => by
 simp only [e_law10_D, A.agg.injEq, List.cons.injEq, and_true] at h
 cases x; cases y
 simp only [S_law10_D.mk.injEq]
 exact ⟨h0.inj _ _ h.1, h1.inj _ _ h.2.1, h2.inj _ _ h.2.2.1, h3.inj _ _ h.2.2.2.1, h4.inj _ _ h.2.2.2.2.1, h5.inj _ _ h.2.2.2.2.2⟩⟩
structure S_law01_W where
 Symbols : List Int
def e_law01_W (f0 : List Int → A) (x : S_law01_W) : A := .agg [f0 x.Symbols]
instance (f0 : List Int → A) (g0 : List Int → A) [h0 : EncL f0 g0] : EncL (e_law01_W f0) (e_law01_W g0) := ⟨fun x => by simp [e_law01_W, A.loose, A.looses, h0.lo]⟩
instance (f0 : List Int → A) [h0 : EncI f0] : EncI (e_law01_W f0) := ⟨fun x y h => by
 simp only [e_law01_W, A.agg.injEq, List.cons.injEq, and_true] at h
 cases x; cases y
 simp only [S_law01_W.mk.injEq]
 exact h0.inj _ _ h⟩
structure S_api_Machine where
 Inputs : Int
 Outputs : Int
 Rows : List (List S_api_Edge)
def e_api_Machine (f0 : Int → A) (f1 : Int → A) (f2 : List (List S_api_Edge) → A) (x : S_api_Machine) : A := .agg [f0 x.Inputs, f1 x.Outputs, f2 x.Rows]
instance (f0 : Int → A) (f1 : Int → A) (f2 : List (List S_api_Edge) → A) (g0 : Int → A) (g1 : Int → A) (g2 : List (List S_api_Edge) → A) [h0 : EncL f0 g0] [h1 : EncL f1 g1] [h2 : EncL f2 g2] : EncL (e_api_Machine f0 f1 f2) (e_api_Machine g0 g1 g2) := ⟨fun x => by simp [e_api_Machine, A.loose, A.looses, h0.lo, h1.lo, h2.lo]⟩
instance (f0 : Int → A) (f1 : Int → A) (f2 : List (List S_api_Edge) → A) [h0 : EncI f0] [h1 : EncI f1] [h2 : EncI f2] : EncI (e_api_Machine f0 f1 f2) := ⟨fun x y h => by
 simp only [e_api_Machine, A.agg.injEq, List.cons.injEq, and_true] at h
 cases x; cases y
 simp only [S_api_Machine.mk.injEq]
 exact ⟨h0.inj _ _ h.1, h1.inj _ _ h.2.1, h2.inj _ _ h.2.2⟩⟩
structure S_equals_meet where
 at_ : Int
 input_ : Int
 x_ : S_api_Edge
 y_ : S_api_Edge
def e_equals_meet (f0 : Int → A) (f1 : Int → A) (f2 : S_api_Edge → A) (f3 : S_api_Edge → A) (x : S_equals_meet) : A := .agg [f0 x.at_, f1 x.input_, f2 x.x_, f3 x.y_]
structure S_equals_arrival where
 pair_ : Arr2 Int
 from_ : Int
 input_ : Int
def e_equals_arrival (f0 : Arr2 Int → A) (f1 : Int → A) (f2 : Int → A) (x : S_equals_arrival) : A := .agg [f0 x.pair_, f1 x.from_, f2 x.input_]
instance (f0 : Arr2 Int → A) (f1 : Int → A) (f2 : Int → A) [h0 : EncD f0] [h1 : EncD f1] [h2 : EncD f2] : EncD (e_equals_arrival f0 f1 f2) := ⟨fun x => by simp [e_equals_arrival, A.isD, A.areD, h0.isD, h1.isD, h2.isD]⟩
instance (f0 : Arr2 Int → A) (f1 : Int → A) (f2 : Int → A) (g0 : Arr2 Int → A) (g1 : Int → A) (g2 : Int → A) [h0 : EncL f0 g0] [h1 : EncL f1 g1] [h2 : EncL f2 g2] : EncL (e_equals_arrival f0 f1 f2) (e_equals_arrival g0 g1 g2) := ⟨fun x => by simp [e_equals_arrival, A.loose, A.looses, h0.lo, h1.lo, h2.lo]⟩
instance (f0 : Arr2 Int → A) (f1 : Int → A) (f2 : Int → A) (g0 : Arr2 Int → A) (g1 : Int → A) (g2 : Int → A) [h0 : EncS f0 g0] [h1 : EncS f1 g1] [h2 : EncS f2 g2] : EncS (e_equals_arrival f0 f1 f2) (e_equals_arrival g0 g1 g2) := ⟨fun x => by simp [e_equals_arrival, A.live, A.lives, h0.live, h1.live, h2.live], fun x => by simp [e_equals_arrival, A.shut, A.shuts, h0.sh, h1.sh, h2.sh]⟩
instance (f0 : Arr2 Int → A) (f1 : Int → A) (f2 : Int → A) [h0 : EncI f0] [h1 : EncI f1] [h2 : EncI f2] : EncI (e_equals_arrival f0 f1 f2) := ⟨fun x y h => by
 simp only [e_equals_arrival, A.agg.injEq, List.cons.injEq, and_true] at h
 cases x; cases y
 simp only [S_equals_arrival.mk.injEq]
 exact ⟨h0.inj _ _ h.1, h1.inj _ _ h.2.1, h2.inj _ _ h.2.2⟩⟩
instance : EncK (K := Arr2 Int) (eArr2 (eI .i64)) := ⟨fun x y => by
 obtain ⟨_, _⟩ := x
 obtain ⟨_, _⟩ := y
 simp only [eArr2, eI, keyV, keyL, keyL.keyLs, valOf, BEq.beq, Option.map_some, Option.some.injEq, Value.agg.injEq, List.cons_append, List.nil_append, List.append_nil, Array.mk.injEq, List.cons.injEq, Value.int.injEq, true_and, and_true, Bool.and_eq_true, decide_eq_true_eq, and_assoc]⟩
def law04_M_Of_J1 (x_ : S_law04_M) (m_Rows : List (List S_api_Edge)) : Option S_api_Machine :=
 some (S_api_Machine.mk (w64 (1 + (w64 (Int.tmod x_.Inputs 3)))) (w64 (1 + (w64 (Int.tmod x_.Outputs 3)))) m_Rows)
def law04_M_Of_J3 (s_ : Int) (m_Rows2 : List (List S_api_Edge)) : Option (LR (List (List S_api_Edge) × Int) (List (List S_api_Edge))) :=
 some (.next (m_Rows2, w64 (s_ + 1)))
def law04_M_Of_J4 (m_Rows1 : List (List S_api_Edge)) (s_ : Int) (row : List S_api_Edge) : Option (LR (List (List S_api_Edge) × Int) (List (List S_api_Edge))) :=
 gd (m_Rows1.length + ([row] : List (List S_api_Edge)).length ≤ 4294967296) <|
 law04_M_Of_J3 s_ (m_Rows1 ++ ([row] : List (List S_api_Edge)))
def law04_M_Of_J6 (i_ : Int) (row2 : List S_api_Edge) : Option (LR (List S_api_Edge × Int) (List S_api_Edge)) :=
 some (.next (row2, w64 (i_ + 1)))
def law04_M_Of_J7 (x_ : S_law04_M) (row1 : List S_api_Edge) (i_ : Int) (v_ : Int) : Option (LR (List S_api_Edge × Int) (List S_api_Edge)) :=
 bif x_.Partial then (
  gd ((4 : Int) ≠ 0) <|
  bif (Int.tmod v_ 4) == 3 then (
   gd (row1.length + ([(S_api_Edge.mk (-1) (-1))] : List S_api_Edge).length ≤ 4294967296) <|
   law04_M_Of_J6 i_ (row1 ++ ([(S_api_Edge.mk (-1) (-1))] : List S_api_Edge)))
  else (
   gd ((4 : Int) ≠ 0) <|
   gd (((w64 (1 + (w64 (Int.tmod x_.States 6)))) : Int) ≠ 0) <|
   gd ((4 : Int) ≠ 0) <|
   gd (((w64 (1 + (w64 (Int.tmod x_.States 6)))) : Int) ≠ 0) <|
   gd (((w64 (1 + (w64 (Int.tmod x_.Outputs 3)))) : Int) ≠ 0) <|
   gd (row1.length + ([(S_api_Edge.mk (Int.tmod (w64 (Int.tdiv v_ 4)) (w64 (1 + (w64 (Int.tmod x_.States 6))))) (Int.tmod (w64 (Int.tdiv (w64 (Int.tdiv v_ 4)) (w64 (1 + (w64 (Int.tmod x_.States 6)))))) (w64 (1 + (w64 (Int.tmod x_.Outputs 3))))))] : List S_api_Edge).length ≤ 4294967296) <|
   law04_M_Of_J6 i_ (row1 ++ ([(S_api_Edge.mk (Int.tmod (w64 (Int.tdiv v_ 4)) (w64 (1 + (w64 (Int.tmod x_.States 6))))) (Int.tmod (w64 (Int.tdiv (w64 (Int.tdiv v_ 4)) (w64 (1 + (w64 (Int.tmod x_.States 6)))))) (w64 (1 + (w64 (Int.tmod x_.Outputs 3))))))] : List S_api_Edge))))
 else (
  gd ((4 : Int) ≠ 0) <|
  gd (((w64 (1 + (w64 (Int.tmod x_.States 6)))) : Int) ≠ 0) <|
  gd ((4 : Int) ≠ 0) <|
  gd (((w64 (1 + (w64 (Int.tmod x_.States 6)))) : Int) ≠ 0) <|
  gd (((w64 (1 + (w64 (Int.tmod x_.Outputs 3)))) : Int) ≠ 0) <|
  gd (row1.length + ([(S_api_Edge.mk (Int.tmod (w64 (Int.tdiv v_ 4)) (w64 (1 + (w64 (Int.tmod x_.States 6))))) (Int.tmod (w64 (Int.tdiv (w64 (Int.tdiv v_ 4)) (w64 (1 + (w64 (Int.tmod x_.States 6)))))) (w64 (1 + (w64 (Int.tmod x_.Outputs 3))))))] : List S_api_Edge).length ≤ 4294967296) <|
  law04_M_Of_J6 i_ (row1 ++ ([(S_api_Edge.mk (Int.tmod (w64 (Int.tdiv v_ 4)) (w64 (1 + (w64 (Int.tmod x_.States 6))))) (Int.tmod (w64 (Int.tdiv (w64 (Int.tdiv v_ 4)) (w64 (1 + (w64 (Int.tmod x_.States 6)))))) (w64 (1 + (w64 (Int.tmod x_.Outputs 3))))))] : List S_api_Edge)))
def law04_M_Of_L5 (x_ : S_law04_M) (s_ : Int) (row1 : List S_api_Edge) (i_ : Int) : Option (LR (List S_api_Edge × Int) (List S_api_Edge)) :=
 bif decide (i_ < (w64 (1 + (w64 (Int.tmod x_.Inputs 3))))) then (
  bif decide ((w64 ((w64 (s_ * (w64 (1 + (w64 (Int.tmod x_.Inputs 3)))))) + i_)) < ((x_.Edges.length : Nat) : Int)) then (
   Option.bind (idx x_.Edges (w64 ((w64 (s_ * (w64 (1 + (w64 (Int.tmod x_.Inputs 3)))))) + i_))) fun Edge_e =>
   law04_M_Of_J7 x_ row1 i_ (w64 (Edge_e)))
  else (
   law04_M_Of_J7 x_ row1 i_ 0))
 else (
  some (.done row1))
def law04_M_Of_L2 (x_ : S_law04_M) (m_Rows1 : List (List S_api_Edge)) (s_ : Int) : Option (LR (List (List S_api_Edge) × Int) (List (List S_api_Edge))) :=
 bif decide (s_ < (w64 (1 + (w64 (Int.tmod x_.States 6))))) then (
  Option.bind (loop (fun s => law04_M_Of_L5 x_ s_ s.1 s.2) (([] : List S_api_Edge), 0)) fun t5 =>
  law04_M_Of_J4 m_Rows1 s_ t5)
 else (
  some (.done m_Rows1))
def law04_M_Of (x_ : S_law04_M) : Option S_api_Machine :=
 gd ((6 : Int) ≠ 0) <|
 gd ((3 : Int) ≠ 0) <|
 gd ((3 : Int) ≠ 0) <|
 Option.bind (loop (fun s => law04_M_Of_L2 x_ s.1 s.2) (([] : List (List S_api_Edge)), 0)) fun t2 =>
 law04_M_Of_J1 x_ t2
def ref04_Copy_J1 (m_ : S_api_Machine) (out_Rows : List (List S_api_Edge)) : Option S_api_Machine :=
 some (S_api_Machine.mk m_.Inputs m_.Outputs out_Rows)
def ref04_Copy_L2 (m_ : S_api_Machine) (out_Rows1 : List (List S_api_Edge)) (s_ : Int) : Option (LR (List (List S_api_Edge) × Int) (List (List S_api_Edge))) :=
 bif decide (s_ < ((m_.Rows.length : Nat) : Int)) then (
  Option.bind (idx m_.Rows s_) fun Row_e =>
  gd (([] : List S_api_Edge).length + Row_e.length ≤ 4294967296) <|
  gd (out_Rows1.length + ([Row_e] : List (List S_api_Edge)).length ≤ 4294967296) <|
  some (.next ((out_Rows1 ++ ([Row_e] : List (List S_api_Edge))), w64 (s_ + 1))))
 else (
  some (.done out_Rows1))
def ref04_Copy (m_ : S_api_Machine) : Option S_api_Machine :=
 Option.bind (loop (fun s => ref04_Copy_L2 m_ s.1 s.2) (([] : List (List S_api_Edge)), 0)) fun t2 =>
 ref04_Copy_J1 m_ t2
def ref04_Check_J1 : Option Int :=
 some 0
def ref04_Check_J3 (s_ : Int) : Option (LR Int (Unit ⊕ Int)) :=
 some (.next (w64 (s_ + 1)))
def ref04_Check_J5 (i_ : Int) : Option (LR Int (Unit ⊕ Int)) :=
 some (.next (w64 (i_ + 1)))
def ref04_Check_J6 (m_ : S_api_Machine) (i_ : Int) (Row_e_e : S_api_Edge) : Option (LR Int (Unit ⊕ Int)) :=
 bif decide (Row_e_e.To < 0) then (
  some (.done (.inr 1)))
 else (
  bif decide (Row_e_e.To ≥ ((m_.Rows.length : Nat) : Int)) then (
   some (.done (.inr 1)))
  else (
   bif decide (Row_e_e.Out < 0) then (
    some (.done (.inr 1)))
   else (
    bif decide (Row_e_e.Out ≥ m_.Outputs) then (
     some (.done (.inr 1)))
    else (
     ref04_Check_J5 i_))))
def ref04_Check_L4 (m_ : S_api_Machine) (s_ : Int) (i_ : Int) : Option (LR Int (Unit ⊕ Int)) :=
 bif decide (i_ < m_.Inputs) then (
  Option.bind (idx m_.Rows s_) fun Row_e1 =>
  Option.bind (idx Row_e1 i_) fun Row_e_e =>
  bif Row_e_e.To == (-1) then (
   bif Row_e_e.Out == (-1) then (
    ref04_Check_J5 i_)
   else (
    ref04_Check_J6 m_ i_ Row_e_e))
  else (
   ref04_Check_J6 m_ i_ Row_e_e))
 else (
  some (.done (.inl ())))
def ref04_Check_L2 (m_ : S_api_Machine) (s_ : Int) : Option (LR Int (Unit ⊕ Int)) :=
 bif decide (s_ < ((m_.Rows.length : Nat) : Int)) then (
  Option.bind (idx m_.Rows s_) fun Row_e =>
  bif ((Row_e.length : Nat) : Int) != m_.Inputs then (
   some (.done (.inr 1)))
  else (
   Option.bind (loop (fun s => ref04_Check_L4 m_ s_ s) 0) fun t4 =>
   match t4 with
   | .inl p => ref04_Check_J3 s_
   | .inr p => some (.done (.inr p))))
 else (
  some (.done (.inl ())))
def ref04_Check (m_ : S_api_Machine) : Option Int :=
 bif decide (m_.Inputs > 16) then (
  some 3)
 else (
  bif decide (m_.Outputs > 16) then (
   some 3)
  else (
   bif decide (((m_.Rows.length : Nat) : Int) > 64) then (
    some 3)
   else (
    bif decide (m_.Inputs < 1) then (
     some 1)
    else (
     bif decide (m_.Outputs < 1) then (
      some 1)
     else (
      bif ((m_.Rows.length : Nat) : Int) == 0 then (
       some 1)
      else (
       Option.bind (loop (fun s => ref04_Check_L2 m_ s) 0) fun t2 =>
       match t2 with
       | .inl p => ref04_Check_J1
       | .inr p => some p))))))
def law10_D_Of_J3 (x_ : S_law10_D) (r_ : S_api_Machine) (r_2 : S_api_Machine) (b_Rows : List (List S_api_Edge)) : Option (S_api_Machine × S_api_Machine) :=
 Option.bind (ref04_Copy (S_api_Machine.mk r_2.Inputs r_2.Outputs b_Rows)) fun r_3 =>
 gd ((((r_.Rows.length : Nat) : Int) : Int) ≠ 0) <|
 Option.bind (idx r_3.Rows (Int.tmod (w64 (x_.Place.e0)) ((r_.Rows.length : Nat) : Int))) fun Row_e =>
 gd ((r_.Inputs : Int) ≠ 0) <|
 Option.bind (idx Row_e (Int.tmod (w64 (x_.Place.e1)) r_.Inputs)) fun Row_e_e =>
 Option.bind (ref04_Check (S_api_Machine.mk r_3.Inputs r_3.Outputs (r_3.Rows.set (Int.tmod (w64 (x_.Place.e0)) ((r_.Rows.length : Nat) : Int)).toNat (Row_e.set (Int.tmod (w64 (x_.Place.e1)) r_.Inputs).toNat x_.To)))) fun r_4 =>
 bif r_4 == 0 then (
  some (r_, (S_api_Machine.mk r_3.Inputs r_3.Outputs (r_3.Rows.set (Int.tmod (w64 (x_.Place.e0)) ((r_.Rows.length : Nat) : Int)).toNat (Row_e.set (Int.tmod (w64 (x_.Place.e1)) r_.Inputs).toNat x_.To)))))
 else (
  some (r_, (S_api_Machine.mk r_2.Inputs r_2.Outputs b_Rows)))
def law10_D_Of_J5 (s_ : Int) (b_Rows2 : List (List S_api_Edge)) : Option (LR (List (List S_api_Edge) × Int) (List (List S_api_Edge))) :=
 some (.next (b_Rows2, w64 (s_ + 1)))
def law10_D_Of_J7 (to1 : List Int) (s_ : Int) (b_Rows3 : List (List S_api_Edge)) (i_ : Int) (Row_e_e1 : S_api_Edge) (e_To : Int) : Option (LR (List (List S_api_Edge) × Int) (List (List S_api_Edge))) :=
 Option.bind (idx to1 s_) fun to_e =>
 Option.bind (idx b_Rows3 to_e) fun b_Row_e =>
 Option.bind (idx b_Row_e i_) fun b_Row_e_e =>
 some (.next ((b_Rows3.set to_e.toNat (b_Row_e.set i_.toNat (S_api_Edge.mk e_To Row_e_e1.Out))), w64 (i_ + 1)))
def law10_D_Of_L6 (r_ : S_api_Machine) (to1 : List Int) (s_ : Int) (b_Rows3 : List (List S_api_Edge)) (i_ : Int) : Option (LR (List (List S_api_Edge) × Int) (List (List S_api_Edge))) :=
 bif decide (i_ < r_.Inputs) then (
  Option.bind (idx r_.Rows s_) fun Row_e1 =>
  Option.bind (idx Row_e1 i_) fun Row_e_e1 =>
  bif decide (Row_e_e1.To ≥ 0) then (
   Option.bind (idx to1 Row_e_e1.To) fun to_e1 =>
   law10_D_Of_J7 to1 s_ b_Rows3 i_ Row_e_e1 to_e1)
  else (
   law10_D_Of_J7 to1 s_ b_Rows3 i_ Row_e_e1 Row_e_e1.To))
 else (
  some (.done b_Rows3))
def law10_D_Of_L4 (r_ : S_api_Machine) (to1 : List Int) (b_Rows1 : List (List S_api_Edge)) (s_ : Int) : Option (LR (List (List S_api_Edge) × Int) (List (List S_api_Edge))) :=
 bif decide (s_ < ((r_.Rows.length : Nat) : Int)) then (
  Option.bind (loop (fun s => law10_D_Of_L6 r_ to1 s_ s.1 s.2) (b_Rows1, 0)) fun t6 =>
  law10_D_Of_J5 s_ t6)
 else (
  some (.done b_Rows1))
def law10_D_Of_J2 (x_ : S_law10_D) (r_ : S_api_Machine) (to1 : List Int) : Option (S_api_Machine × S_api_Machine) :=
 Option.bind (ref04_Copy r_) fun r_2 =>
 Option.bind (loop (fun s => law10_D_Of_L4 r_ to1 s.1 s.2) (r_2.Rows, 0)) fun t4 =>
 law10_D_Of_J3 x_ r_ r_2 t4
def law10_D_Of_J1 (x_ : S_law10_D) (r_ : S_api_Machine) (to : List Int) : Option (S_api_Machine × S_api_Machine) :=
 bif decide (((r_.Rows.length : Nat) : Int) > 1) then (
  gd (((w64 (((r_.Rows.length : Nat) : Int) - 1)) : Int) ≠ 0) <|
  gd (((w64 (((r_.Rows.length : Nat) : Int) - 1)) : Int) ≠ 0) <|
  Option.bind (idx to (w64 (1 + (Int.tmod (w64 (x_.Swap.e1)) (w64 (((r_.Rows.length : Nat) : Int) - 1)))))) fun to_e2 =>
  Option.bind (idx to (w64 (1 + (Int.tmod (w64 (x_.Swap.e0)) (w64 (((r_.Rows.length : Nat) : Int) - 1)))))) fun to_e3 =>
  Option.bind (idx to (w64 (1 + (Int.tmod (w64 (x_.Swap.e0)) (w64 (((r_.Rows.length : Nat) : Int) - 1)))))) fun to_e4 =>
  Option.bind (idx (to.set (w64 (1 + (Int.tmod (w64 (x_.Swap.e0)) (w64 (((r_.Rows.length : Nat) : Int) - 1))))).toNat to_e2) (w64 (1 + (Int.tmod (w64 (x_.Swap.e1)) (w64 (((r_.Rows.length : Nat) : Int) - 1)))))) fun u_e =>
  law10_D_Of_J2 x_ r_ ((to.set (w64 (1 + (Int.tmod (w64 (x_.Swap.e0)) (w64 (((r_.Rows.length : Nat) : Int) - 1))))).toNat to_e2).set (w64 (1 + (Int.tmod (w64 (x_.Swap.e1)) (w64 (((r_.Rows.length : Nat) : Int) - 1))))).toNat to_e3))
 else (
  law10_D_Of_J2 x_ r_ to)
def law10_D_Of_L8 (r_ : S_api_Machine) (to2 : List Int) (s_1 : Int) : Option (LR (List Int × Int) (List Int)) :=
 bif decide (s_1 < ((r_.Rows.length : Nat) : Int)) then (
  gd (to2.length + ([s_1] : List Int).length ≤ 4294967296) <|
  some (.next ((to2 ++ ([s_1] : List Int)), w64 (s_1 + 1))))
 else (
  some (.done to2))
def law10_D_Of (x_ : S_law10_D) : Option (S_api_Machine × S_api_Machine) :=
 Option.bind (law04_M_Of x_.M) fun r_ =>
 bif !x_.Alike then (
  Option.bind (law04_M_Of (S_law04_M.mk x_.X.States x_.M.Inputs x_.X.Outputs x_.X.Partial x_.X.Edges)) fun r_1 =>
  some (r_, r_1))
 else (
  Option.bind (loop (fun s => law10_D_Of_L8 r_ s.1 s.2) (([] : List Int), 0)) fun t8 =>
  law10_D_Of_J1 x_ r_ t8)
def law01_W_Of_J1 (out : List Int) : Option (List Int) :=
 some out
def law01_W_Of_L2 (x_ : S_law01_W) (inputs : Int) (out1 : List Int) (i_ : Int) : Option (LR (List Int × Int) (List Int)) :=
 bif decide (i_ < ((x_.Symbols.length : Nat) : Int)) then (
  bif decide (i_ < 12) then (
   Option.bind (idx x_.Symbols i_) fun Symbol_e =>
   gd ((inputs : Int) ≠ 0) <|
   gd (out1.length + ([Int.tmod (w64 (Symbol_e)) inputs] : List Int).length ≤ 4294967296) <|
   some (.next ((out1 ++ ([Int.tmod (w64 (Symbol_e)) inputs] : List Int)), w64 (i_ + 1))))
  else (
   some (.done out1)))
 else (
  some (.done out1))
def law01_W_Of (x_ : S_law01_W) (inputs : Int) : Option (List Int) :=
 Option.bind (loop (fun s => law01_W_Of_L2 x_ inputs s.1 s.2) (([] : List Int), 0)) fun t2 =>
 law01_W_Of_J1 t2
def machines_none : Option S_api_Edge :=
 some (S_api_Edge.mk (-1) (-1))
def machines_fits (m_ : S_api_Machine) (x_ : S_api_Edge) : Option Bool :=
 Option.bind (machines_none) fun r_ =>
 bif (x_.To == r_.To) && ((x_.Out == r_.Out) && true) then (
  some true)
 else (
  bif decide (x_.To ≥ 0) then (
   bif decide (x_.To < ((m_.Rows.length : Nat) : Int)) then (
    bif decide (x_.Out ≥ 0) then (
     some (decide (x_.Out < m_.Outputs)))
    else (
     some false))
   else (
    some false))
  else (
   some false))
def machines_Check_1 (x_ : S_api_Edge) (x1 : S_api_Machine) : Option Bool :=
 Option.bind (machines_fits x1 x_) fun r_ =>
 some (!r_)
def slices_IndexFunc_api_Edge_api_Edge_J1 : Option Int :=
 some (-1)
def slices_IndexFunc_api_Edge_api_Edge_L2 (s_ : List S_api_Edge) (f_ : S_api_Machine) (x8 : Int) : Option (LR Int (Unit ⊕ Int)) :=
 bif decide (x8 < ((s_.length : Nat) : Int)) then (
  Option.bind (idx s_ x8) fun s__e =>
  Option.bind (machines_Check_1 s__e f_) fun r_ =>
  bif r_ then (
   some (.done (.inr x8)))
  else (
   some (.next (w64 (x8 + 1)))))
 else (
  some (.done (.inl ())))
def slices_IndexFunc_api_Edge_api_Edge (s_ : List S_api_Edge) (f_ : S_api_Machine) : Option Int :=
 Option.bind (loop (fun s => slices_IndexFunc_api_Edge_api_Edge_L2 s_ f_ s) 0) fun t2 =>
 match t2 with
 | .inl p => slices_IndexFunc_api_Edge_api_Edge_J1
 | .inr p => some p
def slices_ContainsFunc_api_Edge_api_Edge (s_ : List S_api_Edge) (f_ : S_api_Machine) : Option Bool :=
 Option.bind (slices_IndexFunc_api_Edge_api_Edge s_ f_) fun r_ =>
 some (decide (r_ ≥ 0))
def machines_Check_J1 : Option Int :=
 some 0
def machines_Check_L2 (m_ : S_api_Machine) (x36 : Int) : Option (LR Int (Unit ⊕ Int)) :=
 bif decide (x36 < ((m_.Rows.length : Nat) : Int)) then (
  Option.bind (idx m_.Rows x36) fun Row_e =>
  bif ((Row_e.length : Nat) : Int) != m_.Inputs then (
   some (.done (.inr 1)))
  else (
   Option.bind (slices_ContainsFunc_api_Edge_api_Edge Row_e m_) fun r_ =>
   bif r_ then (
    some (.done (.inr 1)))
   else (
    some (.next (w64 (x36 + 1))))))
 else (
  some (.done (.inl ())))
def machines_Check (m_ : S_api_Machine) : Option Int :=
 bif decide (m_.Inputs > 16) then (
  some 3)
 else (
  bif decide (m_.Outputs > 16) then (
   some 3)
  else (
   bif decide (((m_.Rows.length : Nat) : Int) > 64) then (
    some 3)
   else (
    bif decide (m_.Inputs < 1) then (
     some 1)
    else (
     bif decide (m_.Outputs < 1) then (
      some 1)
     else (
      bif decide (((m_.Rows.length : Nat) : Int) < 1) then (
       some 1)
      else (
       Option.bind (loop (fun s => machines_Check_L2 m_ s) 0) fun t2 =>
       match t2 with
       | .inl p => machines_Check_J1
       | .inr p => some p))))))
def cmp_Or_api_Errno_J1 : Option Int :=
 some 0
def cmp_Or_api_Errno_L2 (vals : List Int) (x8 : Int) : Option (LR Int (Unit ⊕ Int)) :=
 bif decide (x8 < ((vals.length : Nat) : Int)) then (
  Option.bind (idx vals x8) fun val_e =>
  bif val_e != 0 then (
   some (.done (.inr val_e)))
  else (
   some (.next (w64 (x8 + 1)))))
 else (
  some (.done (.inl ())))
def cmp_Or_api_Errno (vals : List Int) : Option Int :=
 Option.bind (loop (fun s => cmp_Or_api_Errno_L2 vals s) 0) fun t2 =>
 match t2 with
 | .inl p => cmp_Or_api_Errno_J1
 | .inr p => some p
def equals_both_J1 (e_ : Int) : Option Int :=
 some e_
def equals_both (a_ : S_api_Machine) (b_ : S_api_Machine) : Option Int :=
 Option.bind (machines_Check a_) fun r_ =>
 Option.bind (machines_Check b_) fun r_1 =>
 Option.bind (cmp_Or_api_Errno ([r_, r_1])) fun r_2 =>
 bif r_2 == 0 then (
  bif a_.Inputs != b_.Inputs then (
   equals_both_J1 5)
  else (
   equals_both_J1 r_2))
 else (
  equals_both_J1 r_2)
def equals_meets (a_ : S_api_Machine) (b_ : S_api_Machine) : Option (S_api_Machine × S_api_Machine) :=
 some (a_, b_)
def equals_meets_1_J2 {σ : Type} (at_ : Int) (sg2 : σ) (seen1 : List ((Arr2 Int) × Bool)) (l_1 : List S_equals_arrival) : Option (LR (σ × (List ((Arr2 Int) × Bool)) × List S_equals_arrival × Int) σ) :=
 some (.next (sg2, seen1, l_1, w64 (at_ + 1)))
def equals_meets_1_J4 {σ : Type} (x38 : Int) (sg4 : σ) (seen3 : List ((Arr2 Int) × Bool)) (l_3 : List S_equals_arrival) : Option (LR (σ × (List ((Arr2 Int) × Bool)) × List S_equals_arrival × Int) ((σ × (List ((Arr2 Int) × Bool)) × List S_equals_arrival) ⊕ σ)) :=
 some (.next (sg4, seen3, l_3, w64 (x38 + 1)))
def equals_meets_1_L3 {σ : Type} (x0 : S_api_Machine) (x1 : S_api_Machine) (yy : σ → (S_equals_meet × List S_equals_arrival) → Option (σ × Bool)) (at_ : Int) (l__e : S_equals_arrival) (l__e1 : S_equals_arrival) (sg3 : σ) (seen2 : List ((Arr2 Int) × Bool)) (l_2 : List S_equals_arrival) (x38 : Int) : Option (LR (σ × (List ((Arr2 Int) × Bool)) × List S_equals_arrival × Int) ((σ × (List ((Arr2 Int) × Bool)) × List S_equals_arrival) ⊕ σ)) :=
 bif decide (x38 < x0.Inputs) then (
  Option.bind (idx x0.Rows l__e.pair_.e0) fun Row_e =>
  Option.bind (idx Row_e x38) fun Row_e_e =>
  Option.bind (idx x1.Rows l__e1.pair_.e1) fun Row_e1 =>
  Option.bind (idx Row_e1 x38) fun Row_e_e1 =>
  Option.bind (yy sg3 ((S_equals_meet.mk at_ x38 Row_e_e Row_e_e1), l_2)) fun yr =>
  bif yr.2 then (
   bif Row_e_e.To != (-1) then (
    bif Row_e_e1.To != (-1) then (
     Option.bind (some ((mget seen2 (Arr2.mk Row_e_e.To Row_e_e1.To)).getD false)) fun val =>
     bif !val then (
      gd (l_2.length + ([(S_equals_arrival.mk (Arr2.mk Row_e_e.To Row_e_e1.To) at_ x38)] : List S_equals_arrival).length ≤ 4294967296) <|
      equals_meets_1_J4 x38 yr.1 (mset seen2 (Arr2.mk Row_e_e.To Row_e_e1.To) true) (l_2 ++ ([(S_equals_arrival.mk (Arr2.mk Row_e_e.To Row_e_e1.To) at_ x38)] : List S_equals_arrival)))
     else (
      equals_meets_1_J4 x38 yr.1 seen2 l_2))
    else (
     equals_meets_1_J4 x38 yr.1 seen2 l_2))
   else (
    equals_meets_1_J4 x38 yr.1 seen2 l_2))
  else (
   some (.done (.inr yr.1))))
 else (
  some (.done (.inl (sg3, seen2, l_2))))
def equals_meets_1_L1 {σ : Type} (x0 : S_api_Machine) (x1 : S_api_Machine) (yy : σ → (S_equals_meet × List S_equals_arrival) → Option (σ × Bool)) (sg1 : σ) (seen : List ((Arr2 Int) × Bool)) (l_ : List S_equals_arrival) (at_ : Int) : Option (LR (σ × (List ((Arr2 Int) × Bool)) × List S_equals_arrival × Int) σ) :=
 bif decide (at_ < ((l_.length : Nat) : Int)) then (
  Option.bind (idx l_ at_) fun l__e =>
  Option.bind (idx l_ at_) fun l__e1 =>
  Option.bind (loop (fun s => equals_meets_1_L3 x0 x1 yy at_ l__e l__e1 s.1 s.2.1 s.2.2.1 s.2.2.2) (sg1, seen, l_, 0)) fun t3 =>
  match t3 with
  | .inl p => equals_meets_1_J2 at_ p.1 p.2.1 p.2.2
  | .inr p => some (.done p))
 else (
  some (.done sg1))
def equals_meets_1 (x0 : S_api_Machine) (x1 : S_api_Machine) {σ : Type} (yy : σ → (S_equals_meet × List S_equals_arrival) → Option (σ × Bool)) (sg : σ) : Option σ :=
 Option.bind (loop (fun s => equals_meets_1_L1 x0 x1 yy s.1 s.2.1 s.2.2.1 s.2.2.2) (sg, (mset ([] : List ((Arr2 Int) × Bool)) (Arr2.mk 0 0) true), ([(S_equals_arrival.mk (Arr2.mk 0 0) (-1) 0)] : List S_equals_arrival), 0)) fun t1 =>
 some t1
def slices_Clip_int_int (s_ : List Int) : Option (List Int) :=
 gd ((0 : Int) ≤ 0 ∧ (0 : Int) ≤ ((s_.length : Nat) : Int) ∧ (((s_.length : Nat) : Int) : Int) ≤ ((s_.length : Nat) : Int) ∧ (((s_.length : Nat) : Int) : Int) ≤ ((s_.length : Nat) : Int)) <|
 some ((s_.drop 0).take (((s_.length : Nat) : Int).toNat - 0))
def equals_word_J1 (more1 : List Int) : Option (List Int) :=
 Option.bind (slices_Clip_int_int more1) fun r_ =>
 some r_
def equals_word_L2 (l_ : List S_equals_arrival) (at_1 : Int) (more2 : List Int) : Option (LR (Int × List Int) (List Int)) :=
 Option.bind (idx l_ at_1) fun l__e =>
 bif l__e.from_ != (-1) then (
  Option.bind (idx l_ at_1) fun l__e1 =>
  gd (([l__e1.input_] : List Int).length + more2.length ≤ 4294967296) <|
  Option.bind (idx l_ at_1) fun l__e2 =>
  some (.next (l__e2.from_, (([l__e1.input_]) ++ more2))))
 else (
  some (.done more2))
def equals_word (l_ : List S_equals_arrival) (at_ : Int) (more : List Int) : Option (List Int) :=
 Option.bind (loop (fun s => equals_word_L2 l_ s.1 s.2) (at_, more)) fun t2 =>
 equals_word_J1 t2
def slices_Index_2_int_2_int_J1 : Option Int :=
 some (-1)
def slices_Index_2_int_2_int_L2 (s_ : List (Arr2 Int)) (v_ : Arr2 Int) (x8 : Int) : Option (LR Int (Unit ⊕ Int)) :=
 bif decide (x8 < ((s_.length : Nat) : Int)) then (
  Option.bind (idx s_ x8) fun s__e =>
  bif (v_.e0 == s__e.e0) && ((v_.e1 == s__e.e1) && true) then (
   some (.done (.inr x8)))
  else (
   some (.next (w64 (x8 + 1)))))
 else (
  some (.done (.inl ())))
def slices_Index_2_int_2_int (s_ : List (Arr2 Int)) (v_ : Arr2 Int) : Option Int :=
 Option.bind (loop (fun s => slices_Index_2_int_2_int_L2 s_ v_ s) 0) fun t2 =>
 match t2 with
 | .inl p => slices_Index_2_int_2_int_J1
 | .inr p => some p
def slices_Contains_2_int_2_int (s_ : List (Arr2 Int)) (v_ : Arr2 Int) : Option Bool :=
 Option.bind (slices_Index_2_int_2_int s_ v_) fun r_ =>
 some (decide (r_ ≥ 0))
def equals_differ_J1 (x4 : List Int) (pairs : List (Arr2 Int)) : Option (List Int × List (Arr2 Int)) :=
 some (([] : List Int), pairs)
def equals_differ_I2 (x41 : List Int) (pairs1 : List (Arr2 Int)) (x15 : S_equals_meet) (x16 : List S_equals_arrival) : Option (LR (List Int × List (Arr2 Int)) ((List Int × List (Arr2 Int)))) :=
 bif x15.x_.Out != x15.y_.Out then (
  Option.bind (equals_word x16 x15.at_ ([x15.input_])) fun r_1 =>
  some (.done (r_1, pairs1)))
 else (
  bif x15.x_.To != (-1) then (
   Option.bind (slices_Contains_2_int_2_int pairs1 (Arr2.mk x15.x_.To x15.y_.To)) fun r_2 =>
   bif !r_2 then (
    gd (pairs1.length + ([(Arr2.mk x15.x_.To x15.y_.To)] : List (Arr2 Int)).length ≤ 4294967296) <|
    some (.next (x41, (pairs1 ++ ([(Arr2.mk x15.x_.To x15.y_.To)] : List (Arr2 Int))))))
   else (
    some (.next (x41, pairs1))))
  else (
   some (.next (x41, pairs1))))
def equals_differ (a_ : S_api_Machine) (b_ : S_api_Machine) : Option (List Int × List (Arr2 Int)) :=
 Option.bind (equals_meets a_ b_) fun r_ =>
 Option.bind (equals_meets_1 r_.1 r_.2 (yOf (fun s x => equals_differ_I2 s.1 s.2 x.1 x.2)) (.next (([] : List Int), ([(Arr2.mk 0 0)] : List (Arr2 Int))))) fun t2 =>
 match t2 with
 | .next (x41, pairs1) => (
  equals_differ_J1 x41 pairs1)
 | .done (x41, pairs1) => (
  some (x41, ([] : List (Arr2 Int))))
def equals_Differ (a_ : S_api_Machine) (b_ : S_api_Machine) : Option (List Int × Bool × Int) :=
 Option.bind (equals_both a_ b_) fun r_ =>
 bif r_ != 0 then (
  some (([] : List Int), false, r_))
 else (
  Option.bind (equals_differ a_ b_) fun r_1 =>
  some (r_1.1, decide (((r_1.1.length : Nat) : Int) > 0), 0))
def equals_Equal (a_ : S_api_Machine) (b_ : S_api_Machine) : Option (Bool × Int) :=
 Option.bind (equals_Differ a_ b_) fun r_ =>
 bif r_.2.2 == 0 then (
  some (!r_.2.1, r_.2.2))
 else (
  some (false, r_.2.2))
def ref07_apart_J1 : Option Int :=
 some 0
def ref07_apart_J3 (i_ : Int) (x41 : Int) (x42 : Bool) (x43 : Bool) (x47 : Bool) (x48 : Bool) (x58 : Bool) : Option (LR Int (Unit ⊕ Int)) :=
 some (.next (w64 (i_ + 1)))
def ref07_apart_L2 (m_ : S_api_Machine) (marked : List (List Bool)) (s_ : Int) (t_ : Int) (i_ : Int) : Option (LR Int (Unit ⊕ Int)) :=
 bif decide (i_ < m_.Inputs) then (
  Option.bind (idx m_.Rows s_) fun Row_e =>
  Option.bind (idx Row_e i_) fun Row_e_e =>
  Option.bind (idx m_.Rows t_) fun Row_e1 =>
  Option.bind (idx Row_e1 i_) fun Row_e_e1 =>
  bif Row_e_e.Out != Row_e_e1.Out then (
   some (.done (.inr 1)))
  else (
   bif decide (Row_e_e.To ≥ 0) then (
    bif decide (Row_e_e1.To ≥ 0) then (
     Option.bind (idx marked Row_e_e.To) fun marked_e =>
     Option.bind (idx marked_e Row_e_e1.To) fun marked_e_e =>
     bif marked_e_e then (
      some (.done (.inr 1)))
     else (
      ref07_apart_J3 i_ Row_e_e.To (decide (Row_e_e.To ≥ 0)) (decide (Row_e_e.To ≥ 0)) (decide (Row_e_e1.To ≥ 0)) (decide (Row_e_e1.To ≥ 0)) marked_e_e))
    else (
     ref07_apart_J3 i_ Row_e_e.To (decide (Row_e_e.To ≥ 0)) (decide (Row_e_e.To ≥ 0)) (decide (Row_e_e1.To ≥ 0)) (decide (Row_e_e1.To ≥ 0)) false))
   else (
    ref07_apart_J3 i_ Row_e_e.To (decide (Row_e_e.To ≥ 0)) (decide (Row_e_e.To ≥ 0)) false false false)))
 else (
  some (.done (.inl ())))
def ref07_apart (m_ : S_api_Machine) (marked : List (List Bool)) (s_ : Int) (t_ : Int) : Option Int :=
 Option.bind (loop (fun s => ref07_apart_L2 m_ marked s_ t_ s) 0) fun t2 =>
 match t2 with
 | .inl p => ref07_apart_J1
 | .inr p => some p
def ref07_Marked_J2 (marked1 : List (List Bool)) : Option (List (List Bool)) :=
 some marked1
def ref07_Marked_J4 (round : Int) (marked3 : List (List Bool)) : Option (LR (List (List Bool) × Int) (List (List Bool))) :=
 some (.next (marked3, w64 (round + 1)))
def ref07_Marked_J5 (round : Int) (next : List (List Bool)) : Option (LR (List (List Bool) × Int) (List (List Bool))) :=
 ref07_Marked_J4 round next
def ref07_Marked_J7 (s_ : Int) (next2 : List (List Bool)) : Option (LR (List (List Bool) × Int) (List (List Bool))) :=
 some (.next (next2, w64 (s_ + 1)))
def ref07_Marked_L8 (m_ : S_api_Machine) (marked2 : List (List Bool)) (s_ : Int) (next3 : List (List Bool)) (t_ : Int) : Option (LR (List (List Bool) × Int) (List (List Bool))) :=
 bif decide (t_ < ((m_.Rows.length : Nat) : Int)) then (
  Option.bind (idx next3 s_) fun next_e =>
  Option.bind (idx marked2 s_) fun marked_e =>
  Option.bind (idx marked_e t_) fun marked_e_e =>
  bif marked_e_e then (
   Option.bind (idx next_e t_) fun next_e_e =>
   some (.next ((next3.set s_.toNat (next_e.set t_.toNat true)), w64 (t_ + 1))))
  else (
   Option.bind (ref07_apart m_ marked2 s_ t_) fun r_ =>
   Option.bind (idx next_e t_) fun next_e_e1 =>
   some (.next ((next3.set s_.toNat (next_e.set t_.toNat (r_ == 1))), w64 (t_ + 1)))))
 else (
  some (.done next3))
def ref07_Marked_L6 (m_ : S_api_Machine) (marked2 : List (List Bool)) (next1 : List (List Bool)) (s_ : Int) : Option (LR (List (List Bool) × Int) (List (List Bool))) :=
 bif decide (s_ < ((m_.Rows.length : Nat) : Int)) then (
  gd ((0 : Int) ≤ ((m_.Rows.length : Nat) : Int) ∧ (((m_.Rows.length : Nat) : Int) : Int) ≤ 4294967296) <|
  gd (next1.length + ([(List.replicate ((m_.Rows.length : Nat) : Int).toNat false)] : List (List Bool)).length ≤ 4294967296) <|
  Option.bind (loop (fun s => ref07_Marked_L8 m_ marked2 s_ s.1 s.2) ((next1 ++ ([(List.replicate ((m_.Rows.length : Nat) : Int).toNat false)] : List (List Bool))), 0)) fun t8 =>
  ref07_Marked_J7 s_ t8)
 else (
  some (.done next1))
def ref07_Marked_L3 (m_ : S_api_Machine) (k_ : Int) (marked2 : List (List Bool)) (round : Int) : Option (LR (List (List Bool) × Int) (List (List Bool))) :=
 bif decide (round < k_) then (
  Option.bind (loop (fun s => ref07_Marked_L6 m_ marked2 s.1 s.2) (([] : List (List Bool)), 0)) fun t6 =>
  ref07_Marked_J5 round t6)
 else (
  some (.done marked2))
def ref07_Marked_J1 (m_ : S_api_Machine) (k_ : Int) (marked : List (List Bool)) : Option (List (List Bool)) :=
 Option.bind (loop (fun s => ref07_Marked_L3 m_ k_ s.1 s.2) (marked, 0)) fun t3 =>
 ref07_Marked_J2 t3
def ref07_Marked_L9 (m_ : S_api_Machine) (marked4 : List (List Bool)) (s_1 : Int) : Option (LR (List (List Bool) × Int) (List (List Bool))) :=
 bif decide (s_1 < ((m_.Rows.length : Nat) : Int)) then (
  gd ((0 : Int) ≤ ((m_.Rows.length : Nat) : Int) ∧ (((m_.Rows.length : Nat) : Int) : Int) ≤ 4294967296) <|
  gd (marked4.length + ([(List.replicate ((m_.Rows.length : Nat) : Int).toNat false)] : List (List Bool)).length ≤ 4294967296) <|
  some (.next ((marked4 ++ ([(List.replicate ((m_.Rows.length : Nat) : Int).toNat false)] : List (List Bool))), w64 (s_1 + 1))))
 else (
  some (.done marked4))
def ref07_Marked (m_ : S_api_Machine) (k_ : Int) : Option (List (List Bool)) :=
 Option.bind (loop (fun s => ref07_Marked_L9 m_ s.1 s.2) (([] : List (List Bool)), 0)) fun t9 =>
 ref07_Marked_J1 m_ k_ t9
def ref07_Partition_J1 (out : List Int) : Option (List Int) :=
 some out
def ref07_Partition_J3 (s_ : Int) (out2 : List Int) (n_1 : Int) : Option (LR (List Int × Int × Int) (List Int)) :=
 some (.next (out2, n_1, w64 (s_ + 1)))
def ref07_Partition_J5 (out1 : List Int) (s_ : Int) (n_2 : Int) (b_1 : Int) : Option (LR (List Int × Int × Int) (List Int)) :=
 gd (out1.length + ([b_1] : List Int).length ≤ 4294967296) <|
 ref07_Partition_J3 s_ (out1 ++ ([b_1] : List Int)) n_2
def ref07_Partition_J4 (out1 : List Int) (n_ : Int) (s_ : Int) (b_ : Int) : Option (LR (List Int × Int × Int) (List Int)) :=
 bif decide (b_ < 0) then (
  ref07_Partition_J5 out1 s_ (w64 (n_ + 1)) n_)
 else (
  ref07_Partition_J5 out1 s_ n_ b_)
def ref07_Partition_J7 (t_ : Int) (b_3 : Int) : Option (LR (Int × Int) Int) :=
 some (.next (b_3, w64 (t_ + 1)))
def ref07_Partition_L6 (marked : List (List Bool)) (out1 : List Int) (s_ : Int) (b_2 : Int) (t_ : Int) : Option (LR (Int × Int) Int) :=
 bif decide (t_ < s_) then (
  Option.bind (idx marked s_) fun marked_e =>
  Option.bind (idx marked_e t_) fun marked_e_e =>
  bif !marked_e_e then (
   Option.bind (idx out1 t_) fun out_e =>
   ref07_Partition_J7 t_ out_e)
  else (
   ref07_Partition_J7 t_ b_2))
 else (
  some (.done b_2))
def ref07_Partition_L2 (marked : List (List Bool)) (out1 : List Int) (n_ : Int) (s_ : Int) : Option (LR (List Int × Int × Int) (List Int)) :=
 bif decide (s_ < ((marked.length : Nat) : Int)) then (
  Option.bind (loop (fun s => ref07_Partition_L6 marked out1 s_ s.1 s.2) ((-1), 0)) fun t6 =>
  ref07_Partition_J4 out1 n_ s_ t6)
 else (
  some (.done out1))
def ref07_Partition (marked : List (List Bool)) : Option (List Int) :=
 Option.bind (loop (fun s => ref07_Partition_L2 marked s.1 s.2.1 s.2.2) (([] : List Int), 0, 0)) fun t2 =>
 ref07_Partition_J1 t2
def ref07_Rounds (m_ : S_api_Machine) (k_ : Int) : Option (List Int) :=
 Option.bind (ref07_Marked m_ k_) fun r_ =>
 Option.bind (ref07_Partition r_) fun r_1 =>
 some r_1
def ref07_Classes (m_ : S_api_Machine) : Option (List Int) :=
 Option.bind (ref07_Rounds m_ ((m_.Rows.length : Nat) : Int)) fun r_ =>
 some r_
def ref04_Next (m_ : S_api_Machine) (s_ : Int) (i_ : Int) : Option S_api_Edge :=
 bif decide (s_ < 0) then (
  some (S_api_Edge.mk (-1) (-1)))
 else (
  Option.bind (idx m_.Rows s_) fun Row_e =>
  Option.bind (idx Row_e i_) fun Row_e_e =>
  some Row_e_e)
def ref04_After_b (rc_ : S_api_Machine → Int → (List Int) → Option Int) (m_ : S_api_Machine) (s_ : Int) (w_ : List Int) : Option Int :=
 bif ((w_.length : Nat) : Int) == 0 then (
  some s_)
 else (
  Option.bind (idx w_ 0) fun w__e =>
  Option.bind (ref04_Next m_ s_ w__e) fun r_ =>
  gd ((0 : Int) ≤ 1 ∧ (1 : Int) ≤ ((w_.length : Nat) : Int) ∧ (((w_.length : Nat) : Int) : Int) ≤ ((w_.length : Nat) : Int)) <|
  Option.bind (rc_ m_ r_.To (w_.drop (1 : Int).toNat)) fun r_1 =>
  some r_1)
def ref04_After_f (fu : Nat) : S_api_Machine → Int → (List Int) → Option Int := Nat.rec (motive := fun _ => S_api_Machine → Int → (List Int) → Option Int) (fun _ _ _ => none) (fun _ ih => ref04_After_b ih) fu
def ref04_After (m_ : S_api_Machine) (s_ : Int) (w_ : List Int) : Option Int := ref04_After_f (w_.length + 1) m_ s_ w_
def ref06_next_J1 (out : List Int) : Option (List Int) :=
 gd (out.length + ([0] : List Int).length ≤ 4294967296) <|
 some (out ++ ([0] : List Int))
def ref06_next_L2 (inputs : Int) (out1 : List Int) (k_ : Int) : Option (LR (List Int × Int) (List Int ⊕ List Int)) :=
 bif decide (k_ ≥ 0) then (
  Option.bind (idx out1 k_) fun out_e =>
  bif decide ((w64 (out_e + 1)) < inputs) then (
   Option.bind (idx out1 k_) fun out_e1 =>
   Option.bind (idx out1 k_) fun out_e2 =>
   some (.done (.inr (out1.set k_.toNat (w64 (out_e1 + 1))))))
  else (
   Option.bind (idx out1 k_) fun out_e3 =>
   some (.next ((out1.set k_.toNat 0), w64 (k_ - 1)))))
 else (
  some (.done (.inl out1)))
def ref06_next (w_ : List Int) (inputs : Int) : Option (List Int) :=
 gd (([] : List Int).length + w_.length ≤ 4294967296) <|
 Option.bind (loop (fun s => ref06_next_L2 inputs s.1 s.2) (w_, w64 (((w_.length : Nat) : Int) - 1))) fun t2 =>
 match t2 with
 | .inl p => ref06_next_J1 p
 | .inr p => some p
def ref06_Paths_J1 (l_ : List (List Int)) (is : List Bool) : Option (List (List Int) × List Bool) :=
 some (l_, is)
def ref06_Paths_J3 (m_ : S_api_Machine) (w_ : List Int) (l_2 : List (List Int)) (is2 : List Bool) : Option (LR (List (List Int) × List Bool × List Int) ((List (List Int) × List Bool))) :=
 Option.bind (ref06_next w_ m_.Inputs) fun r_ =>
 some (.next (l_2, is2, r_))
def ref06_Paths_L2 (m_ : S_api_Machine) (from_ : Int) (l_1 : List (List Int)) (is1 : List Bool) (w_ : List Int) : Option (LR (List (List Int) × List Bool × List Int) ((List (List Int) × List Bool))) :=
 bif decide (((w_.length : Nat) : Int) < ((m_.Rows.length : Nat) : Int)) then (
  Option.bind (ref04_After m_ from_ w_) fun r_1 =>
  bif decide (r_1 ≥ 0) then (
   Option.bind (idx is1 r_1) fun is_e =>
   bif !is_e then (
    Option.bind (idx is1 r_1) fun is_e1 =>
    Option.bind (idx l_1 r_1) fun l__e =>
    ref06_Paths_J3 m_ w_ (l_1.set r_1.toNat w_) (is1.set r_1.toNat true))
   else (
    ref06_Paths_J3 m_ w_ l_1 is1))
  else (
   ref06_Paths_J3 m_ w_ l_1 is1))
 else (
  some (.done (l_1, is1)))
def ref06_Paths (m_ : S_api_Machine) (from_ : Int) : Option (List (List Int) × List Bool) :=
 gd ((0 : Int) ≤ ((m_.Rows.length : Nat) : Int) ∧ (((m_.Rows.length : Nat) : Int) : Int) ≤ 4294967296) <|
 gd ((0 : Int) ≤ ((m_.Rows.length : Nat) : Int) ∧ (((m_.Rows.length : Nat) : Int) : Int) ≤ 4294967296) <|
 Option.bind (loop (fun s => ref06_Paths_L2 m_ from_ s.1 s.2.1 s.2.2) ((List.replicate ((m_.Rows.length : Nat) : Int).toNat ([] : List Int)), (List.replicate ((m_.Rows.length : Nat) : Int).toNat false), ([] : List Int))) fun t2 =>
 ref06_Paths_J1 t2.1 t2.2
def ref06_Access (m_ : S_api_Machine) : Option (List (List Int) × List Bool) :=
 Option.bind (ref06_Paths m_ 0) fun r_ =>
 some (r_.1, r_.2)
def ref06_less_J1 : Option Int :=
 some 0
def ref06_less_L2 (a_ : List Int) (b_ : List Int) (i_ : Int) : Option (LR Int (Unit ⊕ Int)) :=
 bif decide (i_ < ((a_.length : Nat) : Int)) then (
  Option.bind (idx a_ i_) fun a__e =>
  Option.bind (idx b_ i_) fun b__e =>
  bif a__e != b__e then (
   Option.bind (idx a_ i_) fun a__e1 =>
   Option.bind (idx b_ i_) fun b__e1 =>
   bif decide (a__e1 < b__e1) then (
    some (.done (.inr 1)))
   else (
    some (.done (.inr 0))))
  else (
   some (.next (w64 (i_ + 1)))))
 else (
  some (.done (.inl ())))
def ref06_less (a_ : List Int) (b_ : List Int) : Option Int :=
 bif ((a_.length : Nat) : Int) != ((b_.length : Nat) : Int) then (
  bif decide (((a_.length : Nat) : Int) < ((b_.length : Nat) : Int)) then (
   some 1)
  else (
   some 0))
 else (
  Option.bind (loop (fun s => ref06_less_L2 a_ b_ s) 0) fun t2 =>
  match t2 with
  | .inl p => ref06_less_J1
  | .inr p => some p)
def ref06_Order_J1 (out : List Int) : Option (List Int) :=
 some out
def ref06_Order_J3 (s_ : Int) (out2 : List Int) : Option (LR (List Int × Int) (List Int)) :=
 some (.next (out2, w64 (s_ + 1)))
def ref06_Order_J4 (out1 : List Int) (s_ : Int) (k_ : Int) : Option (LR (List Int × Int) (List Int)) :=
 gd ((0 : Int) ≤ 0 ∧ (0 : Int) ≤ k_ ∧ (k_ : Int) ≤ ((out1.length : Nat) : Int)) <|
 gd (([] : List Int).length + ((out1.drop 0).take (k_.toNat - 0)).length ≤ 4294967296) <|
 gd (((out1.drop 0).take (k_.toNat - 0)).length + ([s_] : List Int).length ≤ 4294967296) <|
 gd ((0 : Int) ≤ k_ ∧ (k_ : Int) ≤ ((out1.length : Nat) : Int) ∧ (((out1.length : Nat) : Int) : Int) ≤ ((out1.length : Nat) : Int)) <|
 gd ((((out1.drop 0).take (k_.toNat - 0)) ++ ([s_] : List Int)).length + (out1.drop k_.toNat).length ≤ 4294967296) <|
 ref06_Order_J3 s_ ((((out1.drop 0).take (k_.toNat - 0)) ++ ([s_] : List Int)) ++ (out1.drop k_.toNat))
def ref06_Order_L5 (r_ : List (List Int) × List Bool) (out1 : List Int) (s_ : Int) (k_1 : Int) : Option (LR Int Int) :=
 bif decide (k_1 < ((out1.length : Nat) : Int)) then (
  Option.bind (idx out1 k_1) fun out_e =>
  Option.bind (idx r_.1 out_e) fun u_1 =>
  Option.bind (idx r_.1 s_) fun u_2 =>
  Option.bind (ref06_less u_1 u_2) fun r_1 =>
  bif r_1 == 1 then (
   some (.next (w64 (k_1 + 1))))
  else (
   some (.done k_1)))
 else (
  some (.done k_1))
def ref06_Order_L2 (r_ : List (List Int) × List Bool) (out1 : List Int) (s_ : Int) : Option (LR (List Int × Int) (List Int)) :=
 bif decide (s_ < ((r_.1.length : Nat) : Int)) then (
  Option.bind (idx r_.2 s_) fun u_ =>
  bif !u_ then (
   ref06_Order_J3 s_ out1)
  else (
   Option.bind (loop (fun s => ref06_Order_L5 r_ out1 s_ s) 0) fun t5 =>
   ref06_Order_J4 out1 s_ t5))
 else (
  some (.done out1))
def ref06_Order (m_ : S_api_Machine) : Option (List Int) :=
 Option.bind (ref06_Access m_) fun r_ =>
 Option.bind (loop (fun s => ref06_Order_L2 r_ s.1 s.2) (([] : List Int), 0)) fun t2 =>
 ref06_Order_J1 t2
def ref09_Firsts_J1 (out : List Int) : Option (List Int) :=
 some out
def ref09_Firsts_J3 (k_ : Int) (out2 : List Int) : Option (LR (List Int × Int) (List Int)) :=
 some (.next (out2, w64 (k_ + 1)))
def ref09_Firsts_J4 (r_1 : List Int) (out1 : List Int) (k_ : Int) (there : Int) : Option (LR (List Int × Int) (List Int)) :=
 bif there == 0 then (
  Option.bind (idx r_1 k_) fun r__e =>
  gd (out1.length + ([r__e] : List Int).length ≤ 4294967296) <|
  ref09_Firsts_J3 k_ (out1 ++ ([r__e] : List Int)))
 else (
  ref09_Firsts_J3 k_ out1)
def ref09_Firsts_J6 (n_ : Int) (there2 : Int) : Option (LR (Int × Int) Int) :=
 some (.next (there2, w64 (n_ + 1)))
def ref09_Firsts_L5 (r_ : List Int) (r_1 : List Int) (k_ : Int) (there1 : Int) (n_ : Int) : Option (LR (Int × Int) Int) :=
 bif decide (n_ < k_) then (
  Option.bind (idx r_1 n_) fun r__e1 =>
  Option.bind (idx r_ r__e1) fun r__e2 =>
  Option.bind (idx r_1 k_) fun r__e3 =>
  Option.bind (idx r_ r__e3) fun r__e4 =>
  bif r__e2 == r__e4 then (
   ref09_Firsts_J6 n_ 1)
  else (
   ref09_Firsts_J6 n_ there1))
 else (
  some (.done there1))
def ref09_Firsts_L2 (r_ : List Int) (r_1 : List Int) (out1 : List Int) (k_ : Int) : Option (LR (List Int × Int) (List Int)) :=
 bif decide (k_ < ((r_1.length : Nat) : Int)) then (
  Option.bind (loop (fun s => ref09_Firsts_L5 r_ r_1 k_ s.1 s.2) (0, 0)) fun t5 =>
  ref09_Firsts_J4 r_1 out1 k_ t5)
 else (
  some (.done out1))
def ref09_Firsts (m_ : S_api_Machine) : Option (List Int) :=
 Option.bind (ref07_Classes m_) fun r_ =>
 Option.bind (ref06_Order m_) fun r_1 =>
 Option.bind (loop (fun s => ref09_Firsts_L2 r_ r_1 s.1 s.2) (([] : List Int), 0)) fun t2 =>
 ref09_Firsts_J1 t2
def ref04_Reached_J1 (out : List Bool) : Option (List Bool) :=
 some out
def ref04_Reached_J3 (round : Int) (out2 : List Bool) : Option (LR (List Bool × Int) (List Bool)) :=
 some (.next (out2, w64 (round + 1)))
def ref04_Reached_J5 (s_ : Int) (out4 : List Bool) : Option (LR (List Bool × Int) (List Bool)) :=
 some (.next (out4, w64 (s_ + 1)))
def ref04_Reached_J7 (i_ : Int) (out6 : List Bool) : Option (LR (List Bool × Int) (List Bool)) :=
 some (.next (out6, w64 (i_ + 1)))
def ref04_Reached_L6 (m_ : S_api_Machine) (s_ : Int) (out5 : List Bool) (i_ : Int) : Option (LR (List Bool × Int) (List Bool)) :=
 bif decide (i_ < m_.Inputs) then (
  Option.bind (idx m_.Rows s_) fun Row_e =>
  Option.bind (idx Row_e i_) fun Row_e_e =>
  Option.bind (idx out5 s_) fun out_e =>
  bif out_e then (
   bif decide (Row_e_e.To ≥ 0) then (
    Option.bind (idx out5 Row_e_e.To) fun out_e1 =>
    ref04_Reached_J7 i_ (out5.set Row_e_e.To.toNat true))
   else (
    ref04_Reached_J7 i_ out5))
  else (
   ref04_Reached_J7 i_ out5))
 else (
  some (.done out5))
def ref04_Reached_L4 (m_ : S_api_Machine) (out3 : List Bool) (s_ : Int) : Option (LR (List Bool × Int) (List Bool)) :=
 bif decide (s_ < ((m_.Rows.length : Nat) : Int)) then (
  Option.bind (loop (fun s => ref04_Reached_L6 m_ s_ s.1 s.2) (out3, 0)) fun t6 =>
  ref04_Reached_J5 s_ t6)
 else (
  some (.done out3))
def ref04_Reached_L2 (m_ : S_api_Machine) (out1 : List Bool) (round : Int) : Option (LR (List Bool × Int) (List Bool)) :=
 bif decide (round < ((m_.Rows.length : Nat) : Int)) then (
  Option.bind (loop (fun s => ref04_Reached_L4 m_ s.1 s.2) (out1, 0)) fun t4 =>
  ref04_Reached_J3 round t4)
 else (
  some (.done out1))
def ref04_Reached (m_ : S_api_Machine) (from_ : Int) : Option (List Bool) :=
 gd ((0 : Int) ≤ ((m_.Rows.length : Nat) : Int) ∧ (((m_.Rows.length : Nat) : Int) : Int) ≤ 4294967296) <|
 Option.bind (idx (List.replicate ((m_.Rows.length : Nat) : Int).toNat false) from_) fun u_e =>
 Option.bind (loop (fun s => ref04_Reached_L2 m_ s.1 s.2) (((List.replicate ((m_.Rows.length : Nat) : Int).toNat false).set from_.toNat true), 0)) fun t2 =>
 ref04_Reached_J1 t2
def ref09_Map_J1 (out : List Int) : Option (List Int) :=
 some out
def ref09_Map_J3 (s_ : Int) (out2 : List Int) : Option (LR (List Int × Int) (List Int)) :=
 some (.next (out2, w64 (s_ + 1)))
def ref09_Map_J4 (out1 : List Int) (s_ : Int) (k_ : Int) : Option (LR (List Int × Int) (List Int)) :=
 gd (out1.length + ([k_] : List Int).length ≤ 4294967296) <|
 ref09_Map_J3 s_ (out1 ++ ([k_] : List Int))
def ref09_Map_J6 (n_ : Int) (k_2 : Int) : Option (LR (Int × Int) Int) :=
 some (.next (k_2, w64 (n_ + 1)))
def ref09_Map_L5 (r_ : List Int) (r_1 : List Int) (r_2 : List Bool) (s_ : Int) (k_1 : Int) (n_ : Int) : Option (LR (Int × Int) Int) :=
 bif decide (n_ < ((r_1.length : Nat) : Int)) then (
  Option.bind (idx r_2 s_) fun r__e =>
  bif r__e then (
   Option.bind (idx r_1 n_) fun r__e1 =>
   Option.bind (idx r_ r__e1) fun r__e2 =>
   Option.bind (idx r_ s_) fun r__e3 =>
   bif r__e2 == r__e3 then (
    ref09_Map_J6 n_ n_)
   else (
    ref09_Map_J6 n_ k_1))
  else (
   ref09_Map_J6 n_ k_1))
 else (
  some (.done k_1))
def ref09_Map_L2 (r_ : List Int) (r_1 : List Int) (r_2 : List Bool) (out1 : List Int) (s_ : Int) : Option (LR (List Int × Int) (List Int)) :=
 bif decide (s_ < ((r_.length : Nat) : Int)) then (
  Option.bind (loop (fun s => ref09_Map_L5 r_ r_1 r_2 s_ s.1 s.2) ((-1), 0)) fun t5 =>
  ref09_Map_J4 out1 s_ t5)
 else (
  some (.done out1))
def ref09_Map (m_ : S_api_Machine) : Option (List Int) :=
 Option.bind (ref07_Classes m_) fun r_ =>
 Option.bind (ref09_Firsts m_) fun r_1 =>
 Option.bind (ref04_Reached m_ 0) fun r_2 =>
 Option.bind (loop (fun s => ref09_Map_L2 r_ r_1 r_2 s.1 s.2) (([] : List Int), 0)) fun t2 =>
 ref09_Map_J1 t2
def ref09_Minimal_J1 (m_ : S_api_Machine) (out_Rows : List (List S_api_Edge)) : Option S_api_Machine :=
 some (S_api_Machine.mk m_.Inputs m_.Outputs out_Rows)
def ref09_Minimal_J3 (k_ : Int) (out_Rows2 : List (List S_api_Edge)) : Option (LR (List (List S_api_Edge) × Int) (List (List S_api_Edge))) :=
 some (.next (out_Rows2, w64 (k_ + 1)))
def ref09_Minimal_J4 (out_Rows1 : List (List S_api_Edge)) (k_ : Int) (row : List S_api_Edge) : Option (LR (List (List S_api_Edge) × Int) (List (List S_api_Edge))) :=
 gd (out_Rows1.length + ([row] : List (List S_api_Edge)).length ≤ 4294967296) <|
 ref09_Minimal_J3 k_ (out_Rows1 ++ ([row] : List (List S_api_Edge)))
def ref09_Minimal_J6 (row1 : List S_api_Edge) (i_ : Int) (Row_e_e : S_api_Edge) (x_To : Int) : Option (LR (List S_api_Edge × Int) (List S_api_Edge)) :=
 gd (row1.length + ([(S_api_Edge.mk x_To Row_e_e.Out)] : List S_api_Edge).length ≤ 4294967296) <|
 some (.next ((row1 ++ ([(S_api_Edge.mk x_To Row_e_e.Out)] : List S_api_Edge)), w64 (i_ + 1)))
def ref09_Minimal_L5 (m_ : S_api_Machine) (r_ : List Int) (r_1 : List Int) (k_ : Int) (row1 : List S_api_Edge) (i_ : Int) : Option (LR (List S_api_Edge × Int) (List S_api_Edge)) :=
 bif decide (i_ < m_.Inputs) then (
  Option.bind (idx r_ k_) fun r__e =>
  Option.bind (idx m_.Rows r__e) fun Row_e =>
  Option.bind (idx Row_e i_) fun Row_e_e =>
  bif decide (Row_e_e.To ≥ 0) then (
   Option.bind (idx r_1 Row_e_e.To) fun r__e1 =>
   ref09_Minimal_J6 row1 i_ Row_e_e r__e1)
  else (
   ref09_Minimal_J6 row1 i_ Row_e_e Row_e_e.To))
 else (
  some (.done row1))
def ref09_Minimal_L2 (m_ : S_api_Machine) (r_ : List Int) (r_1 : List Int) (out_Rows1 : List (List S_api_Edge)) (k_ : Int) : Option (LR (List (List S_api_Edge) × Int) (List (List S_api_Edge))) :=
 bif decide (k_ < ((r_.length : Nat) : Int)) then (
  Option.bind (loop (fun s => ref09_Minimal_L5 m_ r_ r_1 k_ s.1 s.2) (([] : List S_api_Edge), 0)) fun t5 =>
  ref09_Minimal_J4 out_Rows1 k_ t5)
 else (
  some (.done out_Rows1))
def ref09_Minimal (m_ : S_api_Machine) : Option S_api_Machine :=
 Option.bind (ref09_Firsts m_) fun r_ =>
 Option.bind (ref09_Map m_) fun r_1 =>
 Option.bind (loop (fun s => ref09_Minimal_L2 m_ r_ r_1 s.1 s.2) (([] : List (List S_api_Edge)), 0)) fun t2 =>
 ref09_Minimal_J1 m_ t2
def ref04_Same_J1 : Option Bool :=
 some true
def ref04_Same_J3 (s_ : Int) : Option (LR Int (Unit ⊕ Bool)) :=
 some (.next (w64 (s_ + 1)))
def ref04_Same_L4 (a_ : S_api_Machine) (b_ : S_api_Machine) (s_ : Int) (i_ : Int) : Option (LR Int (Unit ⊕ Bool)) :=
 Option.bind (idx a_.Rows s_) fun Row_e2 =>
 bif decide (i_ < ((Row_e2.length : Nat) : Int)) then (
  Option.bind (idx a_.Rows s_) fun Row_e3 =>
  Option.bind (idx Row_e3 i_) fun Row_e_e =>
  Option.bind (idx b_.Rows s_) fun Row_e4 =>
  Option.bind (idx Row_e4 i_) fun Row_e_e1 =>
  bif !((Row_e_e.To == Row_e_e1.To) && ((Row_e_e.Out == Row_e_e1.Out) && true)) then (
   some (.done (.inr false)))
  else (
   some (.next (w64 (i_ + 1)))))
 else (
  some (.done (.inl ())))
def ref04_Same_L2 (a_ : S_api_Machine) (b_ : S_api_Machine) (s_ : Int) : Option (LR Int (Unit ⊕ Bool)) :=
 bif decide (s_ < ((a_.Rows.length : Nat) : Int)) then (
  Option.bind (idx a_.Rows s_) fun Row_e =>
  Option.bind (idx b_.Rows s_) fun Row_e1 =>
  bif ((Row_e.length : Nat) : Int) != ((Row_e1.length : Nat) : Int) then (
   some (.done (.inr false)))
  else (
   Option.bind (loop (fun s => ref04_Same_L4 a_ b_ s_ s) 0) fun t4 =>
   match t4 with
   | .inl p => ref04_Same_J3 s_
   | .inr p => some (.done (.inr p))))
 else (
  some (.done (.inl ())))
def ref04_Same (a_ : S_api_Machine) (b_ : S_api_Machine) : Option Bool :=
 bif a_.Inputs != b_.Inputs then (
  some false)
 else (
  bif a_.Outputs != b_.Outputs then (
   some false)
  else (
   bif ((a_.Rows.length : Nat) : Int) != ((b_.Rows.length : Nat) : Int) then (
    some false)
   else (
    Option.bind (loop (fun s => ref04_Same_L2 a_ b_ s) 0) fun t2 =>
    match t2 with
    | .inl p => ref04_Same_J1
    | .inr p => some p)))
def law10_edge (to : Int) (out : Int) : Option S_api_Edge :=
 some (S_api_Edge.mk to out)
def cmp_isNaN_int (x_ : Int) : Option Bool :=
 some (x_ != x_)
def cmp_Compare_int (x_ : Int) (y_ : Int) : Option Int :=
 Option.bind (cmp_isNaN_int x_) fun r_ =>
 Option.bind (cmp_isNaN_int y_) fun r_1 =>
 bif r_ then (
  bif r_1 then (
   some 0)
  else (
   some (-1)))
 else (
  bif r_1 then (
   some 1)
  else (
   bif decide (x_ < y_) then (
    some (-1))
   else (
    bif decide (x_ > y_) then (
     some 1)
    else (
     some 0))))
def slices_Compare_int_int_J1 (s1 : List Int) (s2 : List Int) : Option Int :=
 bif decide (((s1.length : Nat) : Int) < ((s2.length : Nat) : Int)) then (
  some (-1))
 else (
  some 0)
def slices_Compare_int_int_L2 (s1 : List Int) (s2 : List Int) (x11 : Int) : Option (LR Int (Unit ⊕ Int)) :=
 bif decide (x11 < ((s1.length : Nat) : Int)) then (
  Option.bind (idx s1 x11) fun s_e =>
  bif decide (x11 ≥ ((s2.length : Nat) : Int)) then (
   some (.done (.inr 1)))
  else (
   Option.bind (idx s2 x11) fun s_e1 =>
   Option.bind (cmp_Compare_int s_e s_e1) fun r_ =>
   bif r_ != 0 then (
    some (.done (.inr r_)))
   else (
    some (.next (w64 (x11 + 1))))))
 else (
  some (.done (.inl ())))
def slices_Compare_int_int (s1 : List Int) (s2 : List Int) : Option Int :=
 Option.bind (loop (fun s => slices_Compare_int_int_L2 s1 s2 s) 0) fun t2 =>
 match t2 with
 | .inl p => slices_Compare_int_int_J1 s1 s2
 | .inr p => some p
def equals_Relate_1 (p_ : Arr2 Int) (q_ : Arr2 Int) : Option Int :=
 Option.bind (slices_Compare_int_int ([p_.e0, p_.e1]) ([q_.e0, q_.e1])) fun r_ =>
 some r_
def slices_Clip_2_int_2_int (s_ : List (Arr2 Int)) : Option (List (Arr2 Int)) :=
 gd ((0 : Int) ≤ 0 ∧ (0 : Int) ≤ ((s_.length : Nat) : Int) ∧ (((s_.length : Nat) : Int) : Int) ≤ ((s_.length : Nat) : Int) ∧ (((s_.length : Nat) : Int) : Int) ≤ ((s_.length : Nat) : Int)) <|
 some ((s_.drop 0).take (((s_.length : Nat) : Int).toNat - 0))
def equals_Relate (a_ : S_api_Machine) (b_ : S_api_Machine) : Option (List (Arr2 Int) × Bool × Int) :=
 Option.bind (equals_both a_ b_) fun r_ =>
 bif r_ != 0 then (
  some (([] : List (Arr2 Int)), false, r_))
 else (
  Option.bind (equals_differ a_ b_) fun r_1 =>
  Option.bind (sortF (fun x y => equals_Relate_1 x y) r_1.2) fun sorted =>
  Option.bind (slices_Clip_2_int_2_int sorted) fun r_2 =>
  some (r_2, ((r_1.1.length : Nat) : Int) == 0, 0))
def equals_Within (a_ : S_api_Machine) (b_ : S_api_Machine) (k_ : Int) : Option (Bool × Int) :=
 Option.bind (equals_Differ a_ b_) fun r_ =>
 bif r_.2.2 != 0 then (
  some (false, r_.2.2))
 else (
  bif decide (k_ < 0) then (
   some (false, 1))
  else (
   bif !r_.2.1 then (
    some (true, 0))
   else (
    some (decide (((r_.1.length : Nat) : Int) > k_), 0))))
def equals_CheckRelation_J2 (is : Bool) : Option (Bool × Int) :=
 some (is, 0)
def equals_CheckRelation_J4 (x64 : Int) (is2 : Bool) : Option (LR (Bool × Int) Bool) :=
 some (.next (is2, w64 (x64 + 1)))
def equals_CheckRelation_L5 (b_ : S_api_Machine) (in_ : List ((Arr2 Int) × Bool)) (r__e : Arr2 Int) (Row_e : List S_api_Edge) (is3 : Bool) (x75 : Int) : Option (LR (Bool × Int) Bool) :=
 bif decide (x75 < ((Row_e.length : Nat) : Int)) then (
  Option.bind (idx Row_e x75) fun Row_e_e =>
  Option.bind (idx b_.Rows r__e.e1) fun Row_e1 =>
  Option.bind (idx Row_e1 x75) fun Row_e_e1 =>
  bif is3 then (
   bif Row_e_e.Out == Row_e_e1.Out then (
    bif Row_e_e.To == (-1) then (
     some (.next (true, w64 (x75 + 1))))
    else (
     Option.bind (some ((mget in_ (Arr2.mk Row_e_e.To Row_e_e1.To)).getD false)) fun val1 =>
     some (.next (val1, w64 (x75 + 1)))))
   else (
    some (.next (false, w64 (x75 + 1)))))
  else (
   some (.next (false, w64 (x75 + 1)))))
 else (
  some (.done is3))
def equals_CheckRelation_L3 (a_ : S_api_Machine) (b_ : S_api_Machine) (r_ : List (Arr2 Int)) (in_ : List ((Arr2 Int) × Bool)) (is1 : Bool) (x64 : Int) : Option (LR (Bool × Int) Bool) :=
 bif decide (x64 < ((r_.length : Nat) : Int)) then (
  Option.bind (idx r_ x64) fun r__e =>
  Option.bind (idx a_.Rows r__e.e0) fun Row_e =>
  Option.bind (loop (fun s => equals_CheckRelation_L5 b_ in_ r__e Row_e s.1 s.2) (is1, 0)) fun t5 =>
  equals_CheckRelation_J4 x64 t5)
 else (
  some (.done is1))
def equals_CheckRelation_J1 (a_ : S_api_Machine) (b_ : S_api_Machine) (r_ : List (Arr2 Int)) (in_ : List ((Arr2 Int) × Bool)) : Option (Bool × Int) :=
 Option.bind (some ((mget in_ (Arr2.mk 0 0)).getD false)) fun val =>
 Option.bind (loop (fun s => equals_CheckRelation_L3 a_ b_ r_ in_ s.1 s.2) (val, 0)) fun t3 =>
 equals_CheckRelation_J2 t3
def equals_CheckRelation_L6 (a_ : S_api_Machine) (b_ : S_api_Machine) (r_ : List (Arr2 Int)) (in_1 : List ((Arr2 Int) × Bool)) (x30 : Int) : Option (LR ((List ((Arr2 Int) × Bool)) × Int) ((List ((Arr2 Int) × Bool)) ⊕ (Bool × Int))) :=
 bif decide (x30 < ((r_.length : Nat) : Int)) then (
  Option.bind (idx r_ x30) fun r__e1 =>
  bif decide ((mn r__e1.e0 r__e1.e1) < 0) then (
   some (.done (.inr (false, 1))))
  else (
   bif decide (r__e1.e0 ≥ ((a_.Rows.length : Nat) : Int)) then (
    some (.done (.inr (false, 1))))
   else (
    bif decide (r__e1.e1 ≥ ((b_.Rows.length : Nat) : Int)) then (
     some (.done (.inr (false, 1))))
    else (
     some (.next ((mset in_1 r__e1 true), w64 (x30 + 1)))))))
 else (
  some (.done (.inl in_1)))
def equals_CheckRelation (a_ : S_api_Machine) (b_ : S_api_Machine) (r_ : List (Arr2 Int)) : Option (Bool × Int) :=
 Option.bind (equals_both a_ b_) fun r_1 =>
 bif r_1 != 0 then (
  some (false, r_1))
 else (
  bif decide (((r_.length : Nat) : Int) > 4096) then (
   some (false, 3))
  else (
   Option.bind (loop (fun s => equals_CheckRelation_L6 a_ b_ r_ s.1 s.2) (([] : List ((Arr2 Int) × Bool)), 0)) fun t6 =>
   match t6 with
   | .inl p => equals_CheckRelation_J1 a_ b_ r_ p
   | .inr p => some p))
def ref01_Compare_J1 : Option Int :=
 some 0
def ref01_Compare_L2 (a_ : List Int) (b_ : List Int) (i_ : Int) : Option (LR Int (Unit ⊕ Int)) :=
 bif decide (i_ < ((a_.length : Nat) : Int)) then (
  Option.bind (idx a_ i_) fun a__e =>
  Option.bind (idx b_ i_) fun b__e =>
  bif decide (a__e < b__e) then (
   some (.done (.inr (-1))))
  else (
   Option.bind (idx a_ i_) fun a__e1 =>
   Option.bind (idx b_ i_) fun b__e1 =>
   bif decide (a__e1 > b__e1) then (
    some (.done (.inr 1)))
   else (
    some (.next (w64 (i_ + 1))))))
 else (
  some (.done (.inl ())))
def ref01_Compare (a_ : List Int) (b_ : List Int) : Option Int :=
 bif decide (((a_.length : Nat) : Int) < ((b_.length : Nat) : Int)) then (
  some (-1))
 else (
  bif decide (((a_.length : Nat) : Int) > ((b_.length : Nat) : Int)) then (
   some 1)
  else (
   Option.bind (loop (fun s => ref01_Compare_L2 a_ b_ s) 0) fun t2 =>
   match t2 with
   | .inl p => ref01_Compare_J1
   | .inr p => some p))
def ref01_Same (a_ : List Int) (b_ : List Int) : Option Bool :=
 Option.bind (ref01_Compare a_ b_) fun r_ =>
 some (r_ == 0)
def law10_list (l_ : List Int) (e_ : Int) (want : List Int) (f_ : Int) : Option Bool :=
 bif e_ == f_ then (
  Option.bind (ref01_Same l_ want) fun r_ =>
  bif r_ then (
   some (((l_.length : Nat) : Int) == ((l_.length : Nat) : Int)))
  else (
   some false))
 else (
  some false)
def law10_pairs_J1 : Option Bool :=
 some true
def law10_pairs_L2 (a_ : List (Arr2 Int)) (b_ : List (Arr2 Int)) (k_ : Int) : Option (LR Int (Unit ⊕ Bool)) :=
 bif decide (k_ < ((a_.length : Nat) : Int)) then (
  Option.bind (idx a_ k_) fun a__e =>
  Option.bind (idx b_ k_) fun b__e =>
  bif !((a__e.e0 == b__e.e0) && ((a__e.e1 == b__e.e1) && true)) then (
   some (.done (.inr false)))
  else (
   some (.next (w64 (k_ + 1)))))
 else (
  some (.done (.inl ())))
def law10_pairs (a_ : List (Arr2 Int)) (b_ : List (Arr2 Int)) : Option Bool :=
 bif ((a_.length : Nat) : Int) != ((b_.length : Nat) : Int) then (
  some false)
 else (
  bif ((a_.length : Nat) : Int) != ((a_.length : Nat) : Int) then (
   some false)
  else (
   Option.bind (loop (fun s => law10_pairs_L2 a_ b_ s) 0) fun t2 =>
   match t2 with
   | .inl p => law10_pairs_J1
   | .inr p => some p))
def law10_lives : Option Bool :=
 Option.bind (law10_edge 1 0) fun r_ =>
 Option.bind (law10_edge 2 0) fun r_1 =>
 Option.bind (law10_edge 0 1) fun r_2 =>
 Option.bind (law10_edge 1 0) fun r_3 =>
 Option.bind (law10_edge 2 0) fun r_4 =>
 Option.bind (law10_edge 3 1) fun r_5 =>
 Option.bind (law10_edge 1 0) fun r_6 =>
 Option.bind (law10_edge 1 0) fun r_7 =>
 Option.bind (law10_edge 2 0) fun r_8 =>
 Option.bind (law10_edge 2 0) fun r_9 =>
 Option.bind (law10_edge 0 0) fun r_10 =>
 Option.bind (law10_edge 0 0) fun r_11 =>
 Option.bind (equals_Differ (S_api_Machine.mk 1 2 ([[r_], [r_1], [r_2]])) (S_api_Machine.mk 1 2 ([[r_3], [r_4], [r_5], [r_6]]))) fun r_12 =>
 Option.bind (equals_Equal (S_api_Machine.mk 1 2 ([[r_], [r_1], [r_2]])) (S_api_Machine.mk 1 2 ([[r_3], [r_4], [r_5], [r_6]]))) fun r_13 =>
 Option.bind (equals_Relate (S_api_Machine.mk 1 2 ([[r_], [r_1], [r_2]])) (S_api_Machine.mk 1 2 ([[r_3], [r_4], [r_5], [r_6]]))) fun r_14 =>
 Option.bind (equals_Differ (S_api_Machine.mk 1 2 ([[r_], [r_1], [r_2]])) (S_api_Machine.mk 1 2 ([[r_7], [r_8], [r_9]]))) fun r_15 =>
 Option.bind (equals_Within (S_api_Machine.mk 1 2 ([[r_], [r_1], [r_2]])) (S_api_Machine.mk 1 2 ([[r_7], [r_8], [r_9]])) 2) fun r_16 =>
 Option.bind (equals_Within (S_api_Machine.mk 1 2 ([[r_], [r_1], [r_2]])) (S_api_Machine.mk 1 2 ([[r_7], [r_8], [r_9]])) 3) fun r_17 =>
 Option.bind (equals_CheckRelation (S_api_Machine.mk 1 2 ([[r_], [r_1], [r_2]])) (S_api_Machine.mk 1 2 ([[r_3], [r_4], [r_5], [r_6]])) ([(Arr2.mk 0 0), (Arr2.mk 0 3), (Arr2.mk 1 1), (Arr2.mk 2 2)])) fun r_18 =>
 Option.bind (equals_CheckRelation (S_api_Machine.mk 1 2 ([[r_], [r_1], [r_2]])) (S_api_Machine.mk 1 2 ([[r_3], [r_4], [r_5], [r_6]])) ([(Arr2.mk 0 0), (Arr2.mk 1 1)])) fun r_19 =>
 Option.bind (equals_Equal (S_api_Machine.mk 1 2 ([[r_], [r_1], [r_2]])) (S_api_Machine.mk 2 1 ([[r_10, r_11]]))) fun r_20 =>
 Option.bind (equals_Within (S_api_Machine.mk 1 2 ([[r_], [r_1], [r_2]])) (S_api_Machine.mk 1 2 ([[r_3], [r_4], [r_5], [r_6]])) (-1)) fun r_21 =>
 Option.bind (equals_CheckRelation (S_api_Machine.mk 1 2 ([[r_], [r_1], [r_2]])) (S_api_Machine.mk 1 2 ([[r_3], [r_4], [r_5], [r_6]])) ([(Arr2.mk 0 4)])) fun r_22 =>
 Option.bind (law10_list r_12.1 r_12.2.2 [] 0) fun r_23 =>
 bif r_23 then (
  bif !r_12.2.1 then (
   bif r_13.1 then (
    bif r_13.2 == 0 then (
     Option.bind (law10_pairs r_14.1 ([(Arr2.mk 0 0), (Arr2.mk 0 3), (Arr2.mk 1 1), (Arr2.mk 2 2)])) fun r_24 =>
     bif r_24 then (
      bif r_14.2.1 then (
       bif r_14.2.2 == 0 then (
        Option.bind (law10_list r_15.1 r_15.2.2 ([0, 0, 0]) 0) fun r_25 =>
        bif r_25 then (
         bif r_15.2.1 then (
          bif r_16.1 then (
           bif r_16.2 == 0 then (
            bif !r_17.1 then (
             bif r_17.2 == 0 then (
              bif r_18.1 then (
               bif r_18.2 == 0 then (
                bif !r_19.1 then (
                 bif r_19.2 == 0 then (
                  bif r_20.2 == 5 then (
                   bif r_21.2 == 1 then (
                    some (r_22.2 == 1))
                   else (
                    some false))
                  else (
                   some false))
                 else (
                  some false))
                else (
                 some false))
               else (
                some false))
              else (
               some false))
             else (
              some false))
            else (
             some false))
           else (
            some false))
          else (
           some false))
         else (
          some false))
        else (
         some false))
       else (
        some false))
      else (
       some false))
     else (
      some false))
    else (
     some false))
   else (
    some false))
  else (
   some false))
 else (
  some false)
def ref04_Run_J1 (out : List Int) : Option (List Int) :=
 some out
def ref04_Run_L2 (m_ : S_api_Machine) (w_ : List Int) (s_1 : Int) (out1 : List Int) (k_ : Int) : Option (LR (Int × List Int × Int) (List Int)) :=
 bif decide (k_ < ((w_.length : Nat) : Int)) then (
  Option.bind (idx w_ k_) fun w__e =>
  Option.bind (ref04_Next m_ s_1 w__e) fun r_ =>
  gd (out1.length + ([r_.Out] : List Int).length ≤ 4294967296) <|
  some (.next (r_.To, (out1 ++ ([r_.Out] : List Int)), w64 (k_ + 1))))
 else (
  some (.done out1))
def ref04_Run (m_ : S_api_Machine) (s_ : Int) (w_ : List Int) : Option (List Int) :=
 Option.bind (loop (fun s => ref04_Run_L2 m_ w_ s.1 s.2.1 s.2.2) (s_, ([] : List Int), 0)) fun t2 =>
 ref04_Run_J1 t2
def law10_EqualsEqual (x_ : S_law10_D) (y_ : S_law01_W) : Option Bool :=
 Option.bind (law10_D_Of x_) fun r_ =>
 Option.bind (law01_W_Of y_ r_.1.Inputs) fun r_1 =>
 Option.bind (equals_Equal r_.1 r_.2) fun r_2 =>
 Option.bind (ref09_Minimal r_.1) fun r_3 =>
 Option.bind (ref09_Minimal r_.2) fun r_4 =>
 bif r_2.2 == 0 then (
  Option.bind (ref04_Same r_3 (S_api_Machine.mk r_4.Inputs r_3.Outputs r_4.Rows)) fun r_5 =>
  bif r_2.1 == r_5 then (
   bif !r_2.1 then (
    Option.bind (law10_lives) fun r_6 =>
    some r_6)
   else (
    Option.bind (ref04_Run r_.1 0 r_1) fun r_7 =>
    Option.bind (ref04_Run r_.2 0 r_1) fun r_8 =>
    Option.bind (ref01_Same r_7 r_8) fun r_9 =>
    bif r_9 then (
     Option.bind (law10_lives) fun r_10 =>
     some r_10)
    else (
     some false)))
  else (
   some false))
 else (
  some false)
abbrev F0_ := eArr2 (eI .i64)
abbrev F1_ := eSl 1 false (eI .u8)
abbrev F2_ := eSl 1 true (eI .i64)
abbrev F3_ := eSl 1 false (eI .u16)
abbrev F4_ := eOs 1 false (eI .i64)
abbrev F5_ := eSl 1 false (eI .i64)
abbrev F6_ := eSl 1 false (eSl 1 false eB)
abbrev F7_ := eSl 2 true F0_
abbrev F8_ := eSl 2 false F0_
abbrev F9_ := e_api_Edge (eI .i64) (eI .i64)
abbrev F10_ := e_law01_W F1_
abbrev F11_ := eOs 2 true F9_
abbrev F12_ := eSl 2 true F9_
abbrev F13_ := eSl 2 false F9_
abbrev F14_ := eOs 2 false F9_
abbrev F15_ := e_equals_arrival F0_ (eI .i64) (eI .i64)
abbrev F16_ := eSl 1 true F12_
abbrev F17_ := eSl 1 false F13_
abbrev F18_ := eOs 1 false F14_
abbrev F19_ := e_law04_M (eI .u8) (eI .u8) (eI .u8) eB F3_
abbrev F20_ := eSl 4 false F15_
abbrev F21_ := e_api_Machine (eI .i64) (eI .i64) F16_
abbrev F22_ := e_api_Machine (eI .i64) (eI .i64) F17_
abbrev F23_ := e_api_Machine (eI .i64) (eI .i64) F18_
abbrev F24_ := e_equals_meet (eI .i64) (eI .i64) F9_ F9_
abbrev F25_ := eSp F22_
abbrev F26_ := e_law10_D F19_ F19_ eB (eArr2 (eI .u8)) (eArr2 (eI .u8)) F9_
def rpN {α : Type _} (n : Nat) (a : α) (l : List α) : List α := Nat.rec l (fun _ r => a :: r) n
abbrev aLn (n : Nat) : H := .a (.atom (.int .i64 ((n : Nat) : Int)))
abbrev bT : H := .b true
abbrev bF : H := .b false
abbrev oT : Ob := ob (Eq.refl true)
abbrev oF : Ob := ob (Eq.refl false)
end Go.Own

namespace Go.Proofs
open Go.Shelf
def Try.so78_ren : Go.Shelf.Ren := ⟨fun | 6 => 78 | 15 => 103 | 14 => 102 | 28 => 129 | 29 => 130 | 20 => 121 | 21 => 122 | 22 => 123 | 23 => 124 | 24 => 125 | 25 => 126 | 26 => 127 | 27 => 128 | 46 => 145 | 47 => 146 | 48 => 147 | 49 => 148 | 50 => 149 | 57 => 159 | n => n, fun | 22 => 89 | 24 => 95 | 25 => 128 | 3 => 3 | 39 => 155 | 0 => 0 | 53 => 182 | 55 => 184 | 4 => 4 | 46 => 175 | 45 => 174 | 50 => 179 | 5 => 5 | 9 => 9 | 66 => 194 | 70 => 198 | 76 => 209 | 77 => 43 | n => n, fun | n => n⟩
theorem Try.so78 : Go.Proofs.SlLaysF0.n6 Try.prog Try.so78_ren := {
 mixed := by kernel_rfl
 f6 := ⟨Try.f78.name, by decide, Try.func78.trans (congrArg some (by kernel_rfl))⟩
 f14 := ⟨Try.f102.name, by decide, Try.func102.trans (congrArg some (by kernel_rfl))⟩
 f15 := Try.func103.trans (congrArg some (by kernel_rfl))
 f20 := ⟨Try.f121.name, by decide, Try.func121.trans (congrArg some (by kernel_rfl))⟩
 f21 := ⟨Try.f122.name, by decide, Try.func122.trans (congrArg some (by kernel_rfl))⟩
 f22 := ⟨Try.f123.name, by decide, Try.func123.trans (congrArg some (by kernel_rfl))⟩
 f23 := ⟨Try.f124.name, by decide, Try.func124.trans (congrArg some (by kernel_rfl))⟩
 f24 := ⟨Try.f125.name, by decide, Try.func125.trans (congrArg some (by kernel_rfl))⟩
 f25 := ⟨Try.f126.name, by decide, Try.func126.trans (congrArg some (by kernel_rfl))⟩
 f26 := ⟨Try.f127.name, by decide, Try.func127.trans (congrArg some (by kernel_rfl))⟩
 f27 := ⟨Try.f128.name, by decide, Try.func128.trans (congrArg some (by kernel_rfl))⟩
 f28 := Try.func129.trans (congrArg some (by kernel_rfl))
 f29 := Try.func130.trans (congrArg some (by kernel_rfl))
 f46 := ⟨Try.f145.name, by decide, Try.func145.trans (congrArg some (by kernel_rfl))⟩
 f47 := Try.func146.trans (congrArg some (by kernel_rfl))
 f48 := Try.func147.trans (congrArg some (by kernel_rfl))
 f49 := ⟨Try.f148.name, by decide, Try.func148.trans (congrArg some (by kernel_rfl))⟩
 f50 := ⟨Try.f149.name, by decide, Try.func149.trans (congrArg some (by kernel_rfl))⟩
 f57 := ⟨Try.f159.name, by decide, Try.func159.trans (congrArg some (by kernel_rfl))⟩
 t0 := Try.underlying0
 a0 := Try.isAgg0
 z0 := Try.sizeOf0
 v0 := Try.zeroValue0
 t3 := Try.underlying3
 a3 := Try.isAgg3
 z3 := Try.sizeOf3
 v3 := Try.zeroValue3
 t4 := Try.underlying4
 a4 := Try.isAgg4
 z4 := Try.sizeOf4
 v4 := Try.zeroValue4
 t5 := Try.underlying5
 a5 := Try.isAgg5
 z5 := Try.sizeOf5
 v5 := Try.zeroValue5
 t9 := Try.underlying9
 a9 := Try.isAgg9
 z9 := Try.sizeOf9
 v9 := Try.zeroValue9
 t22 := Try.underlying89
 a22 := Try.isAgg89
 z22 := Try.sizeOf89
 v22 := Try.zeroValue89
 t25 := Try.underlying128
 a25 := Try.isAgg128
 z25 := Try.sizeOf128
 v25 := Try.zeroValue128
 t39 := Try.underlying155
 a39 := Try.isAgg155
 z39 := Try.sizeOf155
 v39 := Try.zeroValue155
 t45 := Try.underlying174
 a45 := Try.isAgg174
 z45 := Try.sizeOf174
 v45 := Try.zeroValue174
 t46 := Try.underlying175
 a46 := Try.isAgg175
 z46 := Try.sizeOf175
 v46 := Try.zeroValue175
 t50 := Try.underlying179
 a50 := Try.isAgg179
 z50 := Try.sizeOf179
 v50 := Try.zeroValue179
 t53 := Try.underlying182
 a53 := Try.isAgg182
 z53 := Try.sizeOf182
 v53 := Try.zeroValue182
 t55 := Try.underlying184
 a55 := Try.isAgg184
 z55 := Try.sizeOf184
 v55 := Try.zeroValue184
 t66 := Try.underlying194
 a66 := Try.isAgg194
 z66 := Try.sizeOf194
 v66 := Try.zeroValue194
 t70 := Try.underlying198
 a70 := Try.isAgg198
 z70 := Try.sizeOf198
 v70 := Try.zeroValue198
 t76 := Try.underlying209
 a76 := Try.isAgg209
 z76 := Try.sizeOf209
 v76 := Try.zeroValue209
 t77 := Try.underlying43
 a77 := Try.isAgg43
 z77 := Try.sizeOf43
 v77 := Try.zeroValue43 }
end Go.Proofs
