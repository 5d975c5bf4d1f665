/- -/
import Derived.Test.YtcldlioffanjaaaDoorPartB
import Derived.Test.YtcldlioffanjaaaDoorProg
import Derived.Test.YtcldlioffanjaaaDoorChecked
import Derived.Test.YtcldlioffanjaaaDoorPartD
import Derived.LaidEql
import Derived.Stop.Asserts
import Derived.RowKitTokens
import Derived.Test.YtcldlioffanjaaaDoorPartC
import Derived.Shelf.SlSortCmp.NoneTotal
import Derived.Ground.SlsfProg
set_option linter.unusedVariables false
set_option linter.unusedSimpArgs false
namespace Go.Ex
open Go.Proofs
theorem q5 : EqP Tryd.prog 5 [.int .u8 0] false 1 := z26 (k := .int .u8) Tryd.underlying5 ⟨_, (by kernel_rfl : Tryd.prog.info? 5 = some Tryd.t5), rfl⟩ rfl
theorem q22 : EqP Tryd.prog 22 (z2A 2 [.int .u8 0]) true 2 := WQ Tryd.underlying22 q5 ⟨_, (by kernel_rfl : Tryd.prog.info? 22 = some Tryd.t22), rfl⟩
def i22 : EI := ⟨.array 2 5, 2, 2, some [.int .u8 0, .int .u8 0], true⟩
theorem z9w : KD Tryd.prog 22 i22 := ⟨⟨Tryd.t22, by kernel_rfl, rfl, rfl, fun z h => by cases h; exact ⟨_, rfl, rfl, jP rfl, rfl, ⟨_, rfl⟩⟩⟩, Tryd.underlying22, fun _ => uw q22 rfl rfl (Nat.le_of_ble_eq_true (by kernel_rfl)) (by decide)⟩
theorem q48 : EqP Tryd.prog 48 (z2A 5 [.int .u8 0]) true 2 := WQ Tryd.underlying48 q5 ⟨_, (by kernel_rfl : Tryd.prog.info? 48 = some Tryd.t48), rfl⟩
def i48 : EI := ⟨.array 5 5, 5, 5, some [.int .u8 0, .int .u8 0, .int .u8 0, .int .u8 0, .int .u8 0], true⟩
theorem z9v : KD Tryd.prog 48 i48 := ⟨⟨Tryd.t48, by kernel_rfl, rfl, rfl, fun z h => by cases h; exact ⟨_, rfl, rfl, jP rfl, rfl, ⟨_, rfl⟩⟩⟩, Tryd.underlying48, fun _ => uw q48 rfl rfl (Nat.le_of_ble_eq_true (by kernel_rfl)) (by decide)⟩
theorem q3 : EqP Tryd.prog 3 [.int .i64 0] false 1 := z26 (k := .int .i64) Tryd.underlying3 ⟨_, (by kernel_rfl : Tryd.prog.info? 3 = some Tryd.t3), rfl⟩ rfl
theorem q49 : EqP Tryd.prog 49 (jN [([.int .i64 0], false), ([.int .u8 0], false), ([.int .i64 0], false), ([.int .i64 0], false), ([.int .i64 0], false)]) true 2 := wr Tryd.underlying49 (by kernel_rfl) ⟨_, (by kernel_rfl : Tryd.prog.info? 49 = some Tryd.t49), rfl⟩ (by decide) (zC.cons (by decide) rfl (q3.mono (by decide)) (zC.cons (by decide) rfl (q5.mono (by decide)) (zC.cons (by decide) rfl (q3.mono (by decide)) (zC.cons (by decide) rfl (q3.mono (by decide)) (zC.cons (by decide) rfl (q3.mono (by decide)) (zC.nil))))))
def i49 : EI := ⟨.struct [(0, 3), (1, 5), (2, 3), (3, 3), (4, 3)], 5, 40, some [.int .i64 0, .int .u8 0, .int .i64 0, .int .i64 0, .int .i64 0], true⟩
theorem zdT : KD Tryd.prog 49 i49 := ⟨⟨Tryd.t49, by kernel_rfl, rfl, rfl, fun z h => by cases h; exact ⟨_, rfl, rfl, jP rfl, rfl, ⟨_, rfl⟩⟩⟩, ⟨_, Tryd.underlying49, by kernel_rfl, by
  intro f hf
  simp only [List.mem_cons, List.not_mem_nil, or_false] at hf
  rcases hf with rfl | rfl | rfl | rfl | rfl
  ·exact ⟨Tryd.t3, by kernel_rfl⟩
  ·exact ⟨Tryd.t5, by kernel_rfl⟩
  ·exact ⟨Tryd.t3, by kernel_rfl⟩
  ·exact ⟨Tryd.t3, by kernel_rfl⟩
  ·exact ⟨Tryd.t3, by kernel_rfl⟩⟩, fun _ => uw q49 rfl rfl (Nat.le_of_ble_eq_true (by kernel_rfl)) (by decide)⟩
theorem q50 : EqP Tryd.prog 50 (jN [([.int .i64 0], false), ([.int .u8 0], false), ([.int .i64 0], false), ([.int .i64 0], false), ([.int .i64 0], false)]) true 2 := wr Tryd.underlying50 (by kernel_rfl) ⟨_, (by kernel_rfl : Tryd.prog.info? 50 = some Tryd.t50), rfl⟩ (by decide) (zC.cons (by decide) rfl (q3.mono (by decide)) (zC.cons (by decide) rfl (q5.mono (by decide)) (zC.cons (by decide) rfl (q3.mono (by decide)) (zC.cons (by decide) rfl (q3.mono (by decide)) (zC.cons (by decide) rfl (q3.mono (by decide)) (zC.nil))))))
def i50 : EI := ⟨.struct [(0, 3), (1, 5), (2, 3), (3, 3), (4, 3)], 5, 40, some [.int .i64 0, .int .u8 0, .int .i64 0, .int .i64 0, .int .i64 0], true⟩
theorem z9u : KD Tryd.prog 50 i50 := ⟨⟨Tryd.t50, by kernel_rfl, rfl, rfl, fun z h => by cases h; exact ⟨_, rfl, rfl, jP rfl, rfl, ⟨_, rfl⟩⟩⟩, ⟨_, Tryd.underlying50, by kernel_rfl, by
  intro f hf
  simp only [List.mem_cons, List.not_mem_nil, or_false] at hf
  rcases hf with rfl | rfl | rfl | rfl | rfl
  ·exact ⟨Tryd.t3, by kernel_rfl⟩
  ·exact ⟨Tryd.t5, by kernel_rfl⟩
  ·exact ⟨Tryd.t3, by kernel_rfl⟩
  ·exact ⟨Tryd.t3, by kernel_rfl⟩
  ·exact ⟨Tryd.t3, by kernel_rfl⟩⟩, fun _ => uw q50 rfl rfl (Nat.le_of_ble_eq_true (by kernel_rfl)) (by decide)⟩
theorem q59 : EqP Tryd.prog 59 (jN [([.int .i64 0], false), ([.int .i64 0], false), ([.int .i64 0], false), ([.int .i64 0], false)]) true 2 := wr Tryd.underlying59 (by kernel_rfl) ⟨_, (by kernel_rfl : Tryd.prog.info? 59 = some Tryd.t59), rfl⟩ (by decide) (zC.cons (by decide) rfl (q3.mono (by decide)) (zC.cons (by decide) rfl (q3.mono (by decide)) (zC.cons (by decide) rfl (q3.mono (by decide)) (zC.cons (by decide) rfl (q3.mono (by decide)) (zC.nil)))))
def i59 : EI := ⟨.struct [(0, 3), (1, 3), (2, 3), (3, 3)], 4, 32, some [.int .i64 0, .int .i64 0, .int .i64 0, .int .i64 0], true⟩
theorem zdS : KD Tryd.prog 59 i59 := ⟨⟨Tryd.t59, by kernel_rfl, rfl, rfl, fun z h => by cases h; exact ⟨_, rfl, rfl, jP rfl, rfl, ⟨_, rfl⟩⟩⟩, ⟨_, Tryd.underlying59, by kernel_rfl, by
  intro f hf
  simp only [List.mem_cons, List.not_mem_nil, or_false] at hf
  rcases hf with rfl | rfl | rfl | rfl
  ·exact ⟨Tryd.t3, by kernel_rfl⟩
  ·exact ⟨Tryd.t3, by kernel_rfl⟩
  ·exact ⟨Tryd.t3, by kernel_rfl⟩
  ·exact ⟨Tryd.t3, by kernel_rfl⟩⟩, fun _ => uw q59 rfl rfl (Nat.le_of_ble_eq_true (by kernel_rfl)) (by decide)⟩
theorem q60 : EqP Tryd.prog 60 (jN [([.int .i64 0], false), ([.int .i64 0], false), ([.int .i64 0], false), ([.int .i64 0], false)]) true 2 := wr Tryd.underlying60 (by kernel_rfl) ⟨_, (by kernel_rfl : Tryd.prog.info? 60 = some Tryd.t60), rfl⟩ (by decide) (zC.cons (by decide) rfl (q3.mono (by decide)) (zC.cons (by decide) rfl (q3.mono (by decide)) (zC.cons (by decide) rfl (q3.mono (by decide)) (zC.cons (by decide) rfl (q3.mono (by decide)) (zC.nil)))))
def i60 : EI := ⟨.struct [(0, 3), (1, 3), (2, 3), (3, 3)], 4, 32, some [.int .i64 0, .int .i64 0, .int .i64 0, .int .i64 0], true⟩
theorem z9t : KD Tryd.prog 60 i60 := ⟨⟨Tryd.t60, by kernel_rfl, rfl, rfl, fun z h => by cases h; exact ⟨_, rfl, rfl, jP rfl, rfl, ⟨_, rfl⟩⟩⟩, ⟨_, Tryd.underlying60, by kernel_rfl, by
  intro f hf
  simp only [List.mem_cons, List.not_mem_nil, or_false] at hf
  rcases hf with rfl | rfl | rfl | rfl
  ·exact ⟨Tryd.t3, by kernel_rfl⟩
  ·exact ⟨Tryd.t3, by kernel_rfl⟩
  ·exact ⟨Tryd.t3, by kernel_rfl⟩
  ·exact ⟨Tryd.t3, by kernel_rfl⟩⟩, fun _ => uw q60 rfl rfl (Nat.le_of_ble_eq_true (by kernel_rfl)) (by decide)⟩
theorem q63 : EqP Tryd.prog 63 (jN [([.int .i64 0, .int .i64 0, .int .i64 0, .int .i64 0], true), ([.int .i64 0], false)]) true 3 := wr Tryd.underlying63 (by kernel_rfl) ⟨_, (by kernel_rfl : Tryd.prog.info? 63 = some Tryd.t63), rfl⟩ (by decide) (zC.cons (by decide) rfl (q60.mono (by decide)) (zC.cons (by decide) rfl (q3.mono (by decide)) (zC.nil)))
def i63 : EI := ⟨.struct [(0, 60), (4, 3)], 5, 40, some [.int .i64 0, .int .i64 0, .int .i64 0, .int .i64 0, .int .i64 0], true⟩
theorem z9s : KD Tryd.prog 63 i63 := ⟨⟨Tryd.t63, by kernel_rfl, rfl, rfl, fun z h => by cases h; exact ⟨_, rfl, rfl, jP rfl, rfl, ⟨_, rfl⟩⟩⟩, ⟨_, Tryd.underlying63, by kernel_rfl, by
  intro f hf
  simp only [List.mem_cons, List.not_mem_nil, or_false] at hf
  rcases hf with rfl | rfl
  ·exact ⟨Tryd.t60, by kernel_rfl⟩
  ·exact ⟨Tryd.t3, by kernel_rfl⟩⟩, fun _ => uw q63 rfl rfl (Nat.le_of_ble_eq_true (by kernel_rfl)) (by decide)⟩
theorem q64 : EqP Tryd.prog 64 (jN [([.int .i64 0, .int .i64 0, .int .i64 0, .int .i64 0], true), ([.int .i64 0], false)]) true 3 := wr Tryd.underlying64 (by kernel_rfl) ⟨_, (by kernel_rfl : Tryd.prog.info? 64 = some Tryd.t64), rfl⟩ (by decide) (zC.cons (by decide) rfl (q60.mono (by decide)) (zC.cons (by decide) rfl (q3.mono (by decide)) (zC.nil)))
def i64 : EI := ⟨.struct [(0, 60), (4, 3)], 5, 40, some [.int .i64 0, .int .i64 0, .int .i64 0, .int .i64 0, .int .i64 0], true⟩
theorem z9r : KD Tryd.prog 64 i64 := ⟨⟨Tryd.t64, by kernel_rfl, rfl, rfl, fun z h => by cases h; exact ⟨_, rfl, rfl, jP rfl, rfl, ⟨_, rfl⟩⟩⟩, ⟨_, Tryd.underlying64, by kernel_rfl, by
  intro f hf
  simp only [List.mem_cons, List.not_mem_nil, or_false] at hf
  rcases hf with rfl | rfl
  ·exact ⟨Tryd.t60, by kernel_rfl⟩
  ·exact ⟨Tryd.t3, by kernel_rfl⟩⟩, fun _ => uw q64 rfl rfl (Nat.le_of_ble_eq_true (by kernel_rfl)) (by decide)⟩
theorem q73 : EqP Tryd.prog 73 (jN [([.int .u8 0], false), ([.int .i64 0], false), ([.int .i64 0], false)]) true 2 := wr Tryd.underlying73 (by kernel_rfl) ⟨_, (by kernel_rfl : Tryd.prog.info? 73 = some Tryd.t73), rfl⟩ (by decide) (zC.cons (by decide) rfl (q5.mono (by decide)) (zC.cons (by decide) rfl (q3.mono (by decide)) (zC.cons (by decide) rfl (q3.mono (by decide)) (zC.nil))))
def i73 : EI := ⟨.struct [(0, 5), (1, 3), (2, 3)], 3, 24, some [.int .u8 0, .int .i64 0, .int .i64 0], true⟩
theorem zdR : KD Tryd.prog 73 i73 := ⟨⟨Tryd.t73, by kernel_rfl, rfl, rfl, fun z h => by cases h; exact ⟨_, rfl, rfl, jP rfl, rfl, ⟨_, rfl⟩⟩⟩, ⟨_, Tryd.underlying73, by kernel_rfl, by
  intro f hf
  simp only [List.mem_cons, List.not_mem_nil, or_false] at hf
  rcases hf with rfl | rfl | rfl
  ·exact ⟨Tryd.t5, by kernel_rfl⟩
  ·exact ⟨Tryd.t3, by kernel_rfl⟩
  ·exact ⟨Tryd.t3, by kernel_rfl⟩⟩, fun _ => uw q73 rfl rfl (Nat.le_of_ble_eq_true (by kernel_rfl)) (by decide)⟩
theorem q74 : EqP Tryd.prog 74 (jN [([.int .u8 0], false), ([.int .i64 0], false), ([.int .i64 0], false)]) true 2 := wr Tryd.underlying74 (by kernel_rfl) ⟨_, (by kernel_rfl : Tryd.prog.info? 74 = some Tryd.t74), rfl⟩ (by decide) (zC.cons (by decide) rfl (q5.mono (by decide)) (zC.cons (by decide) rfl (q3.mono (by decide)) (zC.cons (by decide) rfl (q3.mono (by decide)) (zC.nil))))
def i74 : EI := ⟨.struct [(0, 5), (1, 3), (2, 3)], 3, 24, some [.int .u8 0, .int .i64 0, .int .i64 0], true⟩
theorem z9q : KD Tryd.prog 74 i74 := ⟨⟨Tryd.t74, by kernel_rfl, rfl, rfl, fun z h => by cases h; exact ⟨_, rfl, rfl, jP rfl, rfl, ⟨_, rfl⟩⟩⟩, ⟨_, Tryd.underlying74, by kernel_rfl, by
  intro f hf
  simp only [List.mem_cons, List.not_mem_nil, or_false] at hf
  rcases hf with rfl | rfl | rfl
  ·exact ⟨Tryd.t5, by kernel_rfl⟩
  ·exact ⟨Tryd.t3, by kernel_rfl⟩
  ·exact ⟨Tryd.t3, by kernel_rfl⟩⟩, fun _ => uw q74 rfl rfl (Nat.le_of_ble_eq_true (by kernel_rfl)) (by decide)⟩
theorem q85 : EqP Tryd.prog 85 (z2A 4 [.int .i64 0]) true 2 := WQ Tryd.underlying85 q3 ⟨_, (by kernel_rfl : Tryd.prog.info? 85 = some Tryd.t85), rfl⟩
def i85 : EI := ⟨.array 4 3, 4, 32, some [.int .i64 0, .int .i64 0, .int .i64 0, .int .i64 0], true⟩
theorem z9p : KD Tryd.prog 85 i85 := ⟨⟨Tryd.t85, by kernel_rfl, rfl, rfl, fun z h => by cases h; exact ⟨_, rfl, rfl, jP rfl, rfl, ⟨_, rfl⟩⟩⟩, Tryd.underlying85, fun _ => uw q85 rfl rfl (Nat.le_of_ble_eq_true (by kernel_rfl)) (by decide)⟩
theorem q86 : EqP Tryd.prog 86 (jN [([.int .i64 0], false), ([.int .i64 0, .int .i64 0, .int .i64 0, .int .i64 0], true)]) true 3 := wr Tryd.underlying86 (by kernel_rfl) ⟨_, (by kernel_rfl : Tryd.prog.info? 86 = some Tryd.t86), rfl⟩ (by decide) (zC.cons (by decide) rfl (q3.mono (by decide)) (zC.cons (by decide) rfl (q85.mono (by decide)) (zC.nil)))
def i86 : EI := ⟨.struct [(0, 3), (1, 85)], 5, 40, some [.int .i64 0, .int .i64 0, .int .i64 0, .int .i64 0, .int .i64 0], true⟩
theorem zdQ : KD Tryd.prog 86 i86 := ⟨⟨Tryd.t86, by kernel_rfl, rfl, rfl, fun z h => by cases h; exact ⟨_, rfl, rfl, jP rfl, rfl, ⟨_, rfl⟩⟩⟩, ⟨_, Tryd.underlying86, by kernel_rfl, by
  intro f hf
  simp only [List.mem_cons, List.not_mem_nil, or_false] at hf
  rcases hf with rfl | rfl
  ·exact ⟨Tryd.t3, by kernel_rfl⟩
  ·exact ⟨Tryd.t85, by kernel_rfl⟩⟩, fun _ => uw q86 rfl rfl (Nat.le_of_ble_eq_true (by kernel_rfl)) (by decide)⟩
theorem q87 : EqP Tryd.prog 87 (jN [([.int .i64 0], false), ([.int .i64 0, .int .i64 0, .int .i64 0, .int .i64 0], true)]) true 3 := wr Tryd.underlying87 (by kernel_rfl) ⟨_, (by kernel_rfl : Tryd.prog.info? 87 = some Tryd.t87), rfl⟩ (by decide) (zC.cons (by decide) rfl (q3.mono (by decide)) (zC.cons (by decide) rfl (q85.mono (by decide)) (zC.nil)))
def i87 : EI := ⟨.struct [(0, 3), (1, 85)], 5, 40, some [.int .i64 0, .int .i64 0, .int .i64 0, .int .i64 0, .int .i64 0], true⟩
theorem z9o : KD Tryd.prog 87 i87 := ⟨⟨Tryd.t87, by kernel_rfl, rfl, rfl, fun z h => by cases h; exact ⟨_, rfl, rfl, jP rfl, rfl, ⟨_, rfl⟩⟩⟩, ⟨_, Tryd.underlying87, by kernel_rfl, by
  intro f hf
  simp only [List.mem_cons, List.not_mem_nil, or_false] at hf
  rcases hf with rfl | rfl
  ·exact ⟨Tryd.t3, by kernel_rfl⟩
  ·exact ⟨Tryd.t85, by kernel_rfl⟩⟩, fun _ => uw q87 rfl rfl (Nat.le_of_ble_eq_true (by kernel_rfl)) (by decide)⟩
theorem q88 : EqP Tryd.prog 88 (z2A 4 [.int .i64 0, .int .i64 0, .int .i64 0, .int .i64 0, .int .i64 0]) true 4 := WQ Tryd.underlying88 q87 ⟨_, (by kernel_rfl : Tryd.prog.info? 88 = some Tryd.t88), rfl⟩
def i88 : EI := ⟨.array 4 87, 20, 160, some [.int .i64 0, .int .i64 0, .int .i64 0, .int .i64 0, .int .i64 0, .int .i64 0, .int .i64 0, .int .i64 0, .int .i64 0, .int .i64 0, .int .i64 0, .int .i64 0, .int .i64 0, .int .i64 0, .int .i64 0, .int .i64 0, .int .i64 0, .int .i64 0, .int .i64 0, .int .i64 0], true⟩
theorem z9n : KD Tryd.prog 88 i88 := ⟨⟨Tryd.t88, by kernel_rfl, rfl, rfl, fun z h => by cases h; exact ⟨_, rfl, rfl, jP rfl, rfl, ⟨_, rfl⟩⟩⟩, Tryd.underlying88, fun _ => uw q88 rfl rfl (Nat.le_of_ble_eq_true (by kernel_rfl)) (by decide)⟩
theorem q89 : EqP Tryd.prog 89 (jN [([.int .i64 0, .int .i64 0, .int .i64 0, .int .i64 0], true), ([.int .i64 0, .int .i64 0, .int .i64 0, .int .i64 0, .int .i64 0, .int .i64 0, .int .i64 0, .int .i64 0, .int .i64 0, .int .i64 0, .int .i64 0, .int .i64 0, .int .i64 0, .int .i64 0, .int .i64 0, .int .i64 0, .int .i64 0, .int .i64 0, .int .i64 0, .int .i64 0], true)]) true 5 := wr Tryd.underlying89 (by kernel_rfl) ⟨_, (by kernel_rfl : Tryd.prog.info? 89 = some Tryd.t89), rfl⟩ (by decide) (zC.cons (by decide) rfl (q85.mono (by decide)) (zC.cons (by decide) rfl (q88.mono (by decide)) (zC.nil)))
def i89 : EI := ⟨.struct [(0, 85), (4, 88)], 24, 192, some [.int .i64 0, .int .i64 0, .int .i64 0, .int .i64 0, .int .i64 0, .int .i64 0, .int .i64 0, .int .i64 0, .int .i64 0, .int .i64 0, .int .i64 0, .int .i64 0, .int .i64 0, .int .i64 0, .int .i64 0, .int .i64 0, .int .i64 0, .int .i64 0, .int .i64 0, .int .i64 0, .int .i64 0, .int .i64 0, .int .i64 0, .int .i64 0], true⟩
theorem zdP : KD Tryd.prog 89 i89 := ⟨⟨Tryd.t89, by kernel_rfl, rfl, rfl, fun z h => by cases h; exact ⟨_, rfl, rfl, jP rfl, rfl, ⟨_, rfl⟩⟩⟩, ⟨_, Tryd.underlying89, by kernel_rfl, by
  intro f hf
  simp only [List.mem_cons, List.not_mem_nil, or_false] at hf
  rcases hf with rfl | rfl
  ·exact ⟨Tryd.t85, by kernel_rfl⟩
  ·exact ⟨Tryd.t88, by kernel_rfl⟩⟩, fun _ => uw q89 rfl rfl (Nat.le_of_ble_eq_true (by kernel_rfl)) (by decide)⟩
theorem q90 : EqP Tryd.prog 90 (jN [([.int .i64 0, .int .i64 0, .int .i64 0, .int .i64 0], true), ([.int .i64 0, .int .i64 0, .int .i64 0, .int .i64 0, .int .i64 0, .int .i64 0, .int .i64 0, .int .i64 0, .int .i64 0, .int .i64 0, .int .i64 0, .int .i64 0, .int .i64 0, .int .i64 0, .int .i64 0, .int .i64 0, .int .i64 0, .int .i64 0, .int .i64 0, .int .i64 0], true)]) true 5 := wr Tryd.underlying90 (by kernel_rfl) ⟨_, (by kernel_rfl : Tryd.prog.info? 90 = some Tryd.t90), rfl⟩ (by decide) (zC.cons (by decide) rfl (q85.mono (by decide)) (zC.cons (by decide) rfl (q88.mono (by decide)) (zC.nil)))
def i90 : EI := ⟨.struct [(0, 85), (4, 88)], 24, 192, some [.int .i64 0, .int .i64 0, .int .i64 0, .int .i64 0, .int .i64 0, .int .i64 0, .int .i64 0, .int .i64 0, .int .i64 0, .int .i64 0, .int .i64 0, .int .i64 0, .int .i64 0, .int .i64 0, .int .i64 0, .int .i64 0, .int .i64 0, .int .i64 0, .int .i64 0, .int .i64 0, .int .i64 0, .int .i64 0, .int .i64 0, .int .i64 0], true⟩
theorem z6o : KD Tryd.prog 90 i90 := ⟨⟨Tryd.t90, by kernel_rfl, rfl, rfl, fun z h => by cases h; exact ⟨_, rfl, rfl, jP rfl, rfl, ⟨_, rfl⟩⟩⟩, ⟨_, Tryd.underlying90, by kernel_rfl, by
  intro f hf
  simp only [List.mem_cons, List.not_mem_nil, or_false] at hf
  rcases hf with rfl | rfl
  ·exact ⟨Tryd.t85, by kernel_rfl⟩
  ·exact ⟨Tryd.t88, by kernel_rfl⟩⟩, fun _ => uw q90 rfl rfl (Nat.le_of_ble_eq_true (by kernel_rfl)) (by decide)⟩
theorem zeB : EqP Tryd.prog 106 (jN [([.int .i64 0], false), ([.int .i64 0, .int .i64 0, .int .i64 0, .int .i64 0], true)]) true 3 := wr Tryd.underlying106 (by kernel_rfl) ⟨_, (by kernel_rfl : Tryd.prog.info? 106 = some Tryd.t106), rfl⟩ (by decide) (zC.cons (by decide) rfl (q3.mono (by decide)) (zC.cons (by decide) rfl (q60.mono (by decide)) (zC.nil)))
def zeG : EI := ⟨.struct [(0, 3), (1, 60)], 5, 40, some [.int .i64 0, .int .i64 0, .int .i64 0, .int .i64 0, .int .i64 0], true⟩
theorem zbL : KD Tryd.prog 106 zeG := ⟨⟨Tryd.t106, by kernel_rfl, rfl, rfl, fun z h => by cases h; exact ⟨_, rfl, rfl, jP rfl, rfl, ⟨_, rfl⟩⟩⟩, ⟨_, Tryd.underlying106, by kernel_rfl, by
  intro f hf
  simp only [List.mem_cons, List.not_mem_nil, or_false] at hf
  rcases hf with rfl | rfl
  ·exact ⟨Tryd.t3, by kernel_rfl⟩
  ·exact ⟨Tryd.t60, by kernel_rfl⟩⟩, fun _ => uw zeB rfl rfl (Nat.le_of_ble_eq_true (by kernel_rfl)) (by decide)⟩
theorem zeA : EqP Tryd.prog 107 (jN [([.int .i64 0], false), ([.int .i64 0, .int .i64 0, .int .i64 0, .int .i64 0], true)]) true 3 := wr Tryd.underlying107 (by kernel_rfl) ⟨_, (by kernel_rfl : Tryd.prog.info? 107 = some Tryd.t107), rfl⟩ (by decide) (zC.cons (by decide) rfl (q3.mono (by decide)) (zC.cons (by decide) rfl (q60.mono (by decide)) (zC.nil)))
def zeF : EI := ⟨.struct [(0, 3), (1, 60)], 5, 40, some [.int .i64 0, .int .i64 0, .int .i64 0, .int .i64 0, .int .i64 0], true⟩
theorem z7Z : KD Tryd.prog 107 zeF := ⟨⟨Tryd.t107, by kernel_rfl, rfl, rfl, fun z h => by cases h; exact ⟨_, rfl, rfl, jP rfl, rfl, ⟨_, rfl⟩⟩⟩, ⟨_, Tryd.underlying107, by kernel_rfl, by
  intro f hf
  simp only [List.mem_cons, List.not_mem_nil, or_false] at hf
  rcases hf with rfl | rfl
  ·exact ⟨Tryd.t3, by kernel_rfl⟩
  ·exact ⟨Tryd.t60, by kernel_rfl⟩⟩, fun _ => uw zeA rfl rfl (Nat.le_of_ble_eq_true (by kernel_rfl)) (by decide)⟩
end Go.Ex

namespace Go.Own
open Go.Proofs
def zbG : Value → Bool
 | .int _ _ => true
 | _ => false
theorem z0D : ∀ {z vs us : List Value} {r : Bool}, z.all zbG = true → z.length = vs.length → xw vs us = some r → Go.Ex.KB z vs = true ∧ Go.Ex.xw vs us = some r
 | [], [], us, r, _, _, h => by
  cases us with
  | nil => simp only [xw, Option.some.injEq] at h; subst h; exact ⟨rfl, rfl⟩
  | cons u us => simp [xw] at h
 | a :: z, v :: vs, us, r, hz, hl, h => by
  have q : ∃ k x u' k' y, v = .int k x ∧ us = .int k' y :: u' ∧ k = k' := by
   cases us with
   | nil => cases v <;> simp [xw] at h
   | cons u us =>
    cases v <;> cases u <;> simp [xw] at h
    exact ⟨_, _, _, _, _, rfl, rfl, h.1⟩
  obtain ⟨k, x, u', k', y, rfl, rfl, hk⟩ := q
  simp only [xw, hk, if_true, Option.map_eq_some_iff] at h
  obtain ⟨r', e1, rfl⟩ := h
  simp only [List.all_cons, Bool.and_eq_true] at hz
  obtain ⟨q1, q2⟩ := z0D hz.2 (by simpa using hl) e1
  refine ⟨?_, by simp [Go.Ex.xw, hk, q2]⟩
  cases a <;> first | (simp [zbG] at hz; done) | simpa [Go.Ex.KB] using q1
 | [], _ :: _, _, _, _, hl, _ => by simp at hl
 | _ :: _, [], _, _, _, hl, _ => by simp at hl
theorem kz {P : Program} {t n : Nat} {i : Go.Ex.EI} (h : Go.Ex.z6z P t i) {z : List Value} (hz : i.zero = some z) (hi : z.all zbG = true) (hs : i.size = n) (hn : z.length = n) : z6z P t n := {
 guard := h.guard
 run := fun vs us r w hv hu he => by
  obtain ⟨q1, q2⟩ := z0D hi (by rw [hn, hv]) he
  exact h.run vs us r w (by rw [hs]; exact hv) (by rw [hs]; exact hu) (by simpa only [Go.Ex.zbN, hz] using q1) q2 }
theorem zl {S : zr} {h : Array Obj} {v : Value} (hv : v.oneCell' = true) : zP S h (.atom v) [v] [] := by simp only [zP, Rep]; exact ⟨⟨trivial, hv⟩, trivial⟩
theorem x6 {S : zr} {h : Array Obj} (sz : Nat) : zP S h (.osl sz true []) [.slice none 0 0] [] := by
 simp only [zP]
 exact ⟨none, 0, rfl, (fun _ => rfl), Nat.le_refl _, Nat.zero_le _, by simp, .inl ⟨trivial, rfl, rfl, trivial⟩⟩
theorem zV {S : zr} {h : Array Obj} {fs : List A} {cs : List Value} (q : zU S h fs cs []) : zP S h (.agg fs) cs [] := by simpa only [zP] using q
theorem zG {S : zr} {h : Array Obj} : zU S h [] [] [] := by simp [zU]
theorem zj {S : zr} {h : Array Obj} {a : A} {fs : List A} {c1 c2 : List Value} (q1 : zP S h a c1 []) (q2 : zU S h fs c2 []) : zU S h (a :: fs) (c1 ++ c2) [] := by simp only [zU]; exact ⟨c1, c2, [], [], rfl, rfl, q1, q2⟩
def ti1 : TI := ⟨.other, 1, 8, some (.atom .nilFunc), false⟩
theorem z8H : jK Tryd.prog 1 ti1 := ⟨⟨Tryd.t1, by kernel_rfl, rfl, rfl, fun z h => by cases h; exact ⟨_, rfl, rfl, fun S h => zl rfl⟩⟩, ⟨_, Tryd.underlying1, rfl⟩, by intro h; cases h⟩
def ti2 : TI := ⟨.int .i64, 1, 8, some (.atom (.int .i64 0)), false⟩
theorem z8G : jK Tryd.prog 2 ti2 := ⟨⟨Tryd.t2, by kernel_rfl, rfl, rfl, fun z h => by cases h; exact ⟨_, rfl, rfl, fun S h => zl rfl⟩⟩, Tryd.underlying2, by intro h; cases h⟩
def ti3 : TI := ⟨.int .i64, 1, 8, some (.atom (.int .i64 0)), false⟩
theorem z8F : jK Tryd.prog 3 ti3 := ⟨⟨Tryd.t3, by kernel_rfl, rfl, rfl, fun z h => by cases h; exact ⟨_, rfl, rfl, fun S h => zl rfl⟩⟩, Tryd.underlying3, by intro h; cases h⟩
def ti4 : TI := ⟨.bool, 1, 1, some (.atom (.bool false)), false⟩
theorem z8E : jK Tryd.prog 4 ti4 := ⟨⟨Tryd.t4, by kernel_rfl, rfl, rfl, fun z h => by cases h; exact ⟨_, rfl, rfl, fun S h => zl rfl⟩⟩, Tryd.underlying4, by intro h; cases h⟩
def ti5 : TI := ⟨.int .u8, 1, 1, some (.atom (.int .u8 0)), false⟩
theorem z8D : jK Tryd.prog 5 ti5 := ⟨⟨Tryd.t5, by kernel_rfl, rfl, rfl, fun z h => by cases h; exact ⟨_, rfl, rfl, fun S h => zl rfl⟩⟩, Tryd.underlying5, by intro h; cases h⟩
def zdt : TI := ⟨.array 2 5, 2, 2, some (.agg [.atom (.int .u8 0), .atom (.int .u8 0)]), true⟩
theorem z7e : jK Tryd.prog 22 zdt := ⟨⟨Tryd.t22, by kernel_rfl, rfl, rfl, fun z h => by cases h; exact ⟨_, rfl, rfl, fun S h => zV (zj (zl rfl) (zj (zl rfl) (zG)))⟩⟩, Tryd.underlying22, fun _ => kz (Go.Ex.z9w.eqn rfl) rfl rfl rfl rfl⟩
def zds : TI := ⟨.slice 46, 1, 24, some (.osl 3 true []), false⟩
theorem z7d : jK Tryd.prog 23 zds := ⟨⟨Tryd.t23, by kernel_rfl, rfl, rfl, fun z h => by cases h; exact ⟨_, rfl, rfl, fun S h => x6 _⟩⟩, Tryd.underlying23, by intro h; cases h⟩
def zdr : TI := ⟨.struct [(0, 2), (2, 1)], 3, 32, some (.agg [.agg [.atom (.int .u8 0), .atom (.int .u8 0)], .osl 3 true []]), false⟩
theorem z7c : jK Tryd.prog 25 zdr := ⟨⟨Tryd.t25, by kernel_rfl, rfl, rfl, fun z h => by cases h; exact ⟨_, rfl, rfl, fun S h => zV (zj (zV (zj (zl rfl) (zj (zl rfl) (zG)))) (zj (x6 _) (zG)))⟩⟩, ⟨_, Tryd.underlying25, by kernel_rfl, by
  intro f hf
  simp only [List.mem_cons, List.not_mem_nil, or_false] at hf
  rcases hf with rfl | rfl
  ·exact ⟨Tryd.t22, by kernel_rfl⟩
  ·exact ⟨Tryd.t23, by kernel_rfl⟩⟩, by intro h; cases h⟩
def zdq : TI := ⟨.slice 3, 1, 24, some (.osl 1 true []), false⟩
theorem z7b : jK Tryd.prog 26 zdq := ⟨⟨Tryd.t26, by kernel_rfl, rfl, rfl, fun z h => by cases h; exact ⟨_, rfl, rfl, fun S h => x6 _⟩⟩, Tryd.underlying26, by intro h; cases h⟩
def zdp : TI := ⟨.slice 43, 1, 24, some (.osl 3 true []), false⟩
theorem z7a : jK Tryd.prog 27 zdp := ⟨⟨Tryd.t27, by kernel_rfl, rfl, rfl, fun z h => by cases h; exact ⟨_, rfl, rfl, fun S h => x6 _⟩⟩, Tryd.underlying27, by intro h; cases h⟩
def zdo : TI := ⟨.struct [(0, 1), (1, 1), (2, 1), (3, 1)], 4, 64, some (.agg [.atom (.int .i64 0), .atom (.int .i64 0), .osl 1 true [], .osl 3 true []]), false⟩
theorem z79 : jK Tryd.prog 29 zdo := ⟨⟨Tryd.t29, by kernel_rfl, rfl, rfl, fun z h => by cases h; exact ⟨_, rfl, rfl, fun S h => zV (zj (zl rfl) (zj (zl rfl) (zj (x6 _) (zj (x6 _) (zG)))))⟩⟩, ⟨_, Tryd.underlying29, by kernel_rfl, by
  intro f hf
  simp only [List.mem_cons, List.not_mem_nil, or_false] at hf
  rcases hf with rfl | rfl | rfl | rfl
  ·exact ⟨Tryd.t3, by kernel_rfl⟩
  ·exact ⟨Tryd.t3, by kernel_rfl⟩
  ·exact ⟨Tryd.t26, by kernel_rfl⟩
  ·exact ⟨Tryd.t27, by kernel_rfl⟩⟩, by intro h; cases h⟩
def zdn : TI := ⟨.slice 53, 1, 24, some (.osl 2 true []), false⟩
theorem z78 : jK Tryd.prog 31 zdn := ⟨⟨Tryd.t31, by kernel_rfl, rfl, rfl, fun z h => by cases h; exact ⟨_, rfl, rfl, fun S h => x6 _⟩⟩, Tryd.underlying31, by intro h; cases h⟩
def zdm : TI := ⟨.slice 55, 1, 24, some (.osl 1 true []), false⟩
theorem z75 : jK Tryd.prog 32 zdm := ⟨⟨Tryd.t32, by kernel_rfl, rfl, rfl, fun z h => by cases h; exact ⟨_, rfl, rfl, fun S h => x6 _⟩⟩, Tryd.underlying32, by intro h; cases h⟩
def zdl : TI := ⟨.int .i64, 1, 8, some (.atom (.int .i64 0)), false⟩
theorem z74 : jK Tryd.prog 36 zdl := ⟨⟨Tryd.t36, by kernel_rfl, rfl, rfl, fun z h => by cases h; exact ⟨_, rfl, rfl, fun S h => zl rfl⟩⟩, Tryd.underlying36, by intro h; cases h⟩
def zdk : TI := ⟨.slice 50, 1, 24, some (.osl 5 true []), false⟩
theorem z73 : jK Tryd.prog 41 zdk := ⟨⟨Tryd.t41, by kernel_rfl, rfl, rfl, fun z h => by cases h; exact ⟨_, rfl, rfl, fun S h => x6 _⟩⟩, Tryd.underlying41, by intro h; cases h⟩
def zdj : TI := ⟨.struct [(0, 1), (1, 1), (2, 1)], 3, 56, some (.agg [.atom (.int .i64 0), .osl 5 true [], .osl 1 true []]), false⟩
theorem z72 : jK Tryd.prog 42 zdj := ⟨⟨Tryd.t42, by kernel_rfl, rfl, rfl, fun z h => by cases h; exact ⟨_, rfl, rfl, fun S h => zV (zj (zl rfl) (zj (x6 _) (zj (x6 _) (zG))))⟩⟩, ⟨_, Tryd.underlying42, by kernel_rfl, by
  intro f hf
  simp only [List.mem_cons, List.not_mem_nil, or_false] at hf
  rcases hf with rfl | rfl | rfl
  ·exact ⟨Tryd.t3, by kernel_rfl⟩
  ·exact ⟨Tryd.t41, by kernel_rfl⟩
  ·exact ⟨Tryd.t26, by kernel_rfl⟩⟩, by intro h; cases h⟩
def zdi : TI := ⟨.struct [(0, 1), (1, 1), (2, 1)], 3, 56, some (.agg [.atom (.int .i64 0), .osl 5 true [], .osl 1 true []]), false⟩
theorem z71 : jK Tryd.prog 43 zdi := ⟨⟨Tryd.t43, by kernel_rfl, rfl, rfl, fun z h => by cases h; exact ⟨_, rfl, rfl, fun S h => zV (zj (zl rfl) (zj (x6 _) (zj (x6 _) (zG))))⟩⟩, ⟨_, Tryd.underlying43, by kernel_rfl, by
  intro f hf
  simp only [List.mem_cons, List.not_mem_nil, or_false] at hf
  rcases hf with rfl | rfl | rfl
  ·exact ⟨Tryd.t3, by kernel_rfl⟩
  ·exact ⟨Tryd.t41, by kernel_rfl⟩
  ·exact ⟨Tryd.t26, by kernel_rfl⟩⟩, by intro h; cases h⟩
def zdh : TI := ⟨.slice 48, 1, 24, some (.osl 5 true []), false⟩
theorem z6Z : jK Tryd.prog 44 zdh := ⟨⟨Tryd.t44, by kernel_rfl, rfl, rfl, fun z h => by cases h; exact ⟨_, rfl, rfl, fun S h => x6 _⟩⟩, Tryd.underlying44, by intro h; cases h⟩
def zdg : TI := ⟨.struct [(0, 1), (1, 1), (2, 1)], 3, 32, some (.agg [.atom (.int .u8 0), .atom (.int .u8 0), .osl 5 true []]), false⟩
theorem z6Y : jK Tryd.prog 46 zdg := ⟨⟨Tryd.t46, by kernel_rfl, rfl, rfl, fun z h => by cases h; exact ⟨_, rfl, rfl, fun S h => zV (zj (zl rfl) (zj (zl rfl) (zj (x6 _) (zG))))⟩⟩, ⟨_, Tryd.underlying46, by kernel_rfl, by
  intro f hf
  simp only [List.mem_cons, List.not_mem_nil, or_false] at hf
  rcases hf with rfl | rfl | rfl
  ·exact ⟨Tryd.t5, by kernel_rfl⟩
  ·exact ⟨Tryd.t5, by kernel_rfl⟩
  ·exact ⟨Tryd.t44, by kernel_rfl⟩⟩, by intro h; cases h⟩
def zdf : TI := ⟨.int .u64, 1, 8, some (.atom (.int .u64 0)), false⟩
theorem z6X : jK Tryd.prog 47 zdf := ⟨⟨Tryd.t47, by kernel_rfl, rfl, rfl, fun z h => by cases h; exact ⟨_, rfl, rfl, fun S h => zl rfl⟩⟩, Tryd.underlying47, by intro h; cases h⟩
def zde : TI := ⟨.array 5 5, 5, 5, some (.agg [.atom (.int .u8 0), .atom (.int .u8 0), .atom (.int .u8 0), .atom (.int .u8 0), .atom (.int .u8 0)]), true⟩
theorem z6W : jK Tryd.prog 48 zde := ⟨⟨Tryd.t48, by kernel_rfl, rfl, rfl, fun z h => by cases h; exact ⟨_, rfl, rfl, fun S h => zV (zj (zl rfl) (zj (zl rfl) (zj (zl rfl) (zj (zl rfl) (zj (zl rfl) (zG))))))⟩⟩, Tryd.underlying48, fun _ => kz (Go.Ex.z9v.eqn rfl) rfl rfl rfl rfl⟩
def zdd : TI := ⟨.struct [(0, 1), (1, 1), (2, 1), (3, 1), (4, 1)], 5, 40, some (.agg [.atom (.int .i64 0), .atom (.int .u8 0), .atom (.int .i64 0), .atom (.int .i64 0), .atom (.int .i64 0)]), true⟩
theorem z6V : jK Tryd.prog 50 zdd := ⟨⟨Tryd.t50, by kernel_rfl, rfl, rfl, fun z h => by cases h; exact ⟨_, rfl, rfl, fun S h => zV (zj (zl rfl) (zj (zl rfl) (zj (zl rfl) (zj (zl rfl) (zj (zl rfl) (zG))))))⟩⟩, ⟨_, Tryd.underlying50, by kernel_rfl, by
  intro f hf
  simp only [List.mem_cons, List.not_mem_nil, or_false] at hf
  rcases hf with rfl | rfl | rfl | rfl | rfl
  ·exact ⟨Tryd.t3, by kernel_rfl⟩
  ·exact ⟨Tryd.t5, by kernel_rfl⟩
  ·exact ⟨Tryd.t3, by kernel_rfl⟩
  ·exact ⟨Tryd.t3, by kernel_rfl⟩
  ·exact ⟨Tryd.t3, by kernel_rfl⟩⟩, fun _ => kz (Go.Ex.z9u.eqn rfl) rfl rfl rfl rfl⟩
def zdc : TI := ⟨.slice 26, 1, 24, some (.osl 1 true []), false⟩
theorem z6U : jK Tryd.prog 51 zdc := ⟨⟨Tryd.t51, by kernel_rfl, rfl, rfl, fun z h => by cases h; exact ⟨_, rfl, rfl, fun S h => x6 _⟩⟩, Tryd.underlying51, by intro h; cases h⟩
def zdb : TI := ⟨.struct [(0, 1), (1, 1)], 2, 48, some (.agg [.osl 1 true [], .osl 1 true []]), false⟩
theorem z6T : jK Tryd.prog 53 zdb := ⟨⟨Tryd.t53, by kernel_rfl, rfl, rfl, fun z h => by cases h; exact ⟨_, rfl, rfl, fun S h => zV (zj (x6 _) (zj (x6 _) (zG)))⟩⟩, ⟨_, Tryd.underlying53, by kernel_rfl, by
  intro f hf
  simp only [List.mem_cons, List.not_mem_nil, or_false] at hf
  rcases hf with rfl | rfl
  ·exact ⟨Tryd.t26, by kernel_rfl⟩
  ·exact ⟨Tryd.t51, by kernel_rfl⟩⟩, by intro h; cases h⟩
def zda : TI := ⟨.slice 64, 1, 24, some (.osl 5 true []), false⟩
theorem z6S : jK Tryd.prog 55 zda := ⟨⟨Tryd.t55, by kernel_rfl, rfl, rfl, fun z h => by cases h; exact ⟨_, rfl, rfl, fun S h => x6 _⟩⟩, Tryd.underlying55, by intro h; cases h⟩
def zd9 : TI := ⟨.slice 62, 1, 24, some (.osl 6 true []), false⟩
theorem z6R : jK Tryd.prog 56 zd9 := ⟨⟨Tryd.t56, by kernel_rfl, rfl, rfl, fun z h => by cases h; exact ⟨_, rfl, rfl, fun S h => x6 _⟩⟩, Tryd.underlying56, by intro h; cases h⟩
def zd8 : TI := ⟨.struct [(0, 1), (1, 1), (2, 1), (3, 1)], 4, 32, some (.agg [.atom (.int .i64 0), .atom (.int .i64 0), .atom (.int .i64 0), .atom (.int .i64 0)]), true⟩
theorem z6Q : jK Tryd.prog 60 zd8 := ⟨⟨Tryd.t60, by kernel_rfl, rfl, rfl, fun z h => by cases h; exact ⟨_, rfl, rfl, fun S h => zV (zj (zl rfl) (zj (zl rfl) (zj (zl rfl) (zj (zl rfl) (zG)))))⟩⟩, ⟨_, Tryd.underlying60, by kernel_rfl, by
  intro f hf
  simp only [List.mem_cons, List.not_mem_nil, or_false] at hf
  rcases hf with rfl | rfl | rfl | rfl
  ·exact ⟨Tryd.t3, by kernel_rfl⟩
  ·exact ⟨Tryd.t3, by kernel_rfl⟩
  ·exact ⟨Tryd.t3, by kernel_rfl⟩
  ·exact ⟨Tryd.t3, by kernel_rfl⟩⟩, fun _ => kz (Go.Ex.z9t.eqn rfl) rfl rfl rfl rfl⟩
def zd7 : TI := ⟨.struct [(0, 4), (4, 2)], 6, 80, some (.agg [.agg [.atom (.int .i64 0), .atom (.int .i64 0), .atom (.int .i64 0), .atom (.int .i64 0)], .agg [.osl 1 true [], .osl 1 true []]]), false⟩
theorem z6P : jK Tryd.prog 62 zd7 := ⟨⟨Tryd.t62, by kernel_rfl, rfl, rfl, fun z h => by cases h; exact ⟨_, rfl, rfl, fun S h => zV (zj (zV (zj (zl rfl) (zj (zl rfl) (zj (zl rfl) (zj (zl rfl) (zG)))))) (zj (zV (zj (x6 _) (zj (x6 _) (zG)))) (zG)))⟩⟩, ⟨_, Tryd.underlying62, by kernel_rfl, by
  intro f hf
  simp only [List.mem_cons, List.not_mem_nil, or_false] at hf
  rcases hf with rfl | rfl
  ·exact ⟨Tryd.t60, by kernel_rfl⟩
  ·exact ⟨Tryd.t53, by kernel_rfl⟩⟩, by intro h; cases h⟩
def zd6 : TI := ⟨.struct [(0, 4), (4, 1)], 5, 40, some (.agg [.agg [.atom (.int .i64 0), .atom (.int .i64 0), .atom (.int .i64 0), .atom (.int .i64 0)], .atom (.int .i64 0)]), true⟩
theorem z6O : jK Tryd.prog 63 zd6 := ⟨⟨Tryd.t63, by kernel_rfl, rfl, rfl, fun z h => by cases h; exact ⟨_, rfl, rfl, fun S h => zV (zj (zV (zj (zl rfl) (zj (zl rfl) (zj (zl rfl) (zj (zl rfl) (zG)))))) (zj (zl rfl) (zG)))⟩⟩, ⟨_, Tryd.underlying63, by kernel_rfl, by
  intro f hf
  simp only [List.mem_cons, List.not_mem_nil, or_false] at hf
  rcases hf with rfl | rfl
  ·exact ⟨Tryd.t60, by kernel_rfl⟩
  ·exact ⟨Tryd.t3, by kernel_rfl⟩⟩, fun _ => kz (Go.Ex.z9s.eqn rfl) rfl rfl rfl rfl⟩
def zd5 : TI := ⟨.struct [(0, 4), (4, 1)], 5, 40, some (.agg [.agg [.atom (.int .i64 0), .atom (.int .i64 0), .atom (.int .i64 0), .atom (.int .i64 0)], .atom (.int .i64 0)]), true⟩
theorem z6N : jK Tryd.prog 64 zd5 := ⟨⟨Tryd.t64, by kernel_rfl, rfl, rfl, fun z h => by cases h; exact ⟨_, rfl, rfl, fun S h => zV (zj (zV (zj (zl rfl) (zj (zl rfl) (zj (zl rfl) (zj (zl rfl) (zG)))))) (zj (zl rfl) (zG)))⟩⟩, ⟨_, Tryd.underlying64, by kernel_rfl, by
  intro f hf
  simp only [List.mem_cons, List.not_mem_nil, or_false] at hf
  rcases hf with rfl | rfl
  ·exact ⟨Tryd.t60, by kernel_rfl⟩
  ·exact ⟨Tryd.t3, by kernel_rfl⟩⟩, fun _ => kz (Go.Ex.z9r.eqn rfl) rfl rfl rfl rfl⟩
def zd4 : TI := ⟨.slice 75, 1, 24, some (.osl 1 true []), false⟩
theorem z6M : jK Tryd.prog 68 zd4 := ⟨⟨Tryd.t68, by kernel_rfl, rfl, rfl, fun z h => by cases h; exact ⟨_, rfl, rfl, fun S h => x6 _⟩⟩, Tryd.underlying68, by intro h; cases h⟩
def zd3 : TI := ⟨.struct [(0, 1), (1, 1), (2, 1)], 3, 40, some (.agg [.atom (.int .i64 0), .atom (.int .i64 0), .osl 1 true []]), false⟩
theorem z6L : jK Tryd.prog 70 zd3 := ⟨⟨Tryd.t70, by kernel_rfl, rfl, rfl, fun z h => by cases h; exact ⟨_, rfl, rfl, fun S h => zV (zj (zl rfl) (zj (zl rfl) (zj (x6 _) (zG))))⟩⟩, ⟨_, Tryd.underlying70, by kernel_rfl, by
  intro f hf
  simp only [List.mem_cons, List.not_mem_nil, or_false] at hf
  rcases hf with rfl | rfl | rfl
  ·exact ⟨Tryd.t3, by kernel_rfl⟩
  ·exact ⟨Tryd.t3, by kernel_rfl⟩
  ·exact ⟨Tryd.t68, by kernel_rfl⟩⟩, by intro h; cases h⟩
def zd2 : TI := ⟨.struct [(0, 1), (1, 1), (2, 1)], 3, 24, some (.agg [.atom (.int .u8 0), .atom (.int .i64 0), .atom (.int .i64 0)]), true⟩
theorem z6K : jK Tryd.prog 74 zd2 := ⟨⟨Tryd.t74, by kernel_rfl, rfl, rfl, fun z h => by cases h; exact ⟨_, rfl, rfl, fun S h => zV (zj (zl rfl) (zj (zl rfl) (zj (zl rfl) (zG))))⟩⟩, ⟨_, Tryd.underlying74, by kernel_rfl, by
  intro f hf
  simp only [List.mem_cons, List.not_mem_nil, or_false] at hf
  rcases hf with rfl | rfl | rfl
  ·exact ⟨Tryd.t5, by kernel_rfl⟩
  ·exact ⟨Tryd.t3, by kernel_rfl⟩
  ·exact ⟨Tryd.t3, by kernel_rfl⟩⟩, fun _ => kz (Go.Ex.z9q.eqn rfl) rfl rfl rfl rfl⟩
def zd1 : TI := ⟨.slice 74, 1, 24, some (.osl 3 true []), false⟩
theorem z6J : jK Tryd.prog 75 zd1 := ⟨⟨Tryd.t75, by kernel_rfl, rfl, rfl, fun z h => by cases h; exact ⟨_, rfl, rfl, fun S h => x6 _⟩⟩, Tryd.underlying75, by intro h; cases h⟩
def zd0 : TI := ⟨.slice 60, 1, 24, some (.osl 4 true []), false⟩
theorem z6I : jK Tryd.prog 77 zd0 := ⟨⟨Tryd.t77, by kernel_rfl, rfl, rfl, fun z h => by cases h; exact ⟨_, rfl, rfl, fun S h => x6 _⟩⟩, Tryd.underlying77, by intro h; cases h⟩
def zcZ : TI := ⟨.other, 1, 8, some (.atom .nilFunc), false⟩
theorem z6H : jK Tryd.prog 79 zcZ := ⟨⟨Tryd.t79, by kernel_rfl, rfl, rfl, fun z h => by cases h; exact ⟨_, rfl, rfl, fun S h => zl rfl⟩⟩, ⟨_, Tryd.underlying79, rfl⟩, by intro h; cases h⟩
def zcY : TI := ⟨.slice 90, 1, 24, some (.osl 24 true []), false⟩
theorem z6G : jK Tryd.prog 82 zcY := ⟨⟨Tryd.t82, by kernel_rfl, rfl, rfl, fun z h => by cases h; exact ⟨_, rfl, rfl, fun S h => x6 _⟩⟩, Tryd.underlying82, by intro h; cases h⟩
def zcX : TI := ⟨.array 4 3, 4, 32, some (.agg [.atom (.int .i64 0), .atom (.int .i64 0), .atom (.int .i64 0), .atom (.int .i64 0)]), true⟩
theorem z6F : jK Tryd.prog 85 zcX := ⟨⟨Tryd.t85, by kernel_rfl, rfl, rfl, fun z h => by cases h; exact ⟨_, rfl, rfl, fun S h => zV (zj (zl rfl) (zj (zl rfl) (zj (zl rfl) (zj (zl rfl) (zG)))))⟩⟩, Tryd.underlying85, fun _ => kz (Go.Ex.z9p.eqn rfl) rfl rfl rfl rfl⟩
def zcW : TI := ⟨.struct [(0, 1), (1, 4)], 5, 40, some (.agg [.atom (.int .i64 0), .agg [.atom (.int .i64 0), .atom (.int .i64 0), .atom (.int .i64 0), .atom (.int .i64 0)]]), true⟩
theorem z6E : jK Tryd.prog 87 zcW := ⟨⟨Tryd.t87, by kernel_rfl, rfl, rfl, fun z h => by cases h; exact ⟨_, rfl, rfl, fun S h => zV (zj (zl rfl) (zj (zV (zj (zl rfl) (zj (zl rfl) (zj (zl rfl) (zj (zl rfl) (zG)))))) (zG)))⟩⟩, ⟨_, Tryd.underlying87, by kernel_rfl, by
  intro f hf
  simp only [List.mem_cons, List.not_mem_nil, or_false] at hf
  rcases hf with rfl | rfl
  ·exact ⟨Tryd.t3, by kernel_rfl⟩
  ·exact ⟨Tryd.t85, by kernel_rfl⟩⟩, fun _ => kz (Go.Ex.z9o.eqn rfl) rfl rfl rfl rfl⟩
def zcV : TI := ⟨.array 4 87, 20, 160, some (.agg [.agg [.atom (.int .i64 0), .agg [.atom (.int .i64 0), .atom (.int .i64 0), .atom (.int .i64 0), .atom (.int .i64 0)]], .agg [.atom (.int .i64 0), .agg [.atom (.int .i64 0), .atom (.int .i64 0), .atom (.int .i64 0), .atom (.int .i64 0)]], .agg [.atom (.int .i64 0), .agg [.atom (.int .i64 0), .atom (.int .i64 0), .atom (.int .i64 0), .atom (.int .i64 0)]], .agg [.atom (.int .i64 0), .agg [.atom (.int .i64 0), .atom (.int .i64 0), .atom (.int .i64 0), .atom (.int .i64 0)]]]), true⟩
theorem z6D : jK Tryd.prog 88 zcV := ⟨⟨Tryd.t88, by kernel_rfl, rfl, rfl, fun z h => by cases h; exact ⟨_, rfl, rfl, fun S h => zV (zj (zV (zj (zl rfl) (zj (zV (zj (zl rfl) (zj (zl rfl) (zj (zl rfl) (zj (zl rfl) (zG)))))) (zG)))) (zj (zV (zj (zl rfl) (zj (zV (zj (zl rfl) (zj (zl rfl) (zj (zl rfl) (zj (zl rfl) (zG)))))) (zG)))) (zj (zV (zj (zl rfl) (zj (zV (zj (zl rfl) (zj (zl rfl) (zj (zl rfl) (zj (zl rfl) (zG)))))) (zG)))) (zj (zV (zj (zl rfl) (zj (zV (zj (zl rfl) (zj (zl rfl) (zj (zl rfl) (zj (zl rfl) (zG)))))) (zG)))) (zG)))))⟩⟩, Tryd.underlying88, fun _ => kz (Go.Ex.z9n.eqn rfl) rfl rfl rfl rfl⟩
def zcU : TI := ⟨.struct [(0, 4), (4, 20)], 24, 192, some (.agg [.agg [.atom (.int .i64 0), .atom (.int .i64 0), .atom (.int .i64 0), .atom (.int .i64 0)], .agg [.agg [.atom (.int .i64 0), .agg [.atom (.int .i64 0), .atom (.int .i64 0), .atom (.int .i64 0), .atom (.int .i64 0)]], .agg [.atom (.int .i64 0), .agg [.atom (.int .i64 0), .atom (.int .i64 0), .atom (.int .i64 0), .atom (.int .i64 0)]], .agg [.atom (.int .i64 0), .agg [.atom (.int .i64 0), .atom (.int .i64 0), .atom (.int .i64 0), .atom (.int .i64 0)]], .agg [.atom (.int .i64 0), .agg [.atom (.int .i64 0), .atom (.int .i64 0), .atom (.int .i64 0), .atom (.int .i64 0)]]]]), true⟩
theorem z2H : jK Tryd.prog 90 zcU := ⟨⟨Tryd.t90, by kernel_rfl, rfl, rfl, fun z h => by cases h; exact ⟨_, rfl, rfl, fun S h => zV (zj (zV (zj (zl rfl) (zj (zl rfl) (zj (zl rfl) (zj (zl rfl) (zG)))))) (zj (zV (zj (zV (zj (zl rfl) (zj (zV (zj (zl rfl) (zj (zl rfl) (zj (zl rfl) (zj (zl rfl) (zG)))))) (zG)))) (zj (zV (zj (zl rfl) (zj (zV (zj (zl rfl) (zj (zl rfl) (zj (zl rfl) (zj (zl rfl) (zG)))))) (zG)))) (zj (zV (zj (zl rfl) (zj (zV (zj (zl rfl) (zj (zl rfl) (zj (zl rfl) (zj (zl rfl) (zG)))))) (zG)))) (zj (zV (zj (zl rfl) (zj (zV (zj (zl rfl) (zj (zl rfl) (zj (zl rfl) (zj (zl rfl) (zG)))))) (zG)))) (zG)))))) (zG)))⟩⟩, ⟨_, Tryd.underlying90, by kernel_rfl, by
  intro f hf
  simp only [List.mem_cons, List.not_mem_nil, or_false] at hf
  rcases hf with rfl | rfl
  ·exact ⟨Tryd.t85, by kernel_rfl⟩
  ·exact ⟨Tryd.t88, by kernel_rfl⟩⟩, fun _ => kz (Go.Ex.z6o.eqn rfl) rfl rfl rfl rfl⟩
def z8U : TI := ⟨.slice 107, 1, 24, some (.osl 5 true []), false⟩
theorem z4I : jK Tryd.prog 105 z8U := ⟨⟨Tryd.t105, by kernel_rfl, rfl, rfl, fun z h => by cases h; exact ⟨_, rfl, rfl, fun S h => x6 _⟩⟩, Tryd.underlying105, by intro h; cases h⟩
def z8T : TI := ⟨.struct [(0, 1), (1, 4)], 5, 40, some (.agg [.atom (.int .i64 0), .agg [.atom (.int .i64 0), .atom (.int .i64 0), .atom (.int .i64 0), .atom (.int .i64 0)]]), true⟩
theorem z4H : jK Tryd.prog 107 z8T := ⟨⟨Tryd.t107, by kernel_rfl, rfl, rfl, fun z h => by cases h; exact ⟨_, rfl, rfl, fun S h => zV (zj (zl rfl) (zj (zV (zj (zl rfl) (zj (zl rfl) (zj (zl rfl) (zj (zl rfl) (zG)))))) (zG)))⟩⟩, ⟨_, Tryd.underlying107, by kernel_rfl, by
  intro f hf
  simp only [List.mem_cons, List.not_mem_nil, or_false] at hf
  rcases hf with rfl | rfl
  ·exact ⟨Tryd.t3, by kernel_rfl⟩
  ·exact ⟨Tryd.t60, by kernel_rfl⟩⟩, fun _ => kz (Go.Ex.z7Z.eqn rfl) rfl rfl rfl rfl⟩
def z8S : TI := ⟨.other, 1, 8, some (.atom .nilFunc), false⟩
theorem z4G : jK Tryd.prog 113 z8S := ⟨⟨Tryd.t113, by kernel_rfl, rfl, rfl, fun z h => by cases h; exact ⟨_, rfl, rfl, fun S h => zl rfl⟩⟩, ⟨_, Tryd.underlying113, rfl⟩, by intro h; cases h⟩
def z8R : TI := ⟨.other, 1, 8, some (.atom .nilFunc), false⟩
theorem z4F : jK Tryd.prog 116 z8R := ⟨⟨Tryd.t116, by kernel_rfl, rfl, rfl, fun z h => by cases h; exact ⟨_, rfl, rfl, fun S h => zl rfl⟩⟩, ⟨_, Tryd.underlying116, rfl⟩, by intro h; cases h⟩
def z8Q : TI := ⟨.other, 1, 8, some (.atom (.map none)), false⟩
theorem z4E : jK Tryd.prog 117 z8Q := ⟨⟨Tryd.t117, by kernel_rfl, rfl, rfl, fun z h => by cases h; exact ⟨_, rfl, rfl, fun S h => zl rfl⟩⟩, ⟨_, Tryd.underlying117, rfl⟩, by intro h; cases h⟩
def z8P : TI := ⟨.other, 1, 8, some (.atom .nilFunc), false⟩
theorem z4D : jK Tryd.prog 118 z8P := ⟨⟨Tryd.t118, by kernel_rfl, rfl, rfl, fun z h => by cases h; exact ⟨_, rfl, rfl, fun S h => zl rfl⟩⟩, ⟨_, Tryd.underlying118, rfl⟩, by intro h; cases h⟩
def z8O : TI := ⟨.other, 1, 8, some (.atom .nilFunc), false⟩
theorem z4C : jK Tryd.prog 119 z8O := ⟨⟨Tryd.t119, by kernel_rfl, rfl, rfl, fun z h => by cases h; exact ⟨_, rfl, rfl, fun S h => zl rfl⟩⟩, ⟨_, Tryd.underlying119, rfl⟩, by intro h; cases h⟩
def z8N : TI := ⟨.other, 1, 8, some (.atom .nilFunc), false⟩
theorem z4B : jK Tryd.prog 129 z8N := ⟨⟨Tryd.t129, by kernel_rfl, rfl, rfl, fun z h => by cases h; exact ⟨_, rfl, rfl, fun S h => zl rfl⟩⟩, ⟨_, Tryd.underlying129, rfl⟩, by intro h; cases h⟩
def z8M : TI := ⟨.other, 1, 8, some (.atom .nilFunc), false⟩
theorem z4A : jK Tryd.prog 132 z8M := ⟨⟨Tryd.t132, by kernel_rfl, rfl, rfl, fun z h => by cases h; exact ⟨_, rfl, rfl, fun S h => zl rfl⟩⟩, ⟨_, Tryd.underlying132, rfl⟩, by intro h; cases h⟩
def z8L : TI := ⟨.other, 1, 8, some (.atom .nilFunc), false⟩
theorem z4z : jK Tryd.prog 133 z8L := ⟨⟨Tryd.t133, by kernel_rfl, rfl, rfl, fun z h => by cases h; exact ⟨_, rfl, rfl, fun S h => zl rfl⟩⟩, ⟨_, Tryd.underlying133, rfl⟩, by intro h; cases h⟩
def z8K : TI := ⟨.other, 1, 8, some (.atom .nilFunc), false⟩
theorem z4y : jK Tryd.prog 134 z8K := ⟨⟨Tryd.t134, by kernel_rfl, rfl, rfl, fun z h => by cases h; exact ⟨_, rfl, rfl, fun S h => zl rfl⟩⟩, ⟨_, Tryd.underlying134, rfl⟩, by intro h; cases h⟩
def z8J : TI := ⟨.other, 1, 16, some (.atom .nilIface), false⟩
theorem z4x : jK Tryd.prog 137 z8J := ⟨⟨Tryd.t137, by kernel_rfl, rfl, rfl, fun z h => by cases h; exact ⟨_, rfl, rfl, fun S h => zl rfl⟩⟩, ⟨_, Tryd.underlying137, rfl⟩, by intro h; cases h⟩
def z8I : TI := ⟨.other, 1, 8, some (.atom .nilFunc), false⟩
theorem z4w : jK Tryd.prog 154 z8I := ⟨⟨Tryd.t154, by kernel_rfl, rfl, rfl, fun z h => by cases h; exact ⟨_, rfl, rfl, fun S h => zl rfl⟩⟩, ⟨_, Tryd.underlying154, rfl⟩, by intro h; cases h⟩
def tiL : List (Nat × TI) := [(1, ti1), (2, ti2), (3, ti3), (4, ti4), (5, ti5), (22, zdt), (23, zds), (25, zdr), (26, zdq), (27, zdp), (29, zdo), (31, zdn), (32, zdm), (36, zdl), (41, zdk), (42, zdj), (43, zdi), (44, zdh), (46, zdg), (47, zdf), (48, zde), (50, zdd), (51, zdc), (53, zdb), (55, zda), (56, zd9), (60, zd8), (62, zd7), (63, zd6), (64, zd5), (68, zd4), (70, zd3), (74, zd2), (75, zd1), (77, zd0), (79, zcZ), (82, zcY), (85, zcX), (87, zcW), (88, zcV), (90, zcU), (105, z8U), (107, z8T), (113, z8S), (116, z8R), (117, z8Q), (118, z8P), (119, z8O), (129, z8N), (132, z8M), (133, z8L), (134, z8K), (137, z8J), (154, z8I)]
def xO : TT := fun t => (tiL.find? fun p => p.1 == t).map (·.2)
def z4i (P : Program) : List (Nat × TI) → Prop
 | [] => True
 | p :: l => jK P p.1 p.2 ∧ z4i P l
theorem z4i.mem {P : Program} : ∀ {l : List (Nat × TI)}, z4i P l → ∀ p ∈ l, jK P p.1 p.2
 | p :: _, h, q, hq => by
  rcases List.mem_cons.1 hq with rfl | hq
  ·exact h.1
  ·exact z4i.mem h.2 q hq
 | [], _, _, hq => by cases hq
theorem z8C : z4i Tryd.prog tiL := ⟨z8H, z8G, z8F, z8E, z8D, z7e, z7d, z7c, z7b, z7a, z79, z78, z75, z74, z73, z72, z71, z6Z, z6Y, z6X, z6W, z6V, z6U, z6T, z6S, z6R, z6Q, z6P, z6O, z6N, z6M, z6L, z6K, z6J, z6I, z6H, z6G, z6F, z6E, z6D, z2H, z4I, z4H, z4G, z4F, z4E, z4D, z4C, z4B, z4A, z4z, z4y, z4x, z4w, trivial⟩
theorem zY : ww Tryd.prog xO := by
 intro t i h
 unfold xO at h
 rw [Option.map_eq_some_iff] at h
 obtain ⟨p, h1, rfl⟩ := h
 have h2 := List.find?_some h1
 have h3 := z8C.mem p (List.mem_of_find?_eq_some h1)
 rw [beq_iff_eq.1 h2] at h3
 exact h3
theorem zeP : xO 1 = some ⟨.other, 1, 8, some (.atom .nilFunc), false⟩ := rfl
theorem zeO : xO 2 = some ⟨.int .i64, 1, 8, some (.atom (.int .i64 0)), false⟩ := rfl
theorem zeN : xO 3 = some ⟨.int .i64, 1, 8, some (.atom (.int .i64 0)), false⟩ := rfl
theorem zeM : xO 4 = some ⟨.bool, 1, 1, some (.atom (.bool false)), false⟩ := rfl
theorem zeL : xO 5 = some ⟨.int .u8, 1, 1, some (.atom (.int .u8 0)), false⟩ := rfl
theorem zcy : xO 22 = some ⟨.array 2 5, 2, 2, some (.agg [.atom (.int .u8 0), .atom (.int .u8 0)]), true⟩ := rfl
theorem zcx : xO 23 = some ⟨.slice 46, 1, 24, some (.osl 3 true []), false⟩ := rfl
theorem zcw : xO 25 = some ⟨.struct [(0, 2), (2, 1)], 3, 32, some (.agg [.agg [.atom (.int .u8 0), .atom (.int .u8 0)], .osl 3 true []]), false⟩ := rfl
theorem zcv : xO 26 = some ⟨.slice 3, 1, 24, some (.osl 1 true []), false⟩ := rfl
theorem zcu : xO 27 = some ⟨.slice 43, 1, 24, some (.osl 3 true []), false⟩ := rfl
theorem zct : xO 29 = some ⟨.struct [(0, 1), (1, 1), (2, 1), (3, 1)], 4, 64, some (.agg [.atom (.int .i64 0), .atom (.int .i64 0), .osl 1 true [], .osl 3 true []]), false⟩ := rfl
theorem zcs : xO 31 = some ⟨.slice 53, 1, 24, some (.osl 2 true []), false⟩ := rfl
theorem zcr : xO 32 = some ⟨.slice 55, 1, 24, some (.osl 1 true []), false⟩ := rfl
theorem zcq : xO 36 = some ⟨.int .i64, 1, 8, some (.atom (.int .i64 0)), false⟩ := rfl
theorem zcp : xO 41 = some ⟨.slice 50, 1, 24, some (.osl 5 true []), false⟩ := rfl
theorem zco : xO 42 = some ⟨.struct [(0, 1), (1, 1), (2, 1)], 3, 56, some (.agg [.atom (.int .i64 0), .osl 5 true [], .osl 1 true []]), false⟩ := rfl
theorem zcn : xO 43 = some ⟨.struct [(0, 1), (1, 1), (2, 1)], 3, 56, some (.agg [.atom (.int .i64 0), .osl 5 true [], .osl 1 true []]), false⟩ := rfl
theorem zcm : xO 44 = some ⟨.slice 48, 1, 24, some (.osl 5 true []), false⟩ := rfl
theorem zcl : xO 46 = some ⟨.struct [(0, 1), (1, 1), (2, 1)], 3, 32, some (.agg [.atom (.int .u8 0), .atom (.int .u8 0), .osl 5 true []]), false⟩ := rfl
theorem zck : xO 47 = some ⟨.int .u64, 1, 8, some (.atom (.int .u64 0)), false⟩ := rfl
theorem zcj : xO 48 = some ⟨.array 5 5, 5, 5, some (.agg [.atom (.int .u8 0), .atom (.int .u8 0), .atom (.int .u8 0), .atom (.int .u8 0), .atom (.int .u8 0)]), true⟩ := rfl
theorem zci : xO 50 = some ⟨.struct [(0, 1), (1, 1), (2, 1), (3, 1), (4, 1)], 5, 40, some (.agg [.atom (.int .i64 0), .atom (.int .u8 0), .atom (.int .i64 0), .atom (.int .i64 0), .atom (.int .i64 0)]), true⟩ := rfl
theorem zch : xO 51 = some ⟨.slice 26, 1, 24, some (.osl 1 true []), false⟩ := rfl
theorem zcg : xO 53 = some ⟨.struct [(0, 1), (1, 1)], 2, 48, some (.agg [.osl 1 true [], .osl 1 true []]), false⟩ := rfl
theorem zcf : xO 55 = some ⟨.slice 64, 1, 24, some (.osl 5 true []), false⟩ := rfl
theorem zce : xO 56 = some ⟨.slice 62, 1, 24, some (.osl 6 true []), false⟩ := rfl
theorem zcd : xO 60 = some ⟨.struct [(0, 1), (1, 1), (2, 1), (3, 1)], 4, 32, some (.agg [.atom (.int .i64 0), .atom (.int .i64 0), .atom (.int .i64 0), .atom (.int .i64 0)]), true⟩ := rfl
theorem zcc : xO 62 = some ⟨.struct [(0, 4), (4, 2)], 6, 80, some (.agg [.agg [.atom (.int .i64 0), .atom (.int .i64 0), .atom (.int .i64 0), .atom (.int .i64 0)], .agg [.osl 1 true [], .osl 1 true []]]), false⟩ := rfl
theorem zcb : xO 63 = some ⟨.struct [(0, 4), (4, 1)], 5, 40, some (.agg [.agg [.atom (.int .i64 0), .atom (.int .i64 0), .atom (.int .i64 0), .atom (.int .i64 0)], .atom (.int .i64 0)]), true⟩ := rfl
theorem zca : xO 64 = some ⟨.struct [(0, 4), (4, 1)], 5, 40, some (.agg [.agg [.atom (.int .i64 0), .atom (.int .i64 0), .atom (.int .i64 0), .atom (.int .i64 0)], .atom (.int .i64 0)]), true⟩ := rfl
theorem zc9 : xO 68 = some ⟨.slice 75, 1, 24, some (.osl 1 true []), false⟩ := rfl
theorem zc8 : xO 70 = some ⟨.struct [(0, 1), (1, 1), (2, 1)], 3, 40, some (.agg [.atom (.int .i64 0), .atom (.int .i64 0), .osl 1 true []]), false⟩ := rfl
theorem zc7 : xO 74 = some ⟨.struct [(0, 1), (1, 1), (2, 1)], 3, 24, some (.agg [.atom (.int .u8 0), .atom (.int .i64 0), .atom (.int .i64 0)]), true⟩ := rfl
theorem zc6 : xO 75 = some ⟨.slice 74, 1, 24, some (.osl 3 true []), false⟩ := rfl
theorem zc5 : xO 77 = some ⟨.slice 60, 1, 24, some (.osl 4 true []), false⟩ := rfl
theorem zc4 : xO 79 = some ⟨.other, 1, 8, some (.atom .nilFunc), false⟩ := rfl
theorem zc3 : xO 82 = some ⟨.slice 90, 1, 24, some (.osl 24 true []), false⟩ := rfl
theorem zc2 : xO 85 = some ⟨.array 4 3, 4, 32, some (.agg [.atom (.int .i64 0), .atom (.int .i64 0), .atom (.int .i64 0), .atom (.int .i64 0)]), true⟩ := rfl
theorem zc1 : xO 87 = some ⟨.struct [(0, 1), (1, 4)], 5, 40, some (.agg [.atom (.int .i64 0), .agg [.atom (.int .i64 0), .atom (.int .i64 0), .atom (.int .i64 0), .atom (.int .i64 0)]]), true⟩ := rfl
theorem zc0 : xO 88 = some ⟨.array 4 87, 20, 160, some (.agg [.agg [.atom (.int .i64 0), .agg [.atom (.int .i64 0), .atom (.int .i64 0), .atom (.int .i64 0), .atom (.int .i64 0)]], .agg [.atom (.int .i64 0), .agg [.atom (.int .i64 0), .atom (.int .i64 0), .atom (.int .i64 0), .atom (.int .i64 0)]], .agg [.atom (.int .i64 0), .agg [.atom (.int .i64 0), .atom (.int .i64 0), .atom (.int .i64 0), .atom (.int .i64 0)]], .agg [.atom (.int .i64 0), .agg [.atom (.int .i64 0), .atom (.int .i64 0), .atom (.int .i64 0), .atom (.int .i64 0)]]]), true⟩ := rfl
theorem zbZ : xO 90 = some ⟨.struct [(0, 4), (4, 20)], 24, 192, some (.agg [.agg [.atom (.int .i64 0), .atom (.int .i64 0), .atom (.int .i64 0), .atom (.int .i64 0)], .agg [.agg [.atom (.int .i64 0), .agg [.atom (.int .i64 0), .atom (.int .i64 0), .atom (.int .i64 0), .atom (.int .i64 0)]], .agg [.atom (.int .i64 0), .agg [.atom (.int .i64 0), .atom (.int .i64 0), .atom (.int .i64 0), .atom (.int .i64 0)]], .agg [.atom (.int .i64 0), .agg [.atom (.int .i64 0), .atom (.int .i64 0), .atom (.int .i64 0), .atom (.int .i64 0)]], .agg [.atom (.int .i64 0), .agg [.atom (.int .i64 0), .atom (.int .i64 0), .atom (.int .i64 0), .atom (.int .i64 0)]]]]), true⟩ := rfl
theorem za6 : xO 105 = some ⟨.slice 107, 1, 24, some (.osl 5 true []), false⟩ := rfl
theorem za5 : xO 107 = some ⟨.struct [(0, 1), (1, 4)], 5, 40, some (.agg [.atom (.int .i64 0), .agg [.atom (.int .i64 0), .atom (.int .i64 0), .atom (.int .i64 0), .atom (.int .i64 0)]]), true⟩ := rfl
theorem za4 : xO 113 = some ⟨.other, 1, 8, some (.atom .nilFunc), false⟩ := rfl
theorem za3 : xO 116 = some ⟨.other, 1, 8, some (.atom .nilFunc), false⟩ := rfl
theorem za2 : xO 117 = some ⟨.other, 1, 8, some (.atom (.map none)), false⟩ := rfl
theorem za1 : xO 118 = some ⟨.other, 1, 8, some (.atom .nilFunc), false⟩ := rfl
theorem za0 : xO 119 = some ⟨.other, 1, 8, some (.atom .nilFunc), false⟩ := rfl
theorem z9Z : xO 129 = some ⟨.other, 1, 8, some (.atom .nilFunc), false⟩ := rfl
theorem z9Y : xO 132 = some ⟨.other, 1, 8, some (.atom .nilFunc), false⟩ := rfl
theorem z9X : xO 133 = some ⟨.other, 1, 8, some (.atom .nilFunc), false⟩ := rfl
theorem z9W : xO 134 = some ⟨.other, 1, 8, some (.atom .nilFunc), false⟩ := rfl
theorem z9V : xO 137 = some ⟨.other, 1, 16, some (.atom .nilIface), false⟩ := rfl
theorem z9U : xO 154 = some ⟨.other, 1, 8, some (.atom .nilFunc), false⟩ := rfl
attribute [go_sem] zeP zeO zeN zeM zeL zcy zcx zcw zcv zcu zct zcs zcr zcq zcp zco zcn zcm zcl zck zcj zci zch zcg zcf zce zcd zcc zcb zca zc9 zc8 zc7 zc6 zc5 zc4 zc3 zc2 zc1 zc0 zbZ za6 za5 za4 za3 za2 za1 za0 z9Z z9Y z9X z9W z9V z9U
end Go.Own

namespace Go.Proofs
open Go.RowKit Go.Extern.Stop Go.Stop Go.Extern
set_option maxRecDepth 100000
theorem Tryd.isTypeOf (v : Value) (w : World) : (Extern.ReflectliteType.typeOf #[.iface 181 v]).run Tryd.prog w = .ok (.iface 168 (.agg #[.pointer (some ⟨1, 181, none⟩)])) w := by kernel_rfl
theorem Tryd.isComparable (w : World) : (callFunc 108 #[.agg #[.pointer (some ⟨1, 181, none⟩)]]).run Tryd.prog w = .ok (.value (.bool true)) w := by
 rw [@run_callFunc_extern Tryd.prog 108 _ (Extern.ReflectliteType.method fun t => do Extern.Rtype.noPackHeld "Comparable" t; pure (.bool (← typeInfo t).comparable)) Tryd.func108 (by kernel_rfl) (by kernel_rfl) (by kernel_rfl) (by kernel_rfl)]
 kernel_rfl
theorem Tryd.isMethodComparable (v : Value) (w : World) : (Go.method 318 168 v "Comparable").run Tryd.prog w = .ok (108, v) w := by kernel_rfl
theorem Tryd.isComp : (Tryd.prog.info? 181).map (·.comparable) = some true := by kernel_rfl
theorem Tryd.isSize : (Tryd.prog.info? 206).map (·.size) = some 1 := by kernel_rfl
theorem Tryd.is_same (a : Addr) (w : World) :
  Calls Tryd.prog 66 #[.iface 181 (.pointer (some a)), .iface 181 (.pointer (some a))] w fun e w' => e = .returned (.bool true) ∧ w' = w := by
 obtain ⟨i, hi, hcmp⟩ := Option.map_eq_some_iff.1 Tryd.isComp
 obtain ⟨j, hj, hjs⟩ := Option.map_eq_some_iff.1 Tryd.isSize
 have h8 := @run_callFunc_extern Tryd.prog 82 _ Extern.ReflectliteType.typeOf Tryd.func82 (by kernel_rfl) (by kernel_rfl) (by kernel_rfl) (by kernel_rfl)
 have tT := Tryd.isTypeOf
 have cT := Tryd.isComparable
 have mR := Tryd.isMethodComparable
 have heq := run_eql_iface_ptr_same (P := Tryd.prog) w a Tryd.underlying137 Tryd.underlying181 hi hcmp hj
 go_enter Tryd.func66, Tryd.ntmps66
 go_wp2
 refine wp_loop_rounds 1 ?_
 rw [rounds_succ]
 go_wp2
 go_ret
 exact ⟨rfl, rfl⟩
theorem Tryd.is_nil (b : Addr) (w : World) :
  Calls Tryd.prog 66 #[.nilIface, .iface 181 (.pointer (some b))] w fun e w' => e = .returned (.bool false) ∧ w' = w := by
 have hn := run_eql_iface_nil_left (P := Tryd.prog) w 181 (.pointer (some b)) Tryd.underlying137
 go_enter Tryd.func66, Tryd.ntmps66
 go_wp2
 go_ret
 exact ⟨rfl, rfl⟩
end Go.Proofs
namespace Go.Own
open Go.Proofs
theorem z5y {S : zr} {h : Array Obj} {x y : A} {vs : List Value} {F : List Nat} (hx : x.isD = true) (hy : y.isD = true) (q : Y1 S h [x, y] vs F) : ∃ u v, vs = [u, v] ∧ vI S x u ∧ vI S y v ∧ F = [] := by
 match vs, q with
 | [u, v], q =>
  obtain ⟨F1, F2, rfl, q1, F3, F4, rfl, q2, q3⟩ := q
  have e3 : F4 = [] := q3
  subst e3
  have d : ∀ {x : A} {u : Value} {F : List Nat}, x.isD = true → Has S h x u F → vI S x u ∧ F = [] := by
   intro x u F hx q
   rcases q with ⟨q, rfl⟩ | ⟨cs, q1, q2, q3⟩
   ·exact ⟨q.rep1 hx, rfl⟩
   ·obtain ⟨r, rfl⟩ := q1.isD hx
    exact ⟨⟨cs, r, q3⟩, rfl⟩
  obtain ⟨r1, rfl⟩ := d hx q1
  obtain ⟨r2, rfl⟩ := d hy q2
  exact ⟨u, v, rfl, r1, r2, rfl⟩
theorem z7S (e : Bool) : YN Tryd.prog 66 [eEr 0 181 e, eEr 0 181 true] (eB e) := by
 refine ⟨⟨_, Tryd.func66, by kernel_rfl, by kernel_rfl⟩, ?_⟩
 intro S w vs F hS hq hF
 obtain ⟨u, v, rfl, r1, r2, rfl⟩ := z5y rfl rfl hq
 obtain ⟨g1, g2⟩ := z6q r1
 obtain ⟨⟨s1, a, rfl⟩, _⟩ : (S 0 0 = some v ∧ ∃ a, v = .iface 181 (.pointer (some a))) ∧ True := ⟨(z6q r2).1 rfl, trivial⟩
 have fin : ∀ (b : Bool) {e' : Ending} {w' : World}, e' = .returned (.bool b) ∧ w' = w → b = e → ∃ v S' F', e' = .returned v ∧ Zr (fun k => w.heap.size ≤ k ∨ k ∈ ([] : List Nat)) w w' ∧ (∀ b o u, S b o = some u → S' b o = some u) ∧ (∀ b o, b < w.heap.size → b ∉ ([] : List Nat) → S' b o = S b o) ∧ wu S' w' ∧ Has S' w'.heap (eB e) v F' ∧ F'.Nodup ∧ ∀ k ∈ F', w.heap.size ≤ k ∨ k ∈ ([] : List Nat) := by
  rintro b e' w' ⟨rfl, rfl⟩ rfl
  exact ⟨_, S, [], rfl, Zr.refl _ _, fun _ _ _ h => h, fun _ _ _ _ => rfl, hS, .inl ⟨zz.2 ⟨rfl, rfl⟩, rfl⟩, by simp, by simp⟩
 cases e with
 | true =>
  obtain ⟨s2, b, rfl⟩ := g1 rfl
  rw [s1] at s2
  cases s2
  exact (Tryd.is_same _ w).mono fun e' w' h => fin true h rfl
 | false =>
  have := g2 rfl
  subst this
  exact (Tryd.is_nil _ w).mono fun e' w' h => fin false h rfl
structure z65 (α : Type) where
 e0 : α
 e1 : α
 deriving DecidableEq
section
variable {α : Type}
def Jf (f : α → A) (x : z65 α) : A := .agg [f x.e0, f x.e1]
instance (f g : α → A) [h : qp f g] : qp (Jf f) (Jf g) := ⟨fun x => by simp [Jf, A.loose, A.looses, h.lo]⟩
instance (f : α → A) [h : wC f] : wC (Jf f) := ⟨fun x y q => by
 simp only [Jf, A.agg.injEq, List.cons.injEq, and_true] at q
 cases x; cases y
 simp only [z65.mk.injEq]
 exact ⟨h.inj _ _ q.1, h.inj _ _ q.2⟩⟩
end
structure y5 (α : Type) where
 e0 : α
 e1 : α
 e2 : α
 e3 : α
 deriving DecidableEq
instance {α : Type} [BEq α] : BEq (y5 α) := ⟨fun x y => (x.e0 == y.e0) && (x.e1 == y.e1) && (x.e2 == y.e2) && (x.e3 == y.e3)⟩
section
variable {α : Type}
def Xn (f : α → A) (x : y5 α) : A := .agg [f x.e0, f x.e1, f x.e2, f x.e3]
instance (f : α → A) [h : X9 f] : X9 (Xn f) := ⟨fun x => by simp [Xn, A.isD, A.areD, h.isD]⟩
instance (f g : α → A) [h : qp f g] : qp (Xn f) (Xn g) := ⟨fun x => by simp [Xn, A.loose, A.looses, h.lo]⟩
instance (f g : α → A) [h : YM f g] : YM (Xn f) (Xn g) := ⟨fun x => by simp [Xn, A.live, A.lives, h.live], fun x => by simp [Xn, A.shut, A.shuts, h.sh]⟩
instance (f : α → A) [h : wC f] : wC (Xn f) := ⟨fun x y q => by
 simp only [Xn, A.agg.injEq, List.cons.injEq, and_true] at q
 cases x; cases y
 simp only [y5.mk.injEq]
 exact ⟨h.inj _ _ q.1, h.inj _ _ q.2.1, h.inj _ _ q.2.2.1, h.inj _ _ q.2.2.2⟩⟩
end
section
variable {α : Type}
def y5.toL (x : y5 α) : List α := [x.e0, x.e1, x.e2, x.e3]
def y5.ofL : List α → y5 α → y5 α
 | [x0, x1, x2, x3], _ => ⟨x0, x1, x2, x3⟩
 | _, d => d
theorem y5.toL_ofL (l : List α) (d : y5 α) (h : l.length = 4) : (y5.ofL l d).toL = l := by
 match l, h with
 | [x0, x1, x2, x3], _ => rfl
def y5.setI (x : y5 α) (i : Int) (v : α) : y5 α := y5.ofL (x.toL.set i.toNat v) x
theorem y5.setL (f : α → A) (x : y5 α) (i : Int) (v : α) : (x.toL.map f).set i.toNat (f v) = ((y5.setI x i v).toL).map f := by
 unfold y5.setI
 rw [y5.toL_ofL _ _ (by simp [y5.toL]), List.map_set]
end
structure z2y (α : Type) where
 e0 : α
 e1 : α
 e2 : α
 e3 : α
 e4 : α
 deriving DecidableEq
section
variable {α : Type}
def YU (f : α → A) (x : z2y α) : A := .agg [f x.e0, f x.e1, f x.e2, f x.e3, f x.e4]
instance (f g : α → A) [h : qp f g] : qp (YU f) (YU g) := ⟨fun x => by simp [YU, A.loose, A.looses, h.lo]⟩
instance (f : α → A) [h : wC f] : wC (YU f) := ⟨fun x y q => by
 simp only [YU, A.agg.injEq, List.cons.injEq, and_true] at q
 cases x; cases y
 simp only [z2y.mk.injEq]
 exact ⟨h.inj _ _ q.1, h.inj _ _ q.2.1, h.inj _ _ q.2.2.1, h.inj _ _ q.2.2.2.1, h.inj _ _ q.2.2.2.2⟩⟩
end
structure xx where
 States : Int
 Final : Int
 Arcs : List (z2y Int)
def uk (f0 : Int → A) (f1 : Int → A) (f2 : List (z2y Int) → A) (x : xx) : A := .agg [f0 x.States, f1 x.Final, f2 x.Arcs]
instance (f0 : Int → A) (f1 : Int → A) (f2 : List (z2y Int) → A) (g0 : Int → A) (g1 : Int → A) (g2 : List (z2y Int) → A) [h0 : qp f0 g0] [h1 : qp f1 g1] [h2 : qp f2 g2] : qp (uk f0 f1 f2) (uk g0 g1 g2) := ⟨fun x => by simp [uk, A.loose, A.looses, h0.lo, h1.lo, h2.lo]⟩
instance (f0 : Int → A) (f1 : Int → A) (f2 : List (z2y Int) → A) [h0 : wC f0] [h1 : wC f1] [h2 : wC f2] : wC (uk f0 f1 f2) := ⟨fun x y h => by
 simp only [uk, A.agg.injEq, List.cons.injEq, and_true] at h
 cases x; cases y
 simp only [xx.mk.injEq]
 exact ⟨h0.inj _ _ h.1, h1.inj _ _ h.2.1, h2.inj _ _ h.2.2⟩⟩
structure ya where
 Channels : z65 Int
 Parts : List xx
def kj (f0 : z65 Int → A) (f1 : List xx → A) (x : ya) : A := .agg [f0 x.Channels, f1 x.Parts]
instance (f0 : z65 Int → A) (f1 : List xx → A) (g0 : z65 Int → A) (g1 : List xx → A) [h0 : qp f0 g0] [h1 : qp f1 g1] : qp (kj f0 f1) (kj g0 g1) := ⟨fun x => by simp [kj, A.loose, A.looses, h0.lo, h1.lo]⟩
instance (f0 : z65 Int → A) (f1 : List xx → A) [h0 : wC f0] [h1 : wC f1] : wC (kj f0 f1) := ⟨fun x y h => by
 simp only [kj, A.agg.injEq, List.cons.injEq, and_true] at h
 cases x; cases y
 simp only [ya.mk.injEq]
 exact ⟨h0.inj _ _ h.1, h1.inj _ _ h.2⟩⟩
structure ze where
 From : Int
 Kind : Int
 Channel : Int
 Message : Int
 To : Int
def xy (f0 : Int → A) (f1 : Int → A) (f2 : Int → A) (f3 : Int → A) (f4 : Int → A) (x : ze) : A := .agg [f0 x.From, f1 x.Kind, f2 x.Channel, f3 x.Message, f4 x.To]
instance (f0 : Int → A) (f1 : Int → A) (f2 : Int → A) (f3 : Int → A) (f4 : Int → A) [h0 : X9 f0] [h1 : X9 f1] [h2 : X9 f2] [h3 : X9 f3] [h4 : X9 f4] : X9 (xy f0 f1 f2 f3 f4) := ⟨fun x => by simp [xy, A.isD, A.areD, h0.isD, h1.isD, h2.isD, h3.isD, h4.isD]⟩
instance (f0 : Int → A) (f1 : Int → A) (f2 : Int → A) (f3 : Int → A) (f4 : Int → A) (g0 : Int → A) (g1 : Int → A) (g2 : Int → A) (g3 : Int → A) (g4 : Int → A) [h0 : qp f0 g0] [h1 : qp f1 g1] [h2 : qp f2 g2] [h3 : qp f3 g3] [h4 : qp f4 g4] : qp (xy f0 f1 f2 f3 f4) (xy g0 g1 g2 g3 g4) := ⟨fun x => by simp [xy, A.loose, A.looses, h0.lo, h1.lo, h2.lo, h3.lo, h4.lo]⟩
instance (f0 : Int → A) (f1 : Int → A) (f2 : Int → A) (f3 : Int → A) (f4 : Int → A) (g0 : Int → A) (g1 : Int → A) (g2 : Int → A) (g3 : Int → A) (g4 : Int → A) [h0 : YM f0 g0] [h1 : YM f1 g1] [h2 : YM f2 g2] [h3 : YM f3 g3] [h4 : YM f4 g4] : YM (xy f0 f1 f2 f3 f4) (xy g0 g1 g2 g3 g4) := ⟨fun x => by simp [xy, A.live, A.lives, h0.live, h1.live, h2.live, h3.live, h4.live], fun x => by simp [xy, A.shut, A.shuts, h0.sh, h1.sh, h2.sh, h3.sh, h4.sh]⟩
instance (f0 : Int → A) (f1 : Int → A) (f2 : Int → A) (f3 : Int → A) (f4 : Int → A) [h0 : wC f0] [h1 : wC f1] [h2 : wC f2] [h3 : wC f3] [h4 : wC f4] : wC (xy f0 f1 f2 f3 f4) := ⟨fun x y h => by
 simp only [xy, A.agg.injEq, List.cons.injEq, and_true] at h
 cases x; cases y
 simp only [ze.mk.injEq]
 exact ⟨h0.inj _ _ h.1, h1.inj _ _ h.2.1, h2.inj _ _ h.2.2.1, h3.inj _ _ h.2.2.2.1, h4.inj _ _ h.2.2.2.2⟩⟩
structure zh where
 States : Int
 Arcs : List ze
 Final : List Int
def yI (f0 : Int → A) (f1 : List ze → A) (f2 : List Int → A) (x : zh) : A := .agg [f0 x.States, f1 x.Arcs, f2 x.Final]
instance (f0 : Int → A) (f1 : List ze → A) (f2 : List Int → A) [h : zb9 f2] : zb9 (yI f0 f1 f2) := ⟨fun x => by simp [yI, A.isD, A.areD, h.no]⟩
instance (f0 : Int → A) (f1 : List ze → A) (f2 : List Int → A) (g0 : Int → A) (g1 : List ze → A) (g2 : List Int → A) [h0 : qp f0 g0] [h1 : qp f1 g1] [h2 : qp f2 g2] : qp (yI f0 f1 f2) (yI g0 g1 g2) := ⟨fun x => by simp [yI, A.loose, A.looses, h0.lo, h1.lo, h2.lo]⟩
instance (f0 : Int → A) (f1 : List ze → A) (f2 : List Int → A) (g0 : Int → A) (g1 : List ze → A) (g2 : List Int → A) [h0 : YM f0 g0] [h1 : YM f1 g1] [h2 : YM f2 g2] : YM (yI f0 f1 f2) (yI g0 g1 g2) := ⟨fun x => by simp [yI, A.live, A.lives, h0.live, h1.live, h2.live], fun x => by simp [yI, A.shut, A.shuts, h0.sh, h1.sh, h2.sh]⟩
instance (f0 : Int → A) (f1 : List ze → A) (f2 : List Int → A) [h0 : wC f0] [h1 : wC f1] [h2 : wC f2] : wC (yI f0 f1 f2) := ⟨fun x y h => by
 simp only [yI, A.agg.injEq, List.cons.injEq, and_true] at h
 cases x; cases y
 simp only [zh.mk.injEq]
 exact ⟨h0.inj _ _ h.1, h1.inj _ _ h.2.1, h2.inj _ _ h.2.2⟩⟩
structure z8 where
 Messages : Int
 Labels : Int
 Channels : List Int
 Parts : List zh
def xa (f0 : Int → A) (f1 : Int → A) (f2 : List Int → A) (f3 : List zh → A) (x : z8) : A := .agg [f0 x.Messages, f1 x.Labels, f2 x.Channels, f3 x.Parts]
instance (f0 : Int → A) (f1 : Int → A) (f2 : List Int → A) (f3 : List zh → A) (g0 : Int → A) (g1 : Int → A) (g2 : List Int → A) (g3 : List zh → A) [h0 : qp f0 g0] [h1 : qp f1 g1] [h2 : qp f2 g2] [h3 : qp f3 g3] : qp (xa f0 f1 f2 f3) (xa g0 g1 g2 g3) := ⟨fun x => by simp [xa, A.loose, A.looses, h0.lo, h1.lo, h2.lo, h3.lo]⟩
instance (f0 : Int → A) (f1 : Int → A) (f2 : List Int → A) (f3 : List zh → A) [h0 : wC f0] [h1 : wC f1] [h2 : wC f2] [h3 : wC f3] : wC (xa f0 f1 f2 f3) := ⟨fun x y h => by
 simp only [xa, A.agg.injEq, List.cons.injEq, and_true] at h
 cases x; cases y
 simp only [z8.mk.injEq]
 exact ⟨h0.inj _ _ h.1, h1.inj _ _ h.2.1, h2.inj _ _ h.2.2.1, h3.inj _ _ h.2.2.2⟩⟩
structure z7 where
 States : List Int
 Queues : List (List Int)
def zI (f0 : List Int → A) (f1 : List (List Int) → A) (x : z7) : A := .agg [f0 x.States, f1 x.Queues]
instance (f0 : List Int → A) (f1 : List (List Int) → A) [h0 : X9 f0] [h1 : X9 f1] : X9 (zI f0 f1) := ⟨fun x => by simp [zI, A.isD, A.areD, h0.isD, h1.isD]⟩
instance (f0 : List Int → A) (f1 : List (List Int) → A) (g0 : List Int → A) (g1 : List (List Int) → A) [h0 : qp f0 g0] [h1 : qp f1 g1] : qp (zI f0 f1) (zI g0 g1) := ⟨fun x => by simp [zI, A.loose, A.looses, h0.lo, h1.lo]⟩
instance (f0 : List Int → A) (f1 : List (List Int) → A) (g0 : List Int → A) (g1 : List (List Int) → A) [h0 : YM f0 g0] [h1 : YM f1 g1] : YM (zI f0 f1) (zI g0 g1) := ⟨fun x => by simp [zI, A.live, A.lives, h0.live, h1.live], fun x => by simp [zI, A.shut, A.shuts, h0.sh, h1.sh]⟩
instance (f0 : List Int → A) (f1 : List (List Int) → A) [h0 : wC f0] [h1 : wC f1] : wC (zI f0 f1) := ⟨fun x y h => by
 simp only [zI, A.agg.injEq, List.cons.injEq, and_true] at h
 cases x; cases y
 simp only [z7.mk.injEq]
 exact ⟨h0.inj _ _ h.1, h1.inj _ _ h.2⟩⟩
instance (f0 : List Int → A) (f1 : List (List Int) → A) (g0 : List Int → A) (g1 : List (List Int) → A) (x : z7) [∀ y, LeA (f0 y) (g0 y)] [∀ y, LeA (f1 y) (g1 y)] [∀ y, SzA (f0 y) (g0 y)] [∀ y, SzA (f1 y) (g1 y)] : LeA (zI f0 f1 x) (zI g0 g1 x) := by unfold zI; infer_instance
instance (f0 : List Int → A) (f1 : List (List Int) → A) (g0 : List Int → A) (g1 : List (List Int) → A) (x y : z7) [∀ y z, SzA (f0 y) (g0 z)] [∀ y z, SzA (f1 y) (g1 z)] : SzA (zI f0 f1 x) (zI g0 g1 y) := by unfold zI; infer_instance
structure zc where
 Part : Int
 Arc : Int
 Other : Int
 With : Int
def xe (f0 : Int → A) (f1 : Int → A) (f2 : Int → A) (f3 : Int → A) (x : zc) : A := .agg [f0 x.Part, f1 x.Arc, f2 x.Other, f3 x.With]
instance (f0 : Int → A) (f1 : Int → A) (f2 : Int → A) (f3 : Int → A) [h0 : X9 f0] [h1 : X9 f1] [h2 : X9 f2] [h3 : X9 f3] : X9 (xe f0 f1 f2 f3) := ⟨fun x => by simp [xe, A.isD, A.areD, h0.isD, h1.isD, h2.isD, h3.isD]⟩
instance (f0 : Int → A) (f1 : Int → A) (f2 : Int → A) (f3 : Int → A) (g0 : Int → A) (g1 : Int → A) (g2 : Int → A) (g3 : Int → A) [h0 : qp f0 g0] [h1 : qp f1 g1] [h2 : qp f2 g2] [h3 : qp f3 g3] : qp (xe f0 f1 f2 f3) (xe g0 g1 g2 g3) := ⟨fun x => by simp [xe, A.loose, A.looses, h0.lo, h1.lo, h2.lo, h3.lo]⟩
instance (f0 : Int → A) (f1 : Int → A) (f2 : Int → A) (f3 : Int → A) (g0 : Int → A) (g1 : Int → A) (g2 : Int → A) (g3 : Int → A) [h0 : YM f0 g0] [h1 : YM f1 g1] [h2 : YM f2 g2] [h3 : YM f3 g3] : YM (xe f0 f1 f2 f3) (xe g0 g1 g2 g3) := ⟨fun x => by simp [xe, A.live, A.lives, h0.live, h1.live, h2.live, h3.live], fun x => by simp [xe, A.shut, A.shuts, h0.sh, h1.sh, h2.sh, h3.sh]⟩
instance (f0 : Int → A) (f1 : Int → A) (f2 : Int → A) (f3 : Int → A) [h0 : wC f0] [h1 : wC f1] [h2 : wC f2] [h3 : wC f3] : wC (xe f0 f1 f2 f3) := ⟨fun x y h => by
 simp only [xe, A.agg.injEq, List.cons.injEq, and_true] at h
 cases x; cases y
 simp only [zc.mk.injEq]
 exact ⟨h0.inj _ _ h.1, h1.inj _ _ h.2.1, h2.inj _ _ h.2.2.1, h3.inj _ _ h.2.2.2⟩⟩
structure zg where
 Move : zc
 To : z7
def Xm (f0 : zc → A) (f1 : z7 → A) (x : zg) : A := .agg [f0 x.Move, f1 x.To]
instance (f0 : zc → A) (f1 : z7 → A) [h0 : X9 f0] [h1 : X9 f1] : X9 (Xm f0 f1) := ⟨fun x => by simp [Xm, A.isD, A.areD, h0.isD, h1.isD]⟩
structure z6 where
 Move : zc
 To : Int
def xc (f0 : zc → A) (f1 : Int → A) (x : z6) : A := .agg [f0 x.Move, f1 x.To]
instance (f0 : zc → A) (f1 : Int → A) [h0 : X9 f0] [h1 : X9 f1] : X9 (xc f0 f1) := ⟨fun x => by simp [xc, A.isD, A.areD, h0.isD, h1.isD]⟩
instance (f0 : zc → A) (f1 : Int → A) (g0 : zc → A) (g1 : Int → A) [h0 : qp f0 g0] [h1 : qp f1 g1] : qp (xc f0 f1) (xc g0 g1) := ⟨fun x => by simp [xc, A.loose, A.looses, h0.lo, h1.lo]⟩
instance (f0 : zc → A) (f1 : Int → A) (g0 : zc → A) (g1 : Int → A) [h0 : YM f0 g0] [h1 : YM f1 g1] : YM (xc f0 f1) (xc g0 g1) := ⟨fun x => by simp [xc, A.live, A.lives, h0.live, h1.live], fun x => by simp [xc, A.shut, A.shuts, h0.sh, h1.sh]⟩
instance (f0 : zc → A) (f1 : Int → A) [h0 : wC f0] [h1 : wC f1] : wC (xc f0 f1) := ⟨fun x y h => by
 simp only [xc, A.agg.injEq, List.cons.injEq, and_true] at h
 cases x; cases y
 simp only [z6.mk.injEq]
 exact ⟨h0.inj _ _ h.1, h1.inj _ _ h.2⟩⟩
structure zi where
 many_ : Int
 l_ : y5 Int
instance : BEq zi := ⟨fun x y => (x.many_ == y.many_) && (x.l_ == y.l_)⟩
def ym (f0 : Int → A) (f1 : y5 Int → A) (x : zi) : A := .agg [f0 x.many_, f1 x.l_]
instance (f0 : Int → A) (f1 : y5 Int → A) [h0 : X9 f0] [h1 : X9 f1] : X9 (ym f0 f1) := ⟨fun x => by simp [ym, A.isD, A.areD, h0.isD, h1.isD]⟩
instance (f0 : Int → A) (f1 : y5 Int → A) (g0 : Int → A) (g1 : y5 Int → A) [h0 : qp f0 g0] [h1 : qp f1 g1] : qp (ym f0 f1) (ym g0 g1) := ⟨fun x => by simp [ym, A.loose, A.looses, h0.lo, h1.lo]⟩
instance (f0 : Int → A) (f1 : y5 Int → A) (g0 : Int → A) (g1 : y5 Int → A) [h0 : YM f0 g0] [h1 : YM f1 g1] : YM (ym f0 f1) (ym g0 g1) := ⟨fun x => by simp [ym, A.live, A.lives, h0.live, h1.live], fun x => by simp [ym, A.shut, A.shuts, h0.sh, h1.sh]⟩
instance (f0 : Int → A) (f1 : y5 Int → A) [h0 : wC f0] [h1 : wC f1] : wC (ym f0 f1) := ⟨fun x y h => by
 simp only [ym, A.agg.injEq, List.cons.injEq, and_true] at h
 cases x; cases y
 simp only [zi.mk.injEq]
 exact ⟨h0.inj _ _ h.1, h1.inj _ _ h.2⟩⟩
structure za where
 states_ : y5 Int
 queues_ : y5 zi
instance : BEq za := ⟨fun x y => (x.states_ == y.states_) && (x.queues_ == y.queues_)⟩
def yH (f0 : y5 Int → A) (f1 : y5 zi → A) (x : za) : A := .agg [f0 x.states_, f1 x.queues_]
instance (f0 : y5 Int → A) (f1 : y5 zi → A) [h0 : X9 f0] [h1 : X9 f1] : X9 (yH f0 f1) := ⟨fun x => by simp [yH, A.isD, A.areD, h0.isD, h1.isD]⟩
instance (f0 : y5 Int → A) (f1 : y5 zi → A) (g0 : y5 Int → A) (g1 : y5 zi → A) [h0 : qp f0 g0] [h1 : qp f1 g1] : qp (yH f0 f1) (yH g0 g1) := ⟨fun x => by simp [yH, A.loose, A.looses, h0.lo, h1.lo]⟩
instance (f0 : y5 Int → A) (f1 : y5 zi → A) (g0 : y5 Int → A) (g1 : y5 zi → A) [h0 : YM f0 g0] [h1 : YM f1 g1] : YM (yH f0 f1) (yH g0 g1) := ⟨fun x => by simp [yH, A.live, A.lives, h0.live, h1.live], fun x => by simp [yH, A.shut, A.shuts, h0.sh, h1.sh]⟩
instance (f0 : y5 Int → A) (f1 : y5 zi → A) [h0 : wC f0] [h1 : wC f1] : wC (yH f0 f1) := ⟨fun x y h => by
 simp only [yH, A.agg.injEq, List.cons.injEq, and_true] at h
 cases x; cases y
 simp only [za.mk.injEq]
 exact ⟨h0.inj _ _ h.1, h1.inj _ _ h.2⟩⟩
structure zf where
 Kind : Int
 Label : Int
 To : Int
 deriving DecidableEq
def wt (f0 : Int → A) (f1 : Int → A) (f2 : Int → A) (x : zf) : A := .agg [f0 x.Kind, f1 x.Label, f2 x.To]
instance (f0 : Int → A) (f1 : Int → A) (f2 : Int → A) [h0 : X9 f0] [h1 : X9 f1] [h2 : X9 f2] : X9 (wt f0 f1 f2) := ⟨fun x => by simp [wt, A.isD, A.areD, h0.isD, h1.isD, h2.isD]⟩
instance (f0 : Int → A) (f1 : Int → A) (f2 : Int → A) (g0 : Int → A) (g1 : Int → A) (g2 : Int → A) [h0 : qp f0 g0] [h1 : qp f1 g1] [h2 : qp f2 g2] : qp (wt f0 f1 f2) (wt g0 g1 g2) := ⟨fun x => by simp [wt, A.loose, A.looses, h0.lo, h1.lo, h2.lo]⟩
instance (f0 : Int → A) (f1 : Int → A) (f2 : Int → A) (g0 : Int → A) (g1 : Int → A) (g2 : Int → A) [h0 : YM f0 g0] [h1 : YM f1 g1] [h2 : YM f2 g2] : YM (wt f0 f1 f2) (wt g0 g1 g2) := ⟨fun x => by simp [wt, A.live, A.lives, h0.live, h1.live, h2.live], fun x => by simp [wt, A.shut, A.shuts, h0.sh, h1.sh, h2.sh]⟩
instance (f0 : Int → A) (f1 : Int → A) (f2 : Int → A) [h0 : wC f0] [h1 : wC f1] [h2 : wC f2] : wC (wt f0 f1 f2) := ⟨fun x y h => by
 simp only [wt, A.agg.injEq, List.cons.injEq, and_true] at h
 cases x; cases y
 simp only [zf.mk.injEq]
 exact ⟨h0.inj _ _ h.1, h1.inj _ _ h.2.1, h2.inj _ _ h.2.2⟩⟩
structure zF where
 Inputs : Int
 Outputs : Int
 Rows : List (List zf)
def wF (f0 : Int → A) (f1 : Int → A) (f2 : List (List zf) → A) (x : zF) : A := .agg [f0 x.Inputs, f1 x.Outputs, f2 x.Rows]
instance (f0 : Int → A) (f1 : Int → A) (f2 : List (List zf) → A) (g0 : Int → A) (g1 : Int → A) (g2 : List (List zf) → A) [h0 : qp f0 g0] [h1 : qp f1 g1] [h2 : qp f2 g2] : qp (wF f0 f1 f2) (wF g0 g1 g2) := ⟨fun x => by simp [wF, A.loose, A.looses, h0.lo, h1.lo, h2.lo]⟩
instance (f0 : Int → A) (f1 : Int → A) (f2 : List (List zf) → A) [h0 : wC f0] [h1 : wC f1] [h2 : wC f2] : wC (wF f0 f1 f2) := ⟨fun x y h => by
 simp only [wF, A.agg.injEq, List.cons.injEq, and_true] at h
 cases x; cases y
 simp only [zF.mk.injEq]
 exact ⟨h0.inj _ _ h.1, h1.inj _ _ h.2.1, h2.inj _ _ h.2.2⟩⟩
structure zu where
 from_ : Int
 move_ : zc
def Ut (f0 : Int → A) (f1 : zc → A) (x : zu) : A := .agg [f0 x.from_, f1 x.move_]
instance : ze7 (K := za) (yH (Xn (eI .i64)) (Xn (ym (eI .i64) (Xn (eI .i64))))) := ⟨fun x y => by
 obtain ⟨⟨_, _, _, _⟩, ⟨⟨_, ⟨_, _, _, _⟩⟩, ⟨_, ⟨_, _, _, _⟩⟩, ⟨_, ⟨_, _, _, _⟩⟩, ⟨_, ⟨_, _, _, _⟩⟩⟩⟩ := x
 obtain ⟨⟨_, _, _, _⟩, ⟨⟨_, ⟨_, _, _, _⟩⟩, ⟨_, ⟨_, _, _, _⟩⟩, ⟨_, ⟨_, _, _, _⟩⟩, ⟨_, ⟨_, _, _, _⟩⟩⟩⟩ := y
 simp only [Xn, ym, yH, eI, Ur, JC, JC.keyLs, y9, BEq.beq, Option.map_some, Option.some.injEq, Value.agg.injEq, List.cons_append, List.nil_append, List.append_nil, Array.mk.injEq, List.cons.injEq, Value.int.injEq, true_and, and_true, Bool.and_eq_true, decide_eq_true_eq, and_assoc]⟩
def Yu (x_ : ya) (out_Parts : List zh) : Option z8 :=
 some (z8.mk 2 2 ([w64 (Int.tmod x_.Channels.e0 3), w64 (Int.tmod x_.Channels.e1 3)]) out_Parts)
def kJ (i_ : Int) (out_Parts2 : List zh) : Option (LR (List zh × Int) (List zh)) :=
 some (.next (out_Parts2, w64 (i_ + 1)))
def qa (out_Parts1 : List zh) (i_ : Int) (p_States : Int) (p_Arcs : List ze) (p_Final : List Int) : Option (LR (List zh × Int) (List zh)) :=
 gd (out_Parts1.length + ([(zh.mk p_States p_Arcs p_Final)] : List zh).length ≤ 4294967296) <|
 kJ i_ (out_Parts1 ++ ([(zh.mk p_States p_Arcs p_Final)] : List zh))
def uZ (Part_e : xx) (p_Arcs1 : List ze) (k_ : Int) (Arc_e : z2y Int) (arc_Channel : Int) : Option (LR (List ze × Int) ((Int × List ze × List Int))) :=
 gd (p_Arcs1.length + ([(ze.mk (Int.tmod (w64 (Arc_e.e0)) (w64 (1 + (w64 (Int.tmod Part_e.States 3))))) (Int.tmod Arc_e.e1 3) arc_Channel (w64 (Int.tmod Arc_e.e3 2)) (Int.tmod (w64 (Arc_e.e4)) (w64 (1 + (w64 (Int.tmod Part_e.States 3))))))] : List ze).length ≤ 4294967296) <|
 some (.next ((p_Arcs1 ++ ([(ze.mk (Int.tmod (w64 (Arc_e.e0)) (w64 (1 + (w64 (Int.tmod Part_e.States 3))))) (Int.tmod Arc_e.e1 3) arc_Channel (w64 (Int.tmod Arc_e.e3 2)) (Int.tmod (w64 (Arc_e.e4)) (w64 (1 + (w64 (Int.tmod Part_e.States 3))))))] : List ze)), w64 (k_ + 1)))
def jG (Part_e : xx) (p_Final1 : List Int) (p_Arcs1 : List ze) (k_ : Int) : Option (LR (List ze × Int) ((Int × List ze × List Int))) :=
 bif decide (k_ < ((Part_e.Arcs.length : Nat) : Int)) then (
  bif decide (k_ < 6) then (
   Option.bind (idx Part_e.Arcs k_) fun Arc_e =>
   gd (((w64 (1 + (w64 (Int.tmod Part_e.States 3)))) : Int) ≠ 0) <|
   gd ((3 : Int) ≠ 0) <|
   gd ((2 : Int) ≠ 0) <|
   gd ((2 : Int) ≠ 0) <|
   gd (((w64 (1 + (w64 (Int.tmod Part_e.States 3)))) : Int) ≠ 0) <|
   bif (Int.tmod Arc_e.e1 3) == 0 then (
    uZ Part_e p_Arcs1 k_ Arc_e 0)
   else (
    uZ Part_e p_Arcs1 k_ Arc_e (w64 (Int.tmod Arc_e.e2 2))))
  else (
   some (.done (w64 (1 + (w64 (Int.tmod Part_e.States 3))), p_Arcs1, p_Final1))))
 else (
  some (.done (w64 (1 + (w64 (Int.tmod Part_e.States 3))), p_Arcs1, p_Final1)))
def kI (out_Parts1 : List zh) (i_ : Int) (Part_e : xx) (p_Final1 : List Int) : Option (LR (List zh × Int) (List zh)) :=
 Option.bind (loop (fun s => jG Part_e p_Final1 s.1 s.2) (([] : List ze), 0)) fun t7 =>
 qa out_Parts1 i_ t7.1 t7.2.1 t7.2.2
def qG (s_ : Int) (p_Final3 : List Int) : Option (LR (List Int × Int) (List Int)) :=
 some (.next (p_Final3, w64 (s_ + 1)))
def jF (Part_e : xx) (p_Final2 : List Int) (s_ : Int) : Option (LR (List Int × Int) (List Int)) :=
 bif decide (s_ < (w64 (1 + (w64 (Int.tmod Part_e.States 3))))) then (
  gd ((0 : Int) ≤ IntKind.u64.wrap (s_)) <|
  bif (zb4 .u8 (Int.fdiv Part_e.Final (2 ^ (min (IntKind.u64.wrap (s_)).toNat 8))) 1) == 1 then (
   gd (p_Final2.length + ([s_] : List Int).length ≤ 4294967296) <|
   qG s_ (p_Final2 ++ ([s_] : List Int)))
  else (
   qG s_ p_Final2))
 else (
  some (.done p_Final2))
def u7 (x_ : ya) (out_Parts1 : List zh) (i_ : Int) (x34 : Bool) : Option (LR (List zh × Int) (List zh)) :=
 bif decide (i_ < ((x_.Parts.length : Nat) : Int)) then (
  Option.bind (idx x_.Parts i_) fun Part_e =>
  gd ((3 : Int) ≠ 0) <|
  Option.bind (loop (fun s => jF Part_e s.1 s.2) (([] : List Int), 0)) fun t9 =>
  kI out_Parts1 i_ Part_e t9)
 else (
  qa out_Parts1 i_ 1 ([] : List ze) ([] : List Int))
def jH (x_ : ya) (out_Parts1 : List zh) (i_ : Int) : Option (LR (List zh × Int) (List zh)) :=
 bif decide (i_ < 3) then (
  bif decide (i_ < ((x_.Parts.length : Nat) : Int)) then (
   u7 x_ out_Parts1 i_ true)
  else (
   bif i_ == 0 then (
    u7 x_ out_Parts1 i_ (i_ == 0))
   else (
    some (.done out_Parts1))))
 else (
  some (.done out_Parts1))
def Y8 (x_ : ya) : Option z8 :=
 gd ((3 : Int) ≠ 0) <|
 gd ((3 : Int) ≠ 0) <|
 Option.bind (loop (fun s => jH x_ s.1 s.2) (([] : List zh), 0)) fun t2 =>
 Yu x_ t2
def Zb (x_ : z8) : Option z7 :=
 gd ((0 : Int) ≤ ((x_.Parts.length : Nat) : Int) ∧ (((x_.Parts.length : Nat) : Int) : Int) ≤ 4294967296) <|
 gd ((0 : Int) ≤ ((x_.Channels.length : Nat) : Int) ∧ (((x_.Channels.length : Nat) : Int) : Int) ≤ 4294967296) <|
 some (z7.mk (List.replicate ((x_.Parts.length : Nat) : Int).toNat (0 : Int)) (List.replicate ((x_.Channels.length : Nat) : Int).toNat ([] : List Int)))
def Yp (out_States : List Int) (out_Queues : List (List Int)) : Option z7 :=
 some (z7.mk out_States out_Queues)
def jD (out_Queues1 : List (List Int)) (i_ : Int) (q_ : List Int) : Option (LR (List (List Int) × Int) (List (List Int))) :=
 gd (out_Queues1.length + ([q_] : List (List Int)).length ≤ 4294967296) <|
 some (.next ((out_Queues1 ++ ([q_] : List (List Int))), w64 (i_ + 1)))
def uX (c_ : z7) (channel : Int) (queue : List Int) (out_Queues1 : List (List Int)) (i_ : Int) : Option (LR (List (List Int) × Int) (List (List Int))) :=
 bif decide (i_ < ((c_.Queues.length : Nat) : Int)) then (
  Option.bind (idx c_.Queues i_) fun Queue_e =>
  bif i_ == channel then (
   jD out_Queues1 i_ queue)
  else (
   jD out_Queues1 i_ Queue_e))
 else (
  some (.done out_Queues1))
def kG (c_ : z7) (channel : Int) (queue : List Int) (out_States : List Int) : Option z7 :=
 Option.bind (loop (fun s => uX c_ channel queue s.1 s.2) (([] : List (List Int)), 0)) fun t3 =>
 Yp out_States t3
def jC (out_States1 : List Int) (i_1 : Int) (n_ : Int) : Option (LR (List Int × Int) (List Int)) :=
 gd (out_States1.length + ([n_] : List Int).length ≤ 4294967296) <|
 some (.next ((out_States1 ++ ([n_] : List Int)), w64 (i_1 + 1)))
def uW (c_ : z7) (part : Int) (state : Int) (out_States1 : List Int) (i_1 : Int) : Option (LR (List Int × Int) (List Int)) :=
 bif decide (i_1 < ((c_.States.length : Nat) : Int)) then (
  Option.bind (idx c_.States i_1) fun State_e =>
  bif i_1 == part then (
   jC out_States1 i_1 state)
  else (
   jC out_States1 i_1 State_e))
 else (
  some (.done out_States1))
def uY (c_ : z7) (part : Int) (state : Int) (channel : Int) (queue : List Int) : Option z7 :=
 Option.bind (loop (fun s => uW c_ part state s.1 s.2) (([] : List Int), 0)) fun t5 =>
 kG c_ channel queue t5
def ZQ (out : List zg) : Option (List zg) :=
 some out
def jZ (p_ : Int) (out2 : List zg) : Option (LR (List zg × Int) (List zg)) :=
 some (.next (out2, w64 (p_ + 1)))
def vb (i_ : Int) (out4 : List zg) : Option (LR (List zg × Int) (List zg)) :=
 some (.next (out4, w64 (i_ + 1)))
def jY (o_ : Int) (out8 : List zg) : Option (LR (List zg × Int) (List zg)) :=
 some (.next (out8, w64 (o_ + 1)))
def wk (k_ : Int) (out10 : List zg) : Option (LR (List zg × Int) (List zg)) :=
 some (.next (out10, w64 (k_ + 1)))
def wj (x_ : z8) (c_ : z7) (p_ : Int) (i_ : Int) (Arc_e : ze) (o_ : Int) (out9 : List zg) (k_ : Int) : Option (LR (List zg × Int) (List zg)) :=
 Option.bind (idx x_.Parts o_) fun Part_e2 =>
 bif decide (k_ < ((Part_e2.Arcs.length : Nat) : Int)) then (
  bif o_ != p_ then (
   Option.bind (idx x_.Parts o_) fun Part_e3 =>
   Option.bind (idx Part_e3.Arcs k_) fun Arc_e1 =>
   bif Arc_e1.Kind == 2 then (
    Option.bind (idx c_.States o_) fun State_e1 =>
    bif Arc_e1.From == State_e1 then (
     bif Arc_e1.Channel == Arc_e.Channel then (
      bif Arc_e1.Message == Arc_e.Message then (
       Option.bind (uY c_ p_ Arc_e.To (-1) []) fun r_1 =>
       Option.bind (uY r_1 o_ Arc_e1.To (-1) []) fun r_2 =>
       gd (out9.length + ([(zg.mk (zc.mk p_ i_ o_ k_) r_2)] : List zg).length ≤ 4294967296) <|
       wk k_ (out9 ++ ([(zg.mk (zc.mk p_ i_ o_ k_) r_2)] : List zg)))
      else (
       wk k_ out9))
     else (
      wk k_ out9))
    else (
     wk k_ out9))
   else (
    wk k_ out9))
  else (
   some (.done out9)))
 else (
  some (.done out9))
def wb (x_ : z8) (c_ : z7) (p_ : Int) (i_ : Int) (Arc_e : ze) (Channel_e : Int) (out7 : List zg) (o_ : Int) : Option (LR (List zg × Int) (List zg)) :=
 bif decide (o_ < ((x_.Parts.length : Nat) : Int)) then (
  bif Arc_e.Kind == 1 then (
   bif Channel_e == 0 then (
    Option.bind (loop (fun s => wj x_ c_ p_ i_ Arc_e o_ s.1 s.2) (out7, 0)) fun t10 =>
    jY o_ t10)
   else (
    some (.done out7)))
  else (
   some (.done out7)))
 else (
  some (.done out7))
def wc (x_ : z8) (c_ : z7) (p_ : Int) (i_ : Int) (Arc_e : ze) (Channel_e : Int) (out6 : List zg) : Option (LR (List zg × Int) (List zg)) :=
 Option.bind (loop (fun s => wb x_ c_ p_ i_ Arc_e Channel_e s.1 s.2) (out6, 0)) fun t8 =>
 vb i_ t8
def wz (x_ : z8) (c_ : z7) (p_ : Int) (i_ : Int) (Arc_e : ze) (Queue_e : List Int) (Channel_e : Int) (out5 : List zg) : Option (LR (List zg × Int) (List zg)) :=
 bif Arc_e.Kind == 2 then (
  bif decide (((Queue_e.length : Nat) : Int) > 0) then (
   Option.bind (idx Queue_e 0) fun Queue_e_e =>
   bif Queue_e_e == Arc_e.Message then (
    gd ((0 : Int) ≤ 1 ∧ (1 : Int) ≤ ((Queue_e.length : Nat) : Int) ∧ (((Queue_e.length : Nat) : Int) : Int) ≤ ((Queue_e.length : Nat) : Int)) <|
    Option.bind (uY c_ p_ Arc_e.To Arc_e.Channel (Queue_e.drop (1 : Int).toNat)) fun r_3 =>
    gd (out5.length + ([(zg.mk (zc.mk p_ i_ (-1) (-1)) r_3)] : List zg).length ≤ 4294967296) <|
    wc x_ c_ p_ i_ Arc_e Channel_e (out5 ++ ([(zg.mk (zc.mk p_ i_ (-1) (-1)) r_3)] : List zg)))
   else (
    wc x_ c_ p_ i_ Arc_e Channel_e out5))
  else (
   wc x_ c_ p_ i_ Arc_e Channel_e out5))
 else (
  wc x_ c_ p_ i_ Arc_e Channel_e out5)
def uo (x_ : z8) (c_ : z7) (p_ : Int) (out3 : List zg) (i_ : Int) : Option (LR (List zg × Int) (List zg)) :=
 Option.bind (idx x_.Parts p_) fun Part_e =>
 bif decide (i_ < ((Part_e.Arcs.length : Nat) : Int)) then (
  Option.bind (idx x_.Parts p_) fun Part_e1 =>
  Option.bind (idx Part_e1.Arcs i_) fun Arc_e =>
  Option.bind (idx c_.States p_) fun State_e =>
  bif Arc_e.From != State_e then (
   vb i_ out3)
  else (
   bif Arc_e.Kind == 0 then (
    Option.bind (uY c_ p_ Arc_e.To (-1) []) fun r_ =>
    gd (out3.length + ([(zg.mk (zc.mk p_ i_ (-1) (-1)) r_)] : List zg).length ≤ 4294967296) <|
    vb i_ (out3 ++ ([(zg.mk (zc.mk p_ i_ (-1) (-1)) r_)] : List zg)))
   else (
    Option.bind (idx c_.Queues Arc_e.Channel) fun Queue_e =>
    Option.bind (idx x_.Channels Arc_e.Channel) fun Channel_e =>
    bif Arc_e.Kind == 1 then (
     bif decide (((Queue_e.length : Nat) : Int) < Channel_e) then (
      gd (([] : List Int).length + Queue_e.length ≤ 4294967296) <|
      gd (Queue_e.length + ([Arc_e.Message] : List Int).length ≤ 4294967296) <|
      Option.bind (uY c_ p_ Arc_e.To Arc_e.Channel (Queue_e ++ ([Arc_e.Message] : List Int))) fun r_4 =>
      gd (out3.length + ([(zg.mk (zc.mk p_ i_ (-1) (-1)) r_4)] : List zg).length ≤ 4294967296) <|
      wz x_ c_ p_ i_ Arc_e Queue_e Channel_e (out3 ++ ([(zg.mk (zc.mk p_ i_ (-1) (-1)) r_4)] : List zg)))
     else (
      wz x_ c_ p_ i_ Arc_e Queue_e Channel_e out3))
    else (
     wz x_ c_ p_ i_ Arc_e Queue_e Channel_e out3))))
 else (
  some (.done out3))
def up (x_ : z8) (c_ : z7) (out1 : List zg) (p_ : Int) : Option (LR (List zg × Int) (List zg)) :=
 bif decide (p_ < ((x_.Parts.length : Nat) : Int)) then (
  Option.bind (loop (fun s => uo x_ c_ p_ s.1 s.2) (out1, 0)) fun t4 =>
  jZ p_ t4)
 else (
  some (.done out1))
def kZ (x_ : z8) (c_ : z7) : Option (List zg) :=
 Option.bind (loop (fun s => up x_ c_ s.1 s.2) (([] : List zg), 0)) fun t2 =>
 ZQ t2
def Zc : Option Int :=
 some 0
def uQ (a_ : List Int) (b_ : List Int) (i_ : Int) : Option (LR Int (Unit ⊕ Int)) :=
 bif decide (i_ < ((a_.length : Nat) : Int)) then (
  Option.bind (idx a_ i_) fun a__e =>
  Option.bind (idx b_ i_) fun b__e =>
  bif a__e != b__e then (
   Option.bind (idx a_ i_) fun a__e1 =>
   Option.bind (idx b_ i_) fun b__e1 =>
   bif decide (a__e1 < b__e1) then (
    some (.done (.inr 1)))
   else (
    some (.done (.inr 0))))
  else (
   some (.next (w64 (i_ + 1)))))
 else (
  some (.done (.inl ())))
def j8 (a_ : List Int) (b_ : List Int) : Option Int :=
 bif ((a_.length : Nat) : Int) != ((b_.length : Nat) : Int) then (
  bif decide (((a_.length : Nat) : Int) < ((b_.length : Nat) : Int)) then (
   some 1)
  else (
   some 0))
 else (
  Option.bind (loop (fun s => uQ a_ b_ s) 0) fun t2 =>
  match t2 with
  | .inl p => Zc
  | .inr p => some p)
def kQ (a_ : List Int) (b_ : List Int) : Option Int :=
 bif ((a_.length : Nat) : Int) != ((b_.length : Nat) : Int) then (
  some 0)
 else (
  Option.bind (j8 a_ b_) fun r_ =>
  bif r_ == 1 then (
   some 0)
  else (
   Option.bind (j8 b_ a_) fun r_1 =>
   bif r_1 == 1 then (
    some 0)
   else (
    some 1)))
def Yq : Option Int :=
 some 1
def jE (a_ : z7) (b_ : z7) (i_ : Int) : Option (LR Int (Unit ⊕ Int)) :=
 bif decide (i_ < ((a_.Queues.length : Nat) : Int)) then (
  Option.bind (idx a_.Queues i_) fun Queue_e =>
  Option.bind (idx b_.Queues i_) fun Queue_e1 =>
  Option.bind (kQ Queue_e Queue_e1) fun r_1 =>
  bif r_1 == 0 then (
   some (.done (.inr 0)))
  else (
   some (.next (w64 (i_ + 1)))))
 else (
  some (.done (.inl ())))
def j5 (a_ : z7) (b_ : z7) : Option Int :=
 Option.bind (kQ a_.States b_.States) fun r_ =>
 bif r_ == 0 then (
  some 0)
 else (
  bif ((a_.Queues.length : Nat) : Int) != ((b_.Queues.length : Nat) : Int) then (
   some 0)
  else (
   Option.bind (loop (fun s => jE a_ b_ s) 0) fun t2 =>
   match t2 with
   | .inl p => Yq
   | .inr p => some p))
def ZR (list : List z7) (steps : List (List z6)) : Option (List z7 × List (List z6)) :=
 some (list, steps)
def ka (n_ : Int) (list2 : List z7) (steps2 : List (List z6)) : Option (LR (List z7 × List (List z6) × Int) ((List z7 × List (List z6)))) :=
 some (.next (list2, steps2, w64 (n_ + 1)))
def k9 (steps1 : List (List z6)) (n_ : Int) (list3 : List z7) (l_ : List z6) : Option (LR (List z7 × List (List z6) × Int) ((List z7 × List (List z6)))) :=
 gd (steps1.length + ([l_] : List (List z6)).length ≤ 4294967296) <|
 ka n_ list3 (steps1 ++ ([l_] : List (List z6)))
def k8 (i_ : Int) (list5 : List z7) (l_2 : List z6) : Option (LR (List z7 × List z6 × Int) ((List z7 × List z6))) :=
 some (.next (list5, l_2, w64 (i_ + 1)))
def qA (r_1 : List zg) (l_1 : List z6) (i_ : Int) (k_ : Int) (list6 : List z7) : Option (LR (List z7 × List z6 × Int) ((List z7 × List z6))) :=
 Option.bind (idx r_1 i_) fun r__e =>
 gd (l_1.length + ([(z6.mk r__e.Move k_)] : List z6).length ≤ 4294967296) <|
 k8 i_ list6 (l_1 ++ ([(z6.mk r__e.Move k_)] : List z6))
def k7 (r_1 : List zg) (list4 : List z7) (l_1 : List z6) (i_ : Int) (k_ : Int) : Option (LR (List z7 × List z6 × Int) ((List z7 × List z6))) :=
 bif k_ == ((list4.length : Nat) : Int) then (
  Option.bind (idx r_1 i_) fun r__e1 =>
  gd (list4.length + ([r__e1.To] : List z7).length ≤ 4294967296) <|
  qA r_1 l_1 i_ k_ (list4 ++ ([r__e1.To] : List z7)))
 else (
  qA r_1 l_1 i_ k_ list4)
def uq (r_1 : List zg) (list4 : List z7) (i_ : Int) (k_1 : Int) : Option (LR Int Int) :=
 bif decide (k_1 < ((list4.length : Nat) : Int)) then (
  Option.bind (idx list4 k_1) fun list_e1 =>
  Option.bind (idx r_1 i_) fun r__e2 =>
  Option.bind (j5 list_e1 r__e2.To) fun r_2 =>
  bif r_2 == 0 then (
   some (.next (w64 (k_1 + 1))))
  else (
   some (.done k_1)))
 else (
  some (.done k_1))
def ur (r_1 : List zg) (list4 : List z7) (l_1 : List z6) (i_ : Int) : Option (LR (List z7 × List z6 × Int) ((List z7 × List z6))) :=
 bif decide (i_ < ((r_1.length : Nat) : Int)) then (
  Option.bind (loop (fun s => uq r_1 list4 i_ s) 0) fun t9 =>
  k7 r_1 list4 l_1 i_ t9)
 else (
  some (.done (list4, l_1)))
def qw (x_ : z8) (most : Int) (list1 : List z7) (steps1 : List (List z6)) (n_ : Int) : Option (LR (List z7 × List (List z6) × Int) ((List z7 × List (List z6)))) :=
 bif decide (n_ < ((list1.length : Nat) : Int)) then (
  bif decide (((list1.length : Nat) : Int) ≤ most) then (
   Option.bind (idx list1 n_) fun list_e =>
   Option.bind (kZ x_ list_e) fun r_1 =>
   Option.bind (loop (fun s => ur r_1 s.1 s.2.1 s.2.2) (list1, ([] : List z6), 0)) fun t5 =>
   k9 steps1 n_ t5.1 t5.2)
  else (
   some (.done (list1, steps1))))
 else (
  some (.done (list1, steps1)))
def Za (x_ : z8) (most : Int) : Option (List z7 × List (List z6)) :=
 Option.bind (Zb x_) fun r_ =>
 Option.bind (loop (fun s => qw x_ most s.1 s.2.1 s.2.2) (([r_] : List z7), ([] : List (List z6)), 0)) fun t2 =>
 ZR t2.1 t2.2
def Y7 (capacity : Int) (arcs : List ze) : Option z8 :=
 some (z8.mk 1 1 ([capacity]) ([(zh.mk 2 ([(ze.mk 0 1 0 0 1), (ze.mk 1 0 0 0 0)]) []), (zh.mk 1 arcs [])]))
def jm (n_ : Int) : Option Bool :=
 some (decide (n_ > 4))
def w5 : Option Int :=
 some (-1)
def yz (s_ : List Int) (x8 : Int) : Option (LR Int (Unit ⊕ Int)) :=
 bif decide (x8 < ((s_.length : Nat) : Int)) then (
  Option.bind (idx s_ x8) fun s__e =>
  Option.bind (jm s__e) fun r_ =>
  bif r_ then (
   some (.done (.inr x8)))
  else (
   some (.next (w64 (x8 + 1)))))
 else (
  some (.done (.inl ())))
def xH (s_ : List Int) (f_ : Unit) : Option Int :=
 Option.bind (loop (fun s => yz s_ s) 0) fun t2 =>
 match t2 with
 | .inl p => w5
 | .inr p => some p
def yD (s_ : List Int) (f_ : Unit) : Option Bool :=
 Option.bind (xH s_ ()) fun r_ =>
 some (decide (r_ ≥ 0))
def jl (p_ : zh) : Option Bool :=
 bif decide (p_.States > 64) then (
  some true)
 else (
  some (decide (((p_.Arcs.length : Nat) : Int) > 256)))
def yw : Option Int :=
 some (-1)
def zN (s_ : List zh) (x8 : Int) : Option (LR Int (Unit ⊕ Int)) :=
 bif decide (x8 < ((s_.length : Nat) : Int)) then (
  Option.bind (idx s_ x8) fun s__e =>
  Option.bind (jl s__e) fun r_ =>
  bif r_ then (
   some (.done (.inr x8)))
  else (
   some (.next (w64 (x8 + 1)))))
 else (
  some (.done (.inl ())))
def ye (s_ : List zh) (f_ : Unit) : Option Int :=
 Option.bind (loop (fun s => zN s_ s) 0) fun t2 =>
 match t2 with
 | .inl p => yw
 | .inr p => some p
def zO (s_ : List zh) (f_ : Unit) : Option Bool :=
 Option.bind (ye s_ ()) fun r_ =>
 some (decide (r_ ≥ 0))
def jn (x_ : z8) : Option Bool :=
 bif decide (x_.Messages > 16) then (
  some true)
 else (
  bif decide (x_.Labels > 16) then (
   some true)
  else (
   bif decide (((x_.Channels.length : Nat) : Int) > 4) then (
    some true)
   else (
    bif decide (((x_.Parts.length : Nat) : Int) > 4) then (
     some true)
    else (
     Option.bind (yD x_.Channels ()) fun r_ =>
     bif r_ then (
      some true)
     else (
      Option.bind (zO x_.Parts ()) fun r_1 =>
      some r_1)))))
def jv (n_ : Int) : Option Bool :=
 some (decide (n_ < 0))
def xZ : Option Int :=
 some (-1)
def yx (s_ : List Int) (x8 : Int) : Option (LR Int (Unit ⊕ Int)) :=
 bif decide (x8 < ((s_.length : Nat) : Int)) then (
  Option.bind (idx s_ x8) fun s__e =>
  Option.bind (jv s__e) fun r_ =>
  bif r_ then (
   some (.done (.inr x8)))
  else (
   some (.next (w64 (x8 + 1)))))
 else (
  some (.done (.inl ())))
def xG (s_ : List Int) (f_ : Unit) : Option Int :=
 Option.bind (loop (fun s => yx s_ s) 0) fun t2 =>
 match t2 with
 | .inl p => xZ
 | .inr p => some p
def yC (s_ : List Int) (f_ : Unit) : Option Bool :=
 Option.bind (xG s_ ()) fun r_ =>
 some (decide (r_ ≥ 0))
def un (n_ : Int) (many : Int) : Option Bool :=
 bif decide (n_ ≥ 0) then (
  some (decide (n_ < many)))
 else (
  some false)
def jQ : Option Bool :=
 some true
def uT (x9 : Int) (x29 : Bool) : Option (LR Int (Unit ⊕ Bool)) :=
 some (.next (w64 (x9 + 1)))
def vu (l_ : List Int) (many : Int) (x9 : Int) : Option (LR Int (Unit ⊕ Bool)) :=
 bif decide (x9 < ((l_.length : Nat) : Int)) then (
  Option.bind (idx l_ x9) fun l__e =>
  Option.bind (un l__e many) fun r_ =>
  bif !r_ then (
   some (.done (.inr false)))
  else (
   bif decide (x9 > 0) then (
    Option.bind (idx l_ (w64 (x9 - 1))) fun l__e1 =>
    bif decide (l__e ≤ l__e1) then (
     some (.done (.inr false)))
    else (
     uT x9 (decide (l__e ≤ l__e1))))
   else (
    uT x9 false)))
 else (
  some (.done (.inl ())))
def um (l_ : List Int) (many : Int) : Option Bool :=
 Option.bind (loop (fun s => vu l_ many s) 0) fun t2 =>
 match t2 with
 | .inl p => jQ
 | .inr p => some p
def wv (x_ : z8) (p_ : zh) (a_ : ze) : Option Bool :=
 Option.bind (un a_.From p_.States) fun r_ =>
 bif !r_ then (
  some false)
 else (
  Option.bind (un a_.To p_.States) fun r_1 =>
  bif !r_1 then (
   some false)
  else (
   bif decide (a_.Kind > 2) then (
    some false)
   else (
    bif a_.Kind == 0 then (
     bif a_.Channel == 0 then (
      Option.bind (un a_.Message x_.Labels) fun r_2 =>
      some r_2)
     else (
      some false))
    else (
     Option.bind (un a_.Channel ((x_.Channels.length : Nat) : Int)) fun r_3 =>
     bif r_3 then (
      Option.bind (un a_.Message x_.Messages) fun r_4 =>
      some r_4)
     else (
      some false)))))
def ju (a_ : ze) (x1 : z8) (x2 : zh) : Option Bool :=
 Option.bind (wv x1 x2 a_) fun r_ =>
 some (!r_)
def yQ : Option Int :=
 some (-1)
def zR (s_ : List ze) (f_ : z8 × zh) (x8 : Int) : Option (LR Int (Unit ⊕ Int)) :=
 bif decide (x8 < ((s_.length : Nat) : Int)) then (
  Option.bind (idx s_ x8) fun s__e =>
  Option.bind (ju s__e f_.1 f_.2) fun r_ =>
  bif r_ then (
   some (.done (.inr x8)))
  else (
   some (.next (w64 (x8 + 1)))))
 else (
  some (.done (.inl ())))
def yh (s_ : List ze) (f_ : z8 × zh) : Option Int :=
 Option.bind (loop (fun s => zR s_ f_ s) 0) fun t2 =>
 match t2 with
 | .inl p => yQ
 | .inr p => some p
def zS (s_ : List ze) (f_ : z8 × zh) : Option Bool :=
 Option.bind (yh s_ (f_.1, f_.2)) fun r_ =>
 some (decide (r_ ≥ 0))
def kp : Option Int :=
 some 0
def ue (x_ : z8) (x29 : Int) : Option (LR Int (Unit ⊕ Int)) :=
 bif decide (x29 < ((x_.Parts.length : Nat) : Int)) then (
  Option.bind (idx x_.Parts x29) fun Part_e =>
  bif decide (Part_e.States < 1) then (
   some (.done (.inr 1)))
  else (
   Option.bind (um Part_e.Final Part_e.States) fun r_2 =>
   bif !r_2 then (
    some (.done (.inr 1)))
   else (
    Option.bind (zS Part_e.Arcs (x_, Part_e)) fun r_3 =>
    bif r_3 then (
     some (.done (.inr 1)))
    else (
     some (.next (w64 (x29 + 1)))))))
 else (
  some (.done (.inl ())))
def vV (x_ : z8) : Option Int :=
 Option.bind (jn x_) fun r_ =>
 bif r_ then (
  some 3)
 else (
  bif decide (x_.Messages < 0) then (
   some 1)
  else (
   bif decide (x_.Labels < 0) then (
    some 1)
   else (
    bif decide (((x_.Parts.length : Nat) : Int) < 1) then (
     some 1)
    else (
     Option.bind (yC x_.Channels ()) fun r_1 =>
     bif r_1 then (
      some 1)
     else (
      Option.bind (loop (fun s => ue x_ s) 0) fun t2 =>
      match t2 with
      | .inl p => kp
      | .inr p => some p)))))
def vn (x_ : z8) (s_ : za) : Option (z8 × za) :=
 some (x_, s_)
def xY (x_ : z8) (s_ : za) (part : Int) : Option (z8 × Int × za) :=
 some (x_, part, s_)
def wp {σ : Type} (x14 : Int) (sg2 : σ) : Option (LR (σ × Int) σ) :=
 some (.next (sg2, w64 (x14 + 1)))
def xE {σ : Type} (x1 : Int) (x2 : za) (yy : σ → (Int × ze) → Option (σ × Bool)) (Part_e : zh) (sg1 : σ) (x14 : Int) : Option (LR (σ × Int) σ) :=
 bif decide (x14 < ((Part_e.Arcs.length : Nat) : Int)) then (
  Option.bind (idx Part_e.Arcs x14) fun Arc_e =>
  Option.bind (idx (y5.toL x2.states_) x1) fun cell =>
  bif Arc_e.From == cell then (
   Option.bind (yy sg1 (x14, Arc_e)) fun yr =>
   bif !yr.2 then (
    some (.done yr.1))
   else (
    wp x14 yr.1))
  else (
   wp x14 sg1))
 else (
  some (.done sg1))
def yj (x0 : z8) (x1 : Int) (x2 : za) {σ : Type} (yy : σ → (Int × ze) → Option (σ × Bool)) (sg : σ) : Option σ :=
 Option.bind (idx x0.Parts x1) fun Part_e =>
 Option.bind (loop (fun s => xE x1 x2 yy Part_e s.1 s.2) (sg, 0)) fun t1 =>
 some t1
def uU (q_ : zi) (m_ : Int) : Option zi :=
 Option.bind (idx (y5.toL q_.l_) q_.many_) fun cell =>
 Option.bind (some (y5.setI q_.l_ q_.many_ m_)) fun arr =>
 some (zi.mk (w64 (q_.many_ + 1)) arr)
def uB (q_ : zi) : Option zi :=
 Option.bind (some (y5.ofL (cpA (y5.toL q_.l_) 0 ((y5.toL q_.l_).drop 1)) q_.l_)) fun arr =>
 some (zi.mk (w64 (q_.many_ - 1)) (y5.mk arr.e0 arr.e1 arr.e2 0))
def wG (arr : y5 Int) (s_queues : y5 zi) : Option (za × Bool) :=
 some ((za.mk arr s_queues), false)
def zQ (s_ : za) (a_ : ze) (arr : y5 Int) (cell1 : zi) (x33 : Bool) : Option (za × Bool) :=
 bif x33 then (
  some ((za.mk arr s_.queues_), true))
 else (
  bif a_.Kind == 1 then (
   Option.bind (uU cell1 a_.Message) fun r_ =>
   Option.bind (idx (y5.toL s_.queues_) a_.Channel) fun cell2 =>
   Option.bind (some (y5.setI s_.queues_ a_.Channel r_)) fun arr1 =>
   wG arr arr1)
  else (
   Option.bind (uB cell1) fun r_1 =>
   Option.bind (idx (y5.toL s_.queues_) a_.Channel) fun cell3 =>
   Option.bind (some (y5.setI s_.queues_ a_.Channel r_1)) fun arr2 =>
   wG arr arr2))
def xA (x_ : z8) (s_ : za) (part : Int) (a_ : ze) : Option (za × Bool) :=
 Option.bind (idx (y5.toL s_.states_) part) fun cell =>
 Option.bind (some (y5.setI s_.states_ part a_.To)) fun arr =>
 Option.bind (idx (y5.toL s_.queues_) (mn a_.Channel 3)) fun cell1 =>
 bif a_.Kind == 0 then (
  some ((za.mk arr s_.queues_), false))
 else (
  Option.bind (idx x_.Channels a_.Channel) fun Channel_e =>
  bif Channel_e == 0 then (
   zQ s_ a_ arr cell1 (Channel_e == 0))
  else (
   bif a_.Kind == 1 then (
    Option.bind (idx x_.Channels a_.Channel) fun Channel_e1 =>
    bif cell1.many_ == Channel_e1 then (
     zQ s_ a_ arr cell1 (cell1.many_ == Channel_e1))
    else (
     bif a_.Kind == 2 then (
      bif cell1.many_ == 0 then (
       zQ s_ a_ arr cell1 true)
      else (
       zQ s_ a_ arr cell1 (cell1.l_.e0 != a_.Message)))
     else (
      zQ s_ a_ arr cell1 false)))
   else (
    bif a_.Kind == 2 then (
     bif cell1.many_ == 0 then (
      zQ s_ a_ arr cell1 true)
     else (
      zQ s_ a_ arr cell1 (cell1.l_.e0 != a_.Message)))
    else (
     zQ s_ a_ arr cell1 false))))
def QL (e t : Bool) : Option Bool := bif t then some e else none
def va {σ : Type} (x16 : Int) (sg2 : σ) : Option (LR (σ × Int) σ) :=
 some (.next (sg2, w64 (x16 + 1)))
def wa {σ : Type} (x59 : Int) (sg5 : σ) : Option (LR (σ × Int) (σ ⊕ σ)) :=
 some (.next (sg5, w64 (x59 + 1)))
def yU {σ : Type} (x1 : za) (yy : σ → (zc × za) → Option (σ × Bool)) (x16 : Int) (x23 : Int) (x24 : ze) (x59 : Int) (sg6 : σ) (x69 : Int) (x70 : ze) : Option (LR σ σ) :=
 bif x70.Kind != 2 then (
  some (.next sg6))
 else (
  bif x70.Channel != x24.Channel then (
   some (.next sg6))
  else (
   bif x70.Message != x24.Message then (
    some (.next sg6))
   else (
    Option.bind (idx (y5.toL x1.states_) x16) fun cell =>
    Option.bind (some (y5.setI x1.states_ x16 x24.To)) fun arr =>
    Option.bind (idx (y5.toL arr) x59) fun cell1 =>
    Option.bind (some (y5.setI arr x59 x70.To)) fun arr1 =>
    Option.bind (yy sg6 ((zc.mk x16 x23 x59 x69), (za.mk arr1 x1.queues_))) fun yr1 =>
    bif !yr1.2 then (
     some (.done yr1.1))
    else (
     some (.next yr1.1)))))
def yT {σ : Type} (x0 : z8) (x1 : za) (yy : σ → (zc × za) → Option (σ × Bool)) (x16 : Int) (x23 : Int) (x24 : ze) (sg4 : σ) (x59 : Int) : Option (LR (σ × Int) (σ ⊕ σ)) :=
 bif decide (x59 < ((x0.Parts.length : Nat) : Int)) then (
  bif x59 == x16 then (
   wa x59 sg4)
  else (
   Option.bind (xY x0 x1 x59) fun r_3 =>
   Option.bind (yj r_3.1 r_3.2.1 r_3.2.2 (yOf (fun s x => yU x1 yy x16 x23 x24 x59 s x.1 x.2)) (.next sg4)) fun t6 =>
   match t6 with
   | .next sg6 => (
    wa x59 sg6)
   | .done sg6 => (
    some (.done (.inr sg6)))))
 else (
  some (.done (.inl sg4)))
def yV {σ : Type} (x0 : z8) (x1 : za) (yy : σ → (zc × za) → Option (σ × Bool)) (x16 : Int) (sg3 : σ) (x23 : Int) (x24 : ze) : Option (LR σ σ) :=
 Option.bind (xA x0 x1 x16 x24) fun r_1 =>
 Option.bind (QL r_1.2 true) fun r_2 =>
 bif !r_2 then (
  Option.bind (yy sg3 ((zc.mk x16 x23 (-1) (-1)), r_1.1)) fun yr =>
  bif !yr.2 then (
   some (.done yr.1))
  else (
   some (.next yr.1)))
 else (
  bif x24.Kind != 1 then (
   some (.next sg3))
  else (
   Option.bind (idx x0.Channels x24.Channel) fun Channel_e =>
   bif decide (Channel_e > 0) then (
    some (.next sg3))
   else (
    Option.bind (loop (fun s => yT x0 x1 yy x16 x23 x24 s.1 s.2) (sg3, 0)) fun t4 =>
    match t4 with
    | .inl p => some (.next p)
    | .inr p => some (.done p))))
def xu {σ : Type} (x0 : z8) (x1 : za) (yy : σ → (zc × za) → Option (σ × Bool)) (sg1 : σ) (x16 : Int) : Option (LR (σ × Int) σ) :=
 bif decide (x16 < ((x0.Parts.length : Nat) : Int)) then (
  Option.bind (xY x0 x1 x16) fun r_ =>
  Option.bind (yj r_.1 r_.2.1 r_.2.2 (yOf (fun s x => yV x0 x1 yy x16 s x.1 x.2)) (.next sg1)) fun t3 =>
  match t3 with
  | .next sg3 => (
   va x16 sg3)
  | .done sg3 => (
   some (.done sg3)))
 else (
  some (.done sg1))
def xr (x0 : z8) (x1 : za) {σ : Type} (yy : σ → (zc × za) → Option (σ × Bool)) (sg : σ) : Option σ :=
 Option.bind (loop (fun s => xu x0 x1 yy s.1 s.2) (sg, 0)) fun t1 =>
 some t1
def y7 (s_ : List z6) : Option (List z6) :=
 gd ((0 : Int) ≤ 0 ∧ (0 : Int) ≤ ((s_.length : Nat) : Int) ∧ (((s_.length : Nat) : Int) : Int) ≤ ((s_.length : Nat) : Int) ∧ (((s_.length : Nat) : Int) : Int) ≤ ((s_.length : Nat) : Int)) <|
 some ((s_.drop 0).take (((s_.length : Nat) : Int).toNat - 0))
def yf (s_ : List (List z6)) : Option (List (List z6)) :=
 some s_
def vS (x4 : Int) (list : List za) (steps : List (List z6)) : Option (List za × List (List z6) × Int) :=
 Option.bind (yf steps) fun r_ =>
 some (list, r_, 0)
def wy (i_ : Int) (x42 : Int) (list2 : List za) (at_1 : List (za × Int)) (steps2 : List (List z6)) : Option (LR (Int × List za × (List (za × Int)) × List (List z6) × Int) ((Int × List za × List (List z6)) ⊕ (List za × List (List z6) × Int))) :=
 some (.next (x42, list2, at_1, steps2, w64 (i_ + 1)))
def xQ (steps1 : List (List z6)) (i_ : Int) (x43 : Int) (list3 : List za) (at_2 : List (za × Int)) (l_ : List z6) : Option (LR (Int × List za × (List (za × Int)) × List (List z6) × Int) ((Int × List za × List (List z6)) ⊕ (List za × List (List z6) × Int))) :=
 Option.bind (y7 l_) fun r_1 =>
 gd (steps1.length + ([r_1] : List (List z6)).length ≤ 4294967296) <|
 wy i_ x43 list3 at_2 (steps1 ++ ([r_1] : List (List z6)))
def xh (x44 : Int) (l_1 : List z6) (x31 : zc) (list5 : List za) (at_4 : List (za × Int)) (n_ : Int) : Option (LR (Int × List za × (List (za × Int)) × List z6) ((Int × List za × (List (za × Int)) × List z6))) :=
 gd (l_1.length + ([(z6.mk x31 n_)] : List z6).length ≤ 4294967296) <|
 some (.next (x44, list5, at_4, (l_1 ++ ([(z6.mk x31 n_)] : List z6))))
def zK (x44 : Int) (list4 : List za) (at_3 : List (za × Int)) (l_1 : List z6) (x31 : zc) (x32 : za) : Option (LR (Int × List za × (List (za × Int)) × List z6) ((Int × List za × (List (za × Int)) × List z6))) :=
 Option.bind (some ((QY at_3 x32).getD 0)) fun val =>
 bif !((QY at_3 x32).isSome) then (
  bif ((list4.length : Nat) : Int) == 1024 then (
   some (.done (3, list4, at_3, l_1)))
  else (
   gd (list4.length + ([x32] : List za).length ≤ 4294967296) <|
   xh x44 l_1 x31 (list4 ++ ([x32] : List za)) (QX at_3 x32 ((list4.length : Nat) : Int)) ((list4.length : Nat) : Int)))
 else (
  xh x44 l_1 x31 list4 at_3 val)
def xP (x_ : z8) (x41 : Int) (list1 : List za) (at_ : List (za × Int)) (steps1 : List (List z6)) (i_ : Int) : Option (LR (Int × List za × (List (za × Int)) × List (List z6) × Int) ((Int × List za × List (List z6)) ⊕ (List za × List (List z6) × Int))) :=
 bif decide (i_ < ((list1.length : Nat) : Int)) then (
  Option.bind (idx list1 i_) fun list_e =>
  Option.bind (vn x_ list_e) fun r_2 =>
  Option.bind (xr r_2.1 r_2.2 (yOf (fun s x => zK s.1 s.2.1 s.2.2.1 s.2.2.2 x.1 x.2)) (.next (x41, list1, at_, ([] : List z6)))) fun t5 =>
  match t5 with
  | .next (x44, list4, at_3, l_1) => (
   xQ steps1 i_ x44 list4 at_3 l_1)
  | .done (x44, list4, at_3, l_1) => (
   some (.done (.inr (([] : List za), ([] : List (List z6)), x44)))))
 else (
  some (.done (.inl (x41, list1, steps1))))
def yg (x_ : z8) : Option (List za × List (List z6) × Int) :=
 Option.bind (loop (fun s => xP x_ s.1 s.2.1 s.2.2.1 s.2.2.2.1 s.2.2.2.2) (0, ([(za.mk (y5.mk 0 0 0 0) (y5.mk (zi.mk 0 (y5.mk 0 0 0 0)) (zi.mk 0 (y5.mk 0 0 0 0)) (zi.mk 0 (y5.mk 0 0 0 0)) (zi.mk 0 (y5.mk 0 0 0 0))))] : List za), (QX ([] : List (za × Int)) (za.mk (y5.mk 0 0 0 0) (y5.mk (zi.mk 0 (y5.mk 0 0 0 0)) (zi.mk 0 (y5.mk 0 0 0 0)) (zi.mk 0 (y5.mk 0 0 0 0)) (zi.mk 0 (y5.mk 0 0 0 0)))) 0), ([] : List (List z6)), 0)) fun t2 =>
 match t2 with
 | .inl p => vS p.1 p.2.1 p.2.2
 | .inr p => some p
def xU (s_ : List Int) : Option (List Int) :=
 gd (([] : List Int).length + s_.length ≤ 4294967296) <|
 some s_
def w7 (s_ : List Int) : Option (List Int) :=
 gd ((0 : Int) ≤ 0 ∧ (0 : Int) ≤ ((s_.length : Nat) : Int) ∧ (((s_.length : Nat) : Int) : Int) ≤ ((s_.length : Nat) : Int) ∧ (((s_.length : Nat) : Int) : Int) ≤ ((s_.length : Nat) : Int)) <|
 some ((s_.drop 0).take (((s_.length : Nat) : Int).toNat - 0))
def vw (r_1 : List Int) (c_Queues : List (List Int)) : Option z7 :=
 some (z7.mk r_1 c_Queues)
def yZ (x_ : z8) (s_ : za) (c_Queues1 : List (List Int)) (x23 : Int) : Option (LR (List (List Int) × Int) (List (List Int))) :=
 bif decide (x23 < (((List.replicate ((x_.Channels.length : Nat) : Int).toNat ([] : List Int)).length : Nat) : Int)) then (
  Option.bind (idx (y5.toL s_.queues_) x23) fun cell =>
  gd ((0 : Int) ≤ cell.many_ ∧ (cell.many_ : Int) ≤ (([cell.l_.e0, cell.l_.e1, cell.l_.e2, cell.l_.e3].length : Nat) : Int)) <|
  Option.bind (xU ([cell.l_.e0, cell.l_.e1, cell.l_.e2, cell.l_.e3].take cell.many_.toNat)) fun r_2 =>
  Option.bind (w7 r_2) fun r_3 =>
  Option.bind (idx c_Queues1 x23) fun c_Queue_e =>
  some (.next ((c_Queues1.set x23.toNat r_3), w64 (x23 + 1))))
 else (
  some (.done c_Queues1))
def x7 (x_ : z8) (s_ : za) : Option z7 :=
 gd ((0 : Int) ≤ ((x_.Parts.length : Nat) : Int) ∧ (((x_.Parts.length : Nat) : Int) : Int) ≤ (([s_.states_.e0, s_.states_.e1, s_.states_.e2, s_.states_.e3].length : Nat) : Int)) <|
 Option.bind (xU ([s_.states_.e0, s_.states_.e1, s_.states_.e2, s_.states_.e3].take ((x_.Parts.length : Nat) : Int).toNat)) fun r_ =>
 Option.bind (w7 r_) fun r_1 =>
 gd ((0 : Int) ≤ ((x_.Channels.length : Nat) : Int) ∧ (((x_.Channels.length : Nat) : Int) : Int) ≤ 4294967296) <|
 Option.bind (loop (fun s => yZ x_ s_ s.1 s.2) ((List.replicate ((x_.Channels.length : Nat) : Int).toNat ([] : List Int)), 0)) fun t2 =>
 vw r_1 t2
def zX (s_ : List z7) : Option (List z7) :=
 gd ((0 : Int) ≤ 0 ∧ (0 : Int) ≤ ((s_.length : Nat) : Int) ∧ (((s_.length : Nat) : Int) : Int) ≤ ((s_.length : Nat) : Int) ∧ (((s_.length : Nat) : Int) : Int) ≤ ((s_.length : Nat) : Int)) <|
 some ((s_.drop 0).take (((s_.length : Nat) : Int).toNat - 0))
def qH (r_1 : List za × List (List z6) × Int) (out : List z7) : Option (List z7 × List (List z6) × Int) :=
 Option.bind (zX out) fun r_2 =>
 some (r_2, r_1.2.1, 0)
def wM (x_ : z8) (r_1 : List za × List (List z6) × Int) (out1 : List z7) (x28 : Int) : Option (LR (List z7 × Int) (List z7)) :=
 bif decide (x28 < ((r_1.1.length : Nat) : Int)) then (
  Option.bind (idx r_1.1 x28) fun u_ =>
  Option.bind (x7 x_ u_) fun r_3 =>
  gd (out1.length + ([r_3] : List z7).length ≤ 4294967296) <|
  some (.next ((out1 ++ ([r_3] : List z7)), w64 (x28 + 1))))
 else (
  some (.done out1))
def vT (x_ : z8) : Option (List z7 × List (List z6) × Int) :=
 Option.bind (vV x_) fun r_ =>
 bif r_ != 0 then (
  some (([] : List z7), ([] : List (List z6)), r_))
 else (
  Option.bind (yg x_) fun r_1 =>
  bif r_1.2.2 != 0 then (
   some (([] : List z7), ([] : List (List z6)), r_1.2.2))
  else (
   Option.bind (loop (fun s => wM x_ r_1 s.1 s.2) (([] : List z7), 0)) fun t2 =>
   qH r_1 t2))
def wW (a_ : Int) (b_ : Int) (queue : List Int) : Option z7 :=
 some (z7.mk ([a_, b_]) ([queue]))
def ut (part : Int) (arc : Int) : Option zc :=
 some (zc.mk part arc (-1) (-1))
def ZW : Option Int :=
 some 1
def ZV (i_ : Int) (x74 : List z6) (x75 : List z6) (x76 : Int) (x79 : List z6) (x80 : List z6) (x81 : Int) (x82 : Bool) : Option (LR Int (Unit ⊕ Int)) :=
 some (.next (w64 (i_ + 1)))
def uu (s_ : List (List z6)) (steps : List (List z6)) (i_ : Int) (s__e1 : List z6) (s__e2 : List z6) (k_ : Int) : Option (LR Int ((List z6 × List z6 × Int × List z6 × List z6 × Int × Bool) ⊕ Int)) :=
 Option.bind (idx s_ i_) fun s__e3 =>
 bif decide (k_ < ((s__e3.length : Nat) : Int)) then (
  Option.bind (idx s_ i_) fun s__e4 =>
  Option.bind (idx s__e4 k_) fun s__e_e =>
  Option.bind (idx steps i_) fun step_e1 =>
  Option.bind (idx step_e1 k_) fun step_e_e =>
  bif !((s__e_e.Move.Part == step_e_e.Move.Part) && ((s__e_e.Move.Arc == step_e_e.Move.Arc) && ((s__e_e.Move.Other == step_e_e.Move.Other) && ((s__e_e.Move.With == step_e_e.Move.With) && ((s__e_e.To == step_e_e.To) && true))))) then (
   some (.done (.inr 0)))
  else (
   some (.next (w64 (k_ + 1)))))
 else (
  some (.done (.inl (s__e1, s__e1, ((s__e1.length : Nat) : Int), s__e2, s__e2, ((s__e2.length : Nat) : Int), ((s__e1.length : Nat) : Int) != ((s__e2.length : Nat) : Int)))))
def qD (s_ : List (List z6)) (steps : List (List z6)) (i_ : Int) : Option (LR Int (Unit ⊕ Int)) :=
 bif decide (i_ < ((s_.length : Nat) : Int)) then (
  Option.bind (idx s_ i_) fun s__e =>
  Option.bind (idx steps i_) fun step_e =>
  bif ((s__e.length : Nat) : Int) != ((step_e.length : Nat) : Int) then (
   some (.done (.inr 0)))
  else (
   Option.bind (idx s_ i_) fun s__e1 =>
   Option.bind (idx s_ i_) fun s__e2 =>
   bif ((s__e1.length : Nat) : Int) != ((s__e2.length : Nat) : Int) then (
    some (.done (.inr 0)))
   else (
    Option.bind (loop (fun s => uu s_ steps i_ s__e1 s__e2 s) 0) fun t5 =>
    match t5 with
    | .inl p => ZV i_ p.1 p.2.1 p.2.2.1 p.2.2.2.1 p.2.2.2.2.1 p.2.2.2.2.2.1 p.2.2.2.2.2.2
    | .inr p => some (.done (.inr p)))))
 else (
  some (.done (.inl ())))
def qE (s_ : List (List z6)) (steps : List (List z6)) : Option Int :=
 Option.bind (loop (fun s => qD s_ steps s) 0) fun t3 =>
 match t3 with
 | .inl p => ZW
 | .inr p => some p
def qC (c_ : List z7) (list : List z7) (i_1 : Int) : Option (LR Int (Unit ⊕ Int)) :=
 bif decide (i_1 < ((c_.length : Nat) : Int)) then (
  Option.bind (idx c_ i_1) fun c__e =>
  Option.bind (idx list i_1) fun list_e =>
  Option.bind (j5 c__e list_e) fun r_ =>
  bif r_ == 0 then (
   some (.done (.inr 0)))
  else (
   some (.next (w64 (i_1 + 1)))))
 else (
  some (.done (.inl ())))
def j0 (c_ : List z7) (s_ : List (List z6)) (list : List z7) (steps : List (List z6)) : Option Int :=
 bif ((c_.length : Nat) : Int) != ((list.length : Nat) : Int) then (
  some 0)
 else (
  bif ((s_.length : Nat) : Int) != ((steps.length : Nat) : Int) then (
   some 0)
  else (
   bif ((c_.length : Nat) : Int) != ((c_.length : Nat) : Int) then (
    some 0)
   else (
    bif ((s_.length : Nat) : Int) != ((s_.length : Nat) : Int) then (
     some 0)
    else (
     Option.bind (loop (fun s => qC c_ list s) 0) fun t6 =>
     match t6 with
     | .inl p => qE s_ steps
     | .inr p => some p))))
def qd (x_ : Int) : Option Bool :=
 some (x_ != x_)
def Xo (x_ : Int) (y_ : Int) : Option Bool :=
 Option.bind (qd x_) fun r_ =>
 bif r_ then (
  Option.bind (qd y_) fun r_1 =>
  bif !r_1 then (
   some true)
  else (
   some (decide (x_ < y_))))
 else (
  some (decide (x_ < y_)))
def qL (x_ : Int) : Option Bool :=
 some (x_ != x_)
def wi (x_ : List Int) (target : Int) (i_ : Int) : Option (Int × Bool) :=
 bif decide (i_ < ((x_.length : Nat) : Int)) then (
  Option.bind (idx x_ i_) fun x__e =>
  bif x__e == target then (
   some (i_, true))
  else (
   Option.bind (idx x_ i_) fun x__e1 =>
   Option.bind (qL x__e1) fun r_ =>
   bif r_ then (
    Option.bind (qL target) fun r_1 =>
    some (i_, r_1))
   else (
    some (i_, false))))
 else (
  some (i_, false))
def wh (x_ : List Int) (target : Int) (i_1 : Int) (j_ : Int) : Option (LR (Int × Int) Int) :=
 bif decide (i_1 < j_) then (
  Option.bind (idx x_ (w64 (Int.fdiv (IntKind.u64.wrap (w64 (i_1 + j_))) (2 ^ 1)))) fun x__e2 =>
  Option.bind (Xo x__e2 target) fun r_2 =>
  bif r_2 then (
   some (.next (w64 ((w64 (Int.fdiv (IntKind.u64.wrap (w64 (i_1 + j_))) (2 ^ 1))) + 1), j_)))
  else (
   some (.next (i_1, w64 (Int.fdiv (IntKind.u64.wrap (w64 (i_1 + j_))) (2 ^ 1))))))
 else (
  some (.done i_1))
def wD (x_ : List Int) (target : Int) : Option (Int × Bool) :=
 Option.bind (loop (fun s => wh x_ target s.1 s.2) (0, ((x_.length : Nat) : Int))) fun t2 =>
 wi x_ target t2
def jI (x_ : Int) : Option Bool :=
 some (x_ != x_)
def jU (x_ : Int) (y_ : Int) : Option Int :=
 Option.bind (jI x_) fun r_ =>
 Option.bind (jI y_) fun r_1 =>
 bif r_ then (
  bif r_1 then (
   some 0)
  else (
   some (-1)))
 else (
  bif r_1 then (
   some 1)
  else (
   bif decide (x_ < y_) then (
    some (-1))
   else (
    bif decide (x_ > y_) then (
     some 1)
    else (
     some 0))))
def jJ (x_ : Int) (y_ : Int) : Option Int :=
 Option.bind (qd x_) fun r_ =>
 Option.bind (qd y_) fun r_1 =>
 bif r_ then (
  bif r_1 then (
   some 0)
  else (
   some (-1)))
 else (
  bif r_1 then (
   some 1)
  else (
   bif decide (x_ < y_) then (
    some (-1))
   else (
    bif decide (x_ > y_) then (
     some 1)
    else (
     some 0))))
def YA : Option Int :=
 some 0
def Yz (vals : List Int) (x8 : Int) : Option (LR Int (Unit ⊕ Int)) :=
 bif decide (x8 < ((vals.length : Nat) : Int)) then (
  Option.bind (idx vals x8) fun val_e =>
  bif val_e != 0 then (
   some (.done (.inr val_e)))
  else (
   some (.next (w64 (x8 + 1)))))
 else (
  some (.done (.inl ())))
def Vs (vals : List Int) : Option Int :=
 Option.bind (loop (fun s => Yz vals s) 0) fun t2 =>
 match t2 with
 | .inl p => YA
 | .inr p => some p
def jR (a_ : zf) (b_ : zf) : Option Int :=
 Option.bind (jU a_.Kind b_.Kind) fun r_ =>
 Option.bind (jJ a_.Label b_.Label) fun r_1 =>
 Option.bind (jJ a_.To b_.To) fun r_2 =>
 Option.bind (Vs ([r_, r_1, r_2])) fun r_3 =>
 some r_3
def xp (s_ : List zf) : Option (List zf) :=
 some s_
def xo (k_ : Int) : Option (LR Int (Unit ⊕ List zf)) :=
 some (.next (w64 (k_ + 1)))
def xm (s_1 : List zf) (k_1 : Int) : Option (LR Int (Unit ⊕ List zf)) :=
 gd ((0 : Int) ≤ k_1 ∧ (k_1 : Int) ≤ ((s_1.length : Nat) : Int)) <|
 gd ((0 : Int) ≤ k_1 ∧ (k_1 : Int) ≤ ((s_1.length : Nat) : Int)) <|
 gd ((0 : Int) ≤ k_1 ∧ (k_1 : Int) ≤ (((s_1.take k_1.toNat ++ List.replicate (s_1.length - k_1.toNat) (zf.mk 0 0 0)).length : Nat) : Int)) <|
 some (.done (.inr ((s_1.take k_1.toNat ++ List.replicate (s_1.length - k_1.toNat) (zf.mk 0 0 0)).take k_1.toNat)))
def yq (k2 : Int) (s_3 : List zf) (k_3 : Int) : Option (LR (List zf × Int × Int) ((List zf × Int))) :=
 some (.next (s_3, k_3, w64 (k2 + 1)))
def xk (k_ : Int) (s_2 : List zf) (k_2 : Int) (k2 : Int) : Option (LR (List zf × Int × Int) ((List zf × Int))) :=
 bif decide (k2 < ((s_2.length - k_.toNat : Nat) : Int)) then (
  gd ((0 : Int) ≤ k_ ∧ (0 : Int) ≤ k2) <|
  Option.bind (idx s_2 (k_ + k2)) fun s__e2 =>
  gd ((0 : Int) ≤ k_ ∧ (0 : Int) ≤ w64 (k2 - 1)) <|
  Option.bind (idx s_2 (k_ + (w64 (k2 - 1)))) fun s__e3 =>
  bif !((s__e2.Kind == s__e3.Kind) && ((s__e2.Label == s__e3.Label) && ((s__e2.To == s__e3.To) && true))) then (
   gd ((0 : Int) ≤ k_ ∧ (0 : Int) ≤ k2) <|
   Option.bind (idx s_2 (k_ + k2)) fun s__e4 =>
   Option.bind (idx s_2 k_2) fun s__e5 =>
   yq k2 (s_2.set k_2.toNat s__e4) (w64 (k_2 + 1)))
  else (
   yq k2 s_2 k_2))
 else (
  some (.done (s_2, k_2)))
def xl (s_ : List zf) (k_ : Int) : Option (LR Int (Unit ⊕ List zf)) :=
 bif decide (k_ < ((s_.length : Nat) : Int)) then (
  Option.bind (idx s_ k_) fun s__e =>
  Option.bind (idx s_ (w64 (k_ - 1))) fun s__e1 =>
  bif (s__e.Kind == s__e1.Kind) && ((s__e.Label == s__e1.Label) && ((s__e.To == s__e1.To) && true)) then (
   gd ((0 : Int) ≤ k_ ∧ (k_ : Int) ≤ ((s_.length : Nat) : Int)) <|
   Option.bind (loop (fun s => xk k_ s.1 s.2.1 s.2.2) (s_, k_, 1)) fun t5 =>
   xm t5.1 t5.2)
  else (
   xo k_))
 else (
  some (.done (.inl ())))
def xK (s_ : List zf) : Option (List zf) :=
 bif decide (((s_.length : Nat) : Int) < 2) then (
  some s_)
 else (
  Option.bind (loop (fun s => xl s_ s) 1) fun t2 =>
  match t2 with
  | .inl p => xp s_
  | .inr p => some p)
def w6 (s_ : List zf) : Option (List zf) :=
 gd ((0 : Int) ≤ 0 ∧ (0 : Int) ≤ ((s_.length : Nat) : Int) ∧ (((s_.length : Nat) : Int) : Int) ≤ ((s_.length : Nat) : Int) ∧ (((s_.length : Nat) : Int) : Int) ≤ ((s_.length : Nat) : Int)) <|
 some ((s_.drop 0).take (((s_.length : Nat) : Int).toNat - 0))
def xV (s_ : List (List zf)) : Option (List (List zf)) :=
 gd ((0 : Int) ≤ 0 ∧ (0 : Int) ≤ ((s_.length : Nat) : Int) ∧ (((s_.length : Nat) : Int) : Int) ≤ ((s_.length : Nat) : Int) ∧ (((s_.length : Nat) : Int) : Int) ≤ ((s_.length : Nat) : Int)) <|
 some ((s_.drop 0).take (((s_.length : Nat) : Int).toNat - 0))
def js (x_ : z8) (out_Rows : List (List zf)) : Option (zF × Int) :=
 Option.bind (xV out_Rows) fun r_3 =>
 some ((zF.mk 0 x_.Labels r_3), 0)
def jr (x51 : Int) (out_Rows2 : List (List zf)) : Option (LR (List (List zf) × Int) (List (List zf) ⊕ (zF × Int))) :=
 some (.next (out_Rows2, w64 (x51 + 1)))
def jq (out_Rows1 : List (List zf)) (x51 : Int) (row : List zf) : Option (LR (List (List zf) × Int) (List (List zf) ⊕ (zF × Int))) :=
 Option.bind (z7l (fun x y => jR x y) row) fun sorted =>
 Option.bind (xK sorted) fun r_4 =>
 Option.bind (w6 r_4) fun r_5 =>
 bif decide (((r_5.length : Nat) : Int) > 256) then (
  some (.done (.inr ((zF.mk 0 0 []), 3))))
 else (
  gd (out_Rows1.length + ([r_5] : List (List zf)).length ≤ 4294967296) <|
  jr x51 (out_Rows1 ++ ([r_5] : List (List zf))))
def wS (row1 : List zf) (x57 : Int) (u__e : z6) (arc_Kind : Int) (arc_Label : Int) : Option (LR (List zf × Int) (List zf)) :=
 gd (row1.length + ([(zf.mk arc_Kind arc_Label u__e.To)] : List zf).length ≤ 4294967296) <|
 some (.next ((row1 ++ ([(zf.mk arc_Kind arc_Label u__e.To)] : List zf)), w64 (x57 + 1)))
def jo (x_ : z8) (hidden : List Int) (u_ : List z6) (row1 : List zf) (x57 : Int) : Option (LR (List zf × Int) (List zf)) :=
 bif decide (x57 < ((u_.length : Nat) : Int)) then (
  Option.bind (idx u_ x57) fun u__e =>
  Option.bind (idx x_.Parts u__e.Move.Part) fun Part_e =>
  Option.bind (idx Part_e.Arcs u__e.Move.Arc) fun Arc_e =>
  Option.bind (wD hidden Arc_e.Message) fun r_6 =>
  bif Arc_e.Kind == 0 then (
   bif !r_6.2 then (
    wS row1 x57 u__e 2 Arc_e.Message)
   else (
    wS row1 x57 u__e 0 0))
  else (
   wS row1 x57 u__e 0 0))
 else (
  some (.done row1))
def jp (x_ : z8) (hidden : List Int) (r_2 : List za × List (List z6) × Int) (out_Rows1 : List (List zf)) (x51 : Int) : Option (LR (List (List zf) × Int) (List (List zf) ⊕ (zF × Int))) :=
 bif decide (x51 < ((r_2.2.1.length : Nat) : Int)) then (
  Option.bind (idx r_2.2.1 x51) fun u_ =>
  Option.bind (loop (fun s => jo x_ hidden u_ s.1 s.2) (([] : List zf), 0)) fun t5 =>
  jq out_Rows1 x51 t5)
 else (
  some (.done (.inl out_Rows1)))
def jt (x_ : z8) (hidden : List Int) : Option (zF × Int) :=
 Option.bind (vV x_) fun r_ =>
 bif r_ != 0 then (
  some ((zF.mk 0 0 []), r_))
 else (
  Option.bind (um hidden x_.Labels) fun r_1 =>
  bif !r_1 then (
   some ((zF.mk 0 0 []), 1))
  else (
   Option.bind (yg x_) fun r_2 =>
   bif r_2.2.2 != 0 then (
    some ((zF.mk 0 0 []), r_2.2.2))
   else (
    bif decide (((r_2.1.length : Nat) : Int) > 64) then (
     some ((zF.mk 0 0 []), 3))
    else (
     Option.bind (loop (fun s => jp x_ hidden r_2 s.1 s.2) (([] : List (List zf)), 0)) fun t2 =>
     match t2 with
     | .inl p => js x_ p
     | .inr p => some p))))
def ky : Option Int :=
 some 1
def kx (i_ : Int) : Option (LR Int (Unit ⊕ Int)) :=
 some (.next (w64 (i_ + 1)))
def ku (a_ : zF) (b_ : zF) (i_ : Int) (k_ : Int) : Option (LR Int (Unit ⊕ Int)) :=
 Option.bind (idx a_.Rows i_) fun Row_e2 =>
 bif decide (k_ < ((Row_e2.length : Nat) : Int)) then (
  Option.bind (idx a_.Rows i_) fun Row_e3 =>
  Option.bind (idx Row_e3 k_) fun Row_e_e =>
  Option.bind (idx b_.Rows i_) fun Row_e4 =>
  Option.bind (idx Row_e4 k_) fun Row_e_e1 =>
  bif !((Row_e_e.Kind == Row_e_e1.Kind) && ((Row_e_e.Label == Row_e_e1.Label) && ((Row_e_e.To == Row_e_e1.To) && true))) then (
   some (.done (.inr 0)))
  else (
   some (.next (w64 (k_ + 1)))))
 else (
  some (.done (.inl ())))
def kw (a_ : zF) (b_ : zF) (i_ : Int) : Option (LR Int (Unit ⊕ Int)) :=
 bif decide (i_ < ((a_.Rows.length : Nat) : Int)) then (
  Option.bind (idx a_.Rows i_) fun Row_e =>
  Option.bind (idx b_.Rows i_) fun Row_e1 =>
  bif ((Row_e.length : Nat) : Int) != ((Row_e1.length : Nat) : Int) then (
   some (.done (.inr 0)))
  else (
   Option.bind (loop (fun s => ku a_ b_ i_ s) 0) fun t4 =>
   match t4 with
   | .inl p => kx i_
   | .inr p => some (.done (.inr p))))
 else (
  some (.done (.inl ())))
def kH (a_ : zF) (b_ : zF) : Option Int :=
 bif a_.Inputs != b_.Inputs then (
  some 0)
 else (
  bif a_.Outputs != b_.Outputs then (
   some 0)
  else (
   bif ((a_.Rows.length : Nat) : Int) != ((b_.Rows.length : Nat) : Int) then (
    some 0)
   else (
    Option.bind (loop (fun s => kw a_ b_ s) 0) fun t2 =>
    match t2 with
    | .inl p => ky
    | .inr p => some p)))
def u3 : Option Int :=
 some (-1)
def u2 (s_ : List Int) (v_ : Int) (x8 : Int) : Option (LR Int (Unit ⊕ Int)) :=
 bif decide (x8 < ((s_.length : Nat) : Int)) then (
  Option.bind (idx s_ x8) fun s__e =>
  bif v_ == s__e then (
   some (.done (.inr x8)))
  else (
   some (.next (w64 (x8 + 1)))))
 else (
  some (.done (.inl ())))
def qn (s_ : List Int) (v_ : Int) : Option Int :=
 Option.bind (loop (fun s => u2 s_ v_ s) 0) fun t2 =>
 match t2 with
 | .inl p => u3
 | .inr p => some p
def u4 (s_ : List Int) (v_ : Int) : Option Bool :=
 Option.bind (qn s_ v_) fun r_ =>
 some (decide (r_ ≥ 0))
def vR (s_ : za) : Option Bool :=
 some ((s_.queues_.e0.many_ == 0) && ((s_.queues_.e0.l_.e0 == 0) && ((s_.queues_.e0.l_.e1 == 0) && ((s_.queues_.e0.l_.e2 == 0) && ((s_.queues_.e0.l_.e3 == 0) && ((s_.queues_.e1.many_ == 0) && ((s_.queues_.e1.l_.e0 == 0) && ((s_.queues_.e1.l_.e1 == 0) && ((s_.queues_.e1.l_.e2 == 0) && ((s_.queues_.e1.l_.e3 == 0) && ((s_.queues_.e2.many_ == 0) && ((s_.queues_.e2.l_.e0 == 0) && ((s_.queues_.e2.l_.e1 == 0) && ((s_.queues_.e2.l_.e2 == 0) && ((s_.queues_.e2.l_.e3 == 0) && ((s_.queues_.e3.many_ == 0) && ((s_.queues_.e3.l_.e0 == 0) && ((s_.queues_.e3.l_.e1 == 0) && ((s_.queues_.e3.l_.e2 == 0) && ((s_.queues_.e3.l_.e3 == 0) && true))))))))))))))))))))
def vQ (x_ : z8) (s_ : za) (x10 : Int) : Option (LR Int (Unit ⊕ Bool)) :=
 bif decide (x10 < ((x_.Parts.length : Nat) : Int)) then (
  Option.bind (idx x_.Parts x10) fun Part_e =>
  Option.bind (idx (y5.toL s_.states_) x10) fun cell =>
  Option.bind (u4 Part_e.Final cell) fun r_ =>
  bif !r_ then (
   some (.done (.inr false)))
  else (
   some (.next (w64 (x10 + 1)))))
 else (
  some (.done (.inl ())))
def qg (x_ : z8) (s_ : za) : Option Bool :=
 Option.bind (loop (fun s => vQ x_ s_ s) 0) fun t2 =>
 match t2 with
 | .inl p => vR s_
 | .inr p => some p
def yP (s_1 : List zc) (i_ : Int) (j_ : Int) : Option (LR (List zc × Int × Int) (List zc)) :=
 bif decide (i_ < j_) then (
  Option.bind (idx s_1 j_) fun s__e =>
  Option.bind (idx s_1 i_) fun s__e1 =>
  Option.bind (idx s_1 i_) fun s__e2 =>
  Option.bind (idx (s_1.set i_.toNat s__e) j_) fun u_e =>
  some (.next (((s_1.set i_.toNat s__e).set j_.toNat s__e1), w64 (i_ + 1), w64 (j_ - 1))))
 else (
  some (.done s_1))
def yY (s_ : List zc) : Option (List zc) :=
 Option.bind (loop (fun s => yP s.1 s.2.1 s.2.2) (s_, 0, w64 (((s_.length : Nat) : Int) - 1))) fun t1 =>
 some t1
def xq (s_ : List zc) : Option (List zc) :=
 gd ((0 : Int) ≤ 0 ∧ (0 : Int) ≤ ((s_.length : Nat) : Int) ∧ (((s_.length : Nat) : Int) : Int) ≤ ((s_.length : Nat) : Int) ∧ (((s_.length : Nat) : Int) : Int) ≤ ((s_.length : Nat) : Int)) <|
 some ((s_.drop 0).take (((s_.length : Nat) : Int).toNat - 0))
def qV : Option (List zc × z7 × Int) :=
 some (([] : List zc), (z7.mk [] []), 7)
def vU (x69 : Int) : Option (LR Int (Unit ⊕ (List zc × z7 × Int))) :=
 some (.next (w64 (x69 + 1)))
def qU (x_ : z8) (r_1 : List za × List (List z6) × Int) (x69 : Int) (run : List zc) : Option (LR Int (Unit ⊕ (List zc × z7 × Int))) :=
 Option.bind (yY run) fun r_3 =>
 Option.bind (xq r_3) fun r_4 =>
 Option.bind (idx r_1.1 x69) fun u_2 =>
 Option.bind (x7 x_ u_2) fun r_5 =>
 some (.done (.inr (r_4, r_5, 0)))
def qQ (by_ : List zu) (run1 : List zc) (n_ : Int) : Option (LR (List zc × Int) (List zc)) :=
 bif decide (n_ > 0) then (
  Option.bind (idx by_ n_) fun by__e =>
  gd (run1.length + ([by__e.move_] : List zc).length ≤ 4294967296) <|
  Option.bind (idx by_ n_) fun by__e1 =>
  some (.next ((run1 ++ ([by__e.move_] : List zc)), by__e1.from_)))
 else (
  some (.done run1))
def qR (x_ : z8) (r_1 : List za × List (List z6) × Int) (by_ : List zu) (x69 : Int) : Option (LR Int (Unit ⊕ (List zc × z7 × Int))) :=
 bif decide (x69 < ((r_1.2.1.length : Nat) : Int)) then (
  Option.bind (idx r_1.2.1 x69) fun u_ =>
  bif decide (((u_.length : Nat) : Int) > 0) then (
   vU x69)
  else (
   Option.bind (idx r_1.1 x69) fun u_1 =>
   Option.bind (qg x_ u_1) fun r_2 =>
   bif r_2 then (
    vU x69)
   else (
    Option.bind (loop (fun s => qQ by_ s.1 s.2) (([] : List zc), x69)) fun t6 =>
    qU x_ r_1 x69 t6)))
 else (
  some (.done (.inl ())))
def qW (x_ : z8) (r_1 : List za × List (List z6) × Int) (by_ : List zu) : Option (List zc × z7 × Int) :=
 Option.bind (loop (fun s => qR x_ r_1 by_ s) 0) fun t3 =>
 match t3 with
 | .inl p => qV
 | .inr p => some p
def qS (x40 : Int) (by_2 : List zu) (seen1 : Int) : Option (LR (List zu × Int × Int) (List zu)) :=
 some (.next (by_2, seen1, w64 (x40 + 1)))
def vo (x47 : Int) (by_4 : List zu) (seen3 : Int) : Option (LR (List zu × Int × Int) ((List zu × Int))) :=
 some (.next (by_4, seen3, w64 (x47 + 1)))
def qO (x40 : Int) (u_3 : List z6) (by_3 : List zu) (seen2 : Int) (x47 : Int) : Option (LR (List zu × Int × Int) ((List zu × Int))) :=
 bif decide (x47 < ((u_3.length : Nat) : Int)) then (
  Option.bind (idx u_3 x47) fun u__e =>
  bif u__e.To == seen2 then (
   Option.bind (idx by_3 u__e.To) fun by__e2 =>
   vo x47 (by_3.set u__e.To.toNat (zu.mk x40 u__e.Move)) (w64 (seen2 + 1)))
  else (
   vo x47 by_3 seen2))
 else (
  some (.done (by_3, seen2)))
def qP (r_1 : List za × List (List z6) × Int) (by_1 : List zu) (seen : Int) (x40 : Int) : Option (LR (List zu × Int × Int) (List zu)) :=
 bif decide (x40 < ((r_1.2.1.length : Nat) : Int)) then (
  Option.bind (idx r_1.2.1 x40) fun u_3 =>
  Option.bind (loop (fun s => qO x40 u_3 s.1 s.2.1 s.2.2) (by_1, seen, 0)) fun t9 =>
  qS x40 t9.1 t9.2)
 else (
  some (.done by_1))
def qI (x_ : z8) : Option (List zc × z7 × Int) :=
 Option.bind (vV x_) fun r_ =>
 bif r_ != 0 then (
  some (([] : List zc), (z7.mk [] []), r_))
 else (
  Option.bind (yg x_) fun r_1 =>
  bif r_1.2.2 != 0 then (
   some (([] : List zc), (z7.mk [] []), r_1.2.2))
  else (
   gd ((0 : Int) ≤ ((r_1.1.length : Nat) : Int) ∧ (((r_1.1.length : Nat) : Int) : Int) ≤ 4294967296) <|
   Option.bind (loop (fun s => qP r_1 s.1 s.2.1 s.2.2) ((List.replicate ((r_1.1.length : Nat) : Int).toNat (zu.mk 0 (zc.mk 0 0 0 0))), 1, 0)) fun t7 =>
   qW x_ r_1 t7))
def ZU : Option Int :=
 some 1
def ZT (a_ : List zc) (b_ : List zc) (i_ : Int) : Option (LR Int (Unit ⊕ Int)) :=
 bif decide (i_ < ((a_.length : Nat) : Int)) then (
  Option.bind (idx a_ i_) fun a__e =>
  Option.bind (idx b_ i_) fun b__e =>
  bif !((a__e.Part == b__e.Part) && ((a__e.Arc == b__e.Arc) && ((a__e.Other == b__e.Other) && ((a__e.With == b__e.With) && true)))) then (
   some (.done (.inr 0)))
  else (
   some (.next (w64 (i_ + 1)))))
 else (
  some (.done (.inl ())))
def Wc (a_ : List zc) (b_ : List zc) : Option Int :=
 bif ((a_.length : Nat) : Int) != ((b_.length : Nat) : Int) then (
  some 0)
 else (
  bif ((a_.length : Nat) : Int) != ((a_.length : Nat) : Int) then (
   some 0)
  else (
   Option.bind (loop (fun s => ZT a_ b_ s) 0) fun t2 =>
   match t2 with
   | .inl p => ZU
   | .inr p => some p))
def Zg : Option Bool :=
 Option.bind (Y7 1 ([(ze.mk 0 2 0 0 0)])) fun r_ =>
 Option.bind (vT r_) fun r_1 =>
 Option.bind (wW 0 0 []) fun r_2 =>
 Option.bind (wW 1 0 ([0])) fun r_3 =>
 Option.bind (wW 0 0 ([0])) fun r_4 =>
 Option.bind (wW 1 0 []) fun r_5 =>
 Option.bind (ut 0 0) fun r_6 =>
 Option.bind (ut 0 1) fun r_7 =>
 Option.bind (ut 1 0) fun r_8 =>
 Option.bind (ut 1 0) fun r_9 =>
 Option.bind (ut 0 1) fun r_10 =>
 bif r_1.2.2 != 0 then (
  some false)
 else (
  Option.bind (j0 r_1.1 r_1.2.1 ([r_2, r_3, r_4, r_5]) ([[(z6.mk r_6 1)], [(z6.mk r_7 2), (z6.mk r_8 3)], [(z6.mk r_9 0)], [(z6.mk r_10 0)]])) fun r_11 =>
  bif r_11 == 0 then (
   some false)
  else (
   Option.bind (jt r_ []) fun r_12 =>
   Option.bind (jt r_ ([0])) fun r_13 =>
   bif r_12.2 != 0 then (
    some false)
   else (
    bif r_13.2 != 0 then (
     some false)
    else (
     Option.bind (kH r_12.1 (zF.mk 0 1 ([[(zf.mk 0 0 1)], [(zf.mk 0 0 3), (zf.mk 2 0 2)], [(zf.mk 0 0 0)], [(zf.mk 2 0 0)]]))) fun r_14 =>
     Option.bind (kH r_13.1 (zF.mk 0 1 ([[(zf.mk 0 0 1)], [(zf.mk 0 0 2), (zf.mk 0 0 3)], [(zf.mk 0 0 0)], [(zf.mk 0 0 0)]]))) fun r_15 =>
     bif (w64 (r_14 * r_15)) == 0 then (
      some false)
     else (
      Option.bind (qI r_) fun r_16 =>
      Option.bind (Y7 1 []) fun r_17 =>
      Option.bind (qI r_17) fun r_18 =>
      Option.bind (Y7 0 ([(ze.mk 0 2 0 0 0)])) fun r_19 =>
      Option.bind (vT r_19) fun r_20 =>
      bif r_16.2.2 != 7 then (
       some false)
      else (
       bif r_18.2.2 != 0 then (
        some false)
       else (
        Option.bind (ut 0 0) fun r_21 =>
        Option.bind (ut 0 1) fun r_22 =>
        Option.bind (Wc r_18.1 ([r_21, r_22])) fun r_23 =>
        bif r_23 == 0 then (
         some false)
        else (
         Option.bind (wW 0 0 ([0])) fun r_24 =>
         Option.bind (j5 r_18.2.1 r_24) fun r_25 =>
         bif r_25 == 0 then (
          some false)
         else (
          bif r_20.2.2 != 0 then (
           some false)
          else (
           Option.bind (wW 0 0 []) fun r_26 =>
           Option.bind (wW 1 0 []) fun r_27 =>
           Option.bind (ut 0 1) fun r_28 =>
           Option.bind (j0 r_20.1 r_20.2.1 ([r_26, r_27]) ([[(z6.mk (zc.mk 0 0 1 0) 1)], [(z6.mk r_28 0)]])) fun r_29 =>
           some (r_29 == 1)))))))))))
def uD (x_ : ya) : Option Bool :=
 Option.bind (Y8 (ya.mk x_.Channels x_.Parts)) fun r_ =>
 Option.bind (Za r_ 200) fun r_1 =>
 bif decide (((r_1.1.length : Nat) : Int) > 200) then (
  Option.bind (Zg) fun r_2 =>
  some r_2)
 else (
  Option.bind (vT r_) fun r_3 =>
  bif r_3.2.2 == 0 then (
   Option.bind (j0 r_3.1 r_3.2.1 r_1.1 r_1.2) fun r_4 =>
   bif r_4 == 1 then (
    Option.bind (Zg) fun r_5 =>
    some r_5)
   else (
    some false))
  else (
   some false))
abbrev F0_ := Xn (eI .i64)
abbrev F1_ := eSl 1 true (eI .i64)
abbrev F2_ := eSl 1 false (eI .i64)
abbrev F3_ := eOs 1 false (eI .i64)
abbrev F4_ := eSl 5 false (YU (eI .u8))
abbrev F5_ := eSl 1 true F1_
abbrev F6_ := eSl 1 true F2_
abbrev F7_ := eSl 1 false F2_
abbrev F8_ := wt (eI .u8) (eI .i64) (eI .i64)
abbrev F9_ := ym (eI .i64) F0_
abbrev z8k := Xn F9_
abbrev V3 := eSl 3 true F8_
abbrev ve := xe (eI .i64) (eI .i64) (eI .i64) (eI .i64)
abbrev Y2 := eSl 3 false F8_
abbrev Wx := uk (eI .u8) (eI .u8) F4_
abbrev vq := xy (eI .i64) (eI .u8) (eI .i64) (eI .i64) (eI .i64)
abbrev zb8 := eSl 1 true Y2
abbrev z64 := eSl 4 true ve
abbrev ze6 := eSl 1 false Y2
abbrev zaW := eSl 4 false ve
abbrev zeS := eSl 3 false Wx
abbrev KA := zI F1_ F5_
abbrev z2d := eSl 5 true vq
abbrev z8j := eSl 5 false vq
abbrev zeR := eOs 5 false vq
abbrev z6y := zI F1_ F6_
abbrev wd := zI F2_ F7_
abbrev uR := xc ve (eI .i64)
abbrev Um := Ut (eI .i64) ve
abbrev yS := yH F0_ z8k
abbrev zb7 := eSl 2 true z6y
abbrev z1v := eSl 2 true wd
abbrev z4h := eSl 2 false wd
abbrev wo := eSl 5 true uR
abbrev X8 := eSl 5 false uR
abbrev Ji := eOs 5 false uR
abbrev QW := kj (Jf (eI .u8)) zeS
abbrev z2E := wF (eI .i64) (eI .i64) ze6
abbrev Kz := eSl 1 true wo
abbrev z4r := eSl 1 false X8
abbrev z8v := yI (eI .i64) z2d F1_
abbrev wN := yI (eI .i64) z8j F2_
abbrev UP := yI (eI .i64) zeR F3_
abbrev z6x := eSp wN
abbrev zeQ := eSl 3 true z8v
abbrev z4q := eSl 3 false wN
abbrev ji := Xm ve wd
abbrev z6w := xa (eI .i64) (eI .i64) F1_ zeQ
abbrev xi := xa (eI .i64) (eI .i64) F2_ z4q
abbrev z4p := eSp xi
def rpN {α : Type _} (n : Nat) (a : α) (l : List α) : List α := Nat.rec l (fun _ r => a :: r) n
end Go.Own

namespace Go.Proofs
open Go.Shelf
def Tryd.so27_ren : Go.Shelf.Ren := ⟨fun | 6 => 27 | 15 => 54 | 14 => 53 | 28 => 75 | 29 => 76 | 20 => 67 | 21 => 68 | 22 => 69 | 23 => 70 | 24 => 71 | 25 => 72 | 26 => 73 | 27 => 74 | 46 => 84 | 47 => 85 | 48 => 86 | 49 => 87 | 50 => 88 | 57 => 89 | n => n, fun | 22 => 75 | 24 => 74 | 25 => 102 | 3 => 3 | 39 => 47 | 0 => 0 | 53 => 149 | 55 => 151 | 4 => 4 | 46 => 143 | 45 => 142 | 50 => 96 | 5 => 5 | 9 => 9 | 66 => 161 | 70 => 165 | 76 => 178 | 77 => 179 | n => n, fun | n => n⟩
theorem Tryd.so27 : Go.Proofs.SlLaysF0.n6 Tryd.prog Tryd.so27_ren := {
 mixed := by kernel_rfl
 f6 := ⟨Tryd.f27.name, by decide, Tryd.func27.trans (congrArg some (by kernel_rfl))⟩
 f14 := ⟨Tryd.f53.name, by decide, Tryd.func53.trans (congrArg some (by kernel_rfl))⟩
 f15 := Tryd.func54.trans (congrArg some (by kernel_rfl))
 f20 := ⟨Tryd.f67.name, by decide, Tryd.func67.trans (congrArg some (by kernel_rfl))⟩
 f21 := ⟨Tryd.f68.name, by decide, Tryd.func68.trans (congrArg some (by kernel_rfl))⟩
 f22 := ⟨Tryd.f69.name, by decide, Tryd.func69.trans (congrArg some (by kernel_rfl))⟩
 f23 := ⟨Tryd.f70.name, by decide, Tryd.func70.trans (congrArg some (by kernel_rfl))⟩
 f24 := ⟨Tryd.f71.name, by decide, Tryd.func71.trans (congrArg some (by kernel_rfl))⟩
 f25 := ⟨Tryd.f72.name, by decide, Tryd.func72.trans (congrArg some (by kernel_rfl))⟩
 f26 := ⟨Tryd.f73.name, by decide, Tryd.func73.trans (congrArg some (by kernel_rfl))⟩
 f27 := ⟨Tryd.f74.name, by decide, Tryd.func74.trans (congrArg some (by kernel_rfl))⟩
 f28 := Tryd.func75.trans (congrArg some (by kernel_rfl))
 f29 := Tryd.func76.trans (congrArg some (by kernel_rfl))
 f46 := ⟨Tryd.f84.name, by decide, Tryd.func84.trans (congrArg some (by kernel_rfl))⟩
 f47 := Tryd.func85.trans (congrArg some (by kernel_rfl))
 f48 := Tryd.func86.trans (congrArg some (by kernel_rfl))
 f49 := ⟨Tryd.f87.name, by decide, Tryd.func87.trans (congrArg some (by kernel_rfl))⟩
 f50 := ⟨Tryd.f88.name, by decide, Tryd.func88.trans (congrArg some (by kernel_rfl))⟩
 f57 := ⟨Tryd.f89.name, by decide, Tryd.func89.trans (congrArg some (by kernel_rfl))⟩
 t0 := Tryd.underlying0
 a0 := Tryd.isAgg0
 z0 := Tryd.sizeOf0
 v0 := Tryd.zeroValue0
 t3 := Tryd.underlying3
 a3 := Tryd.isAgg3
 z3 := Tryd.sizeOf3
 v3 := Tryd.zeroValue3
 t4 := Tryd.underlying4
 a4 := Tryd.isAgg4
 z4 := Tryd.sizeOf4
 v4 := Tryd.zeroValue4
 t5 := Tryd.underlying5
 a5 := Tryd.isAgg5
 z5 := Tryd.sizeOf5
 v5 := Tryd.zeroValue5
 t9 := Tryd.underlying9
 a9 := Tryd.isAgg9
 z9 := Tryd.sizeOf9
 v9 := Tryd.zeroValue9
 t22 := Tryd.underlying75
 a22 := Tryd.isAgg75
 z22 := Tryd.sizeOf75
 v22 := Tryd.zeroValue75
 t25 := Tryd.underlying102
 a25 := Tryd.isAgg102
 z25 := Tryd.sizeOf102
 v25 := Tryd.zeroValue102
 t39 := Tryd.underlying47
 a39 := Tryd.isAgg47
 z39 := Tryd.sizeOf47
 v39 := Tryd.zeroValue47
 t45 := Tryd.underlying142
 a45 := Tryd.isAgg142
 z45 := Tryd.sizeOf142
 v45 := Tryd.zeroValue142
 t46 := Tryd.underlying143
 a46 := Tryd.isAgg143
 z46 := Tryd.sizeOf143
 v46 := Tryd.zeroValue143
 t50 := Tryd.underlying96
 a50 := Tryd.isAgg96
 z50 := Tryd.sizeOf96
 v50 := Tryd.zeroValue96
 t53 := Tryd.underlying149
 a53 := Tryd.isAgg149
 z53 := Tryd.sizeOf149
 v53 := Tryd.zeroValue149
 t55 := Tryd.underlying151
 a55 := Tryd.isAgg151
 z55 := Tryd.sizeOf151
 v55 := Tryd.zeroValue151
 t66 := Tryd.underlying161
 a66 := Tryd.isAgg161
 z66 := Tryd.sizeOf161
 v66 := Tryd.zeroValue161
 t70 := Tryd.underlying165
 a70 := Tryd.isAgg165
 z70 := Tryd.sizeOf165
 v70 := Tryd.zeroValue165
 t76 := Tryd.underlying178
 a76 := Tryd.isAgg178
 z76 := Tryd.sizeOf178
 v76 := Tryd.zeroValue178
 t77 := Tryd.underlying179
 a77 := Tryd.isAgg179
 z77 := Tryd.sizeOf179
 v77 := Tryd.zeroValue179 }
end Go.Proofs
