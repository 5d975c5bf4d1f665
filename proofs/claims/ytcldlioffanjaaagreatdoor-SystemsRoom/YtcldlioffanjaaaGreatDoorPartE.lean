/- -/
import Derived.Test.YtcldlioffanjaaaGreatDoorPartB
import Derived.Test.YtcldlioffanjaaaGreatDoorProg
import Derived.Test.YtcldlioffanjaaaGreatDoorChecked
import Derived.Test.YtcldlioffanjaaaGreatDoorPartD
import Derived.LaidEql
import Derived.Stop.Asserts
import Derived.RowKitTokens
import Derived.Test.YtcldlioffanjaaaGreatDoorPartC
import Derived.Shelf.SlSortCmp.NoneTotal
import Derived.Ground.SlsfProg
set_option linter.unusedVariables false
set_option linter.unusedSimpArgs false
namespace Go.Ex
open Go.Proofs
theorem q5 : EqP Tryz.prog 5 [.int .u8 0] false 1 := z1y (k := .int .u8) Tryz.underlying5 ⟨_, (by kernel_rfl : Tryz.prog.info? 5 = some Tryz.t5), rfl⟩ rfl
theorem q22 : EqP Tryz.prog 22 (z26 2 [.int .u8 0]) true 2 := WU Tryz.underlying22 q5 ⟨_, (by kernel_rfl : Tryz.prog.info? 22 = some Tryz.t22), rfl⟩
def i22 : EI := ⟨.array 2 5, 2, 2, some [.int .u8 0, .int .u8 0], true⟩
theorem z8Q : Kf Tryz.prog 22 i22 := ⟨⟨Tryz.t22, by kernel_rfl, rfl, rfl, fun z h => by cases h; exact ⟨_, rfl, rfl, jP rfl, rfl, ⟨_, rfl⟩⟩⟩, Tryz.underlying22, fun _ => uC q22 rfl rfl (Nat.le_of_ble_eq_true (by kernel_rfl)) (by decide)⟩
theorem q3 : EqP Tryz.prog 3 [.int .i64 0] false 1 := z1y (k := .int .i64) Tryz.underlying3 ⟨_, (by kernel_rfl : Tryz.prog.info? 3 = some Tryz.t3), rfl⟩ rfl
theorem q60 : EqP Tryz.prog 60 (jN [([.int .u8 0], false), ([.int .i64 0], false), ([.int .i64 0], false)]) true 2 := wu Tryz.underlying60 (by kernel_rfl) ⟨_, (by kernel_rfl : Tryz.prog.info? 60 = some Tryz.t60), rfl⟩ (by decide) (zB.cons (by decide) rfl (q5.mono (by decide)) (zB.cons (by decide) rfl (q3.mono (by decide)) (zB.cons (by decide) rfl (q3.mono (by decide)) (zB.nil))))
def i60 : EI := ⟨.struct [(0, 5), (1, 3), (2, 3)], 3, 24, some [.int .u8 0, .int .i64 0, .int .i64 0], true⟩
theorem zd5 : Kf Tryz.prog 60 i60 := ⟨⟨Tryz.t60, by kernel_rfl, rfl, rfl, fun z h => by cases h; exact ⟨_, rfl, rfl, jP rfl, rfl, ⟨_, rfl⟩⟩⟩, ⟨_, Tryz.underlying60, by kernel_rfl, by
  intro f hf
  simp only [List.mem_cons, List.not_mem_nil, or_false] at hf
  rcases hf with rfl | rfl | rfl
  ·exact ⟨Tryz.t5, by kernel_rfl⟩
  ·exact ⟨Tryz.t3, by kernel_rfl⟩
  ·exact ⟨Tryz.t3, by kernel_rfl⟩⟩, fun _ => uC q60 rfl rfl (Nat.le_of_ble_eq_true (by kernel_rfl)) (by decide)⟩
theorem q61 : EqP Tryz.prog 61 (jN [([.int .u8 0], false), ([.int .i64 0], false), ([.int .i64 0], false)]) true 2 := wu Tryz.underlying61 (by kernel_rfl) ⟨_, (by kernel_rfl : Tryz.prog.info? 61 = some Tryz.t61), rfl⟩ (by decide) (zB.cons (by decide) rfl (q5.mono (by decide)) (zB.cons (by decide) rfl (q3.mono (by decide)) (zB.cons (by decide) rfl (q3.mono (by decide)) (zB.nil))))
def i61 : EI := ⟨.struct [(0, 5), (1, 3), (2, 3)], 3, 24, some [.int .u8 0, .int .i64 0, .int .i64 0], true⟩
theorem z8P : Kf Tryz.prog 61 i61 := ⟨⟨Tryz.t61, by kernel_rfl, rfl, rfl, fun z h => by cases h; exact ⟨_, rfl, rfl, jP rfl, rfl, ⟨_, rfl⟩⟩⟩, ⟨_, Tryz.underlying61, by kernel_rfl, by
  intro f hf
  simp only [List.mem_cons, List.not_mem_nil, or_false] at hf
  rcases hf with rfl | rfl | rfl
  ·exact ⟨Tryz.t5, by kernel_rfl⟩
  ·exact ⟨Tryz.t3, by kernel_rfl⟩
  ·exact ⟨Tryz.t3, by kernel_rfl⟩⟩, fun _ => uC q61 rfl rfl (Nat.le_of_ble_eq_true (by kernel_rfl)) (by decide)⟩
theorem q64 : EqP Tryz.prog 64 (jN [([.int .i64 0], false), ([.int .i64 0], false), ([.int .i64 0], false), ([.int .i64 0], false)]) true 2 := wu Tryz.underlying64 (by kernel_rfl) ⟨_, (by kernel_rfl : Tryz.prog.info? 64 = some Tryz.t64), rfl⟩ (by decide) (zB.cons (by decide) rfl (q3.mono (by decide)) (zB.cons (by decide) rfl (q3.mono (by decide)) (zB.cons (by decide) rfl (q3.mono (by decide)) (zB.cons (by decide) rfl (q3.mono (by decide)) (zB.nil)))))
def i64 : EI := ⟨.struct [(0, 3), (1, 3), (2, 3), (3, 3)], 4, 32, some [.int .i64 0, .int .i64 0, .int .i64 0, .int .i64 0], true⟩
theorem zd4 : Kf Tryz.prog 64 i64 := ⟨⟨Tryz.t64, by kernel_rfl, rfl, rfl, fun z h => by cases h; exact ⟨_, rfl, rfl, jP rfl, rfl, ⟨_, rfl⟩⟩⟩, ⟨_, Tryz.underlying64, by kernel_rfl, by
  intro f hf
  simp only [List.mem_cons, List.not_mem_nil, or_false] at hf
  rcases hf with rfl | rfl | rfl | rfl
  ·exact ⟨Tryz.t3, by kernel_rfl⟩
  ·exact ⟨Tryz.t3, by kernel_rfl⟩
  ·exact ⟨Tryz.t3, by kernel_rfl⟩
  ·exact ⟨Tryz.t3, by kernel_rfl⟩⟩, fun _ => uC q64 rfl rfl (Nat.le_of_ble_eq_true (by kernel_rfl)) (by decide)⟩
theorem q65 : EqP Tryz.prog 65 (jN [([.int .i64 0], false), ([.int .i64 0], false), ([.int .i64 0], false), ([.int .i64 0], false)]) true 2 := wu Tryz.underlying65 (by kernel_rfl) ⟨_, (by kernel_rfl : Tryz.prog.info? 65 = some Tryz.t65), rfl⟩ (by decide) (zB.cons (by decide) rfl (q3.mono (by decide)) (zB.cons (by decide) rfl (q3.mono (by decide)) (zB.cons (by decide) rfl (q3.mono (by decide)) (zB.cons (by decide) rfl (q3.mono (by decide)) (zB.nil)))))
def i65 : EI := ⟨.struct [(0, 3), (1, 3), (2, 3), (3, 3)], 4, 32, some [.int .i64 0, .int .i64 0, .int .i64 0, .int .i64 0], true⟩
theorem z8O : Kf Tryz.prog 65 i65 := ⟨⟨Tryz.t65, by kernel_rfl, rfl, rfl, fun z h => by cases h; exact ⟨_, rfl, rfl, jP rfl, rfl, ⟨_, rfl⟩⟩⟩, ⟨_, Tryz.underlying65, by kernel_rfl, by
  intro f hf
  simp only [List.mem_cons, List.not_mem_nil, or_false] at hf
  rcases hf with rfl | rfl | rfl | rfl
  ·exact ⟨Tryz.t3, by kernel_rfl⟩
  ·exact ⟨Tryz.t3, by kernel_rfl⟩
  ·exact ⟨Tryz.t3, by kernel_rfl⟩
  ·exact ⟨Tryz.t3, by kernel_rfl⟩⟩, fun _ => uC q65 rfl rfl (Nat.le_of_ble_eq_true (by kernel_rfl)) (by decide)⟩
theorem q96 : EqP Tryz.prog 96 (z26 5 [.int .u8 0]) true 2 := WU Tryz.underlying96 q5 ⟨_, (by kernel_rfl : Tryz.prog.info? 96 = some Tryz.t96), rfl⟩
def i96 : EI := ⟨.array 5 5, 5, 5, some [.int .u8 0, .int .u8 0, .int .u8 0, .int .u8 0, .int .u8 0], true⟩
theorem z8N : Kf Tryz.prog 96 i96 := ⟨⟨Tryz.t96, by kernel_rfl, rfl, rfl, fun z h => by cases h; exact ⟨_, rfl, rfl, jP rfl, rfl, ⟨_, rfl⟩⟩⟩, Tryz.underlying96, fun _ => uC q96 rfl rfl (Nat.le_of_ble_eq_true (by kernel_rfl)) (by decide)⟩
theorem q97 : EqP Tryz.prog 97 (jN [([.int .i64 0], false), ([.int .u8 0], false), ([.int .i64 0], false), ([.int .i64 0], false), ([.int .i64 0], false)]) true 2 := wu Tryz.underlying97 (by kernel_rfl) ⟨_, (by kernel_rfl : Tryz.prog.info? 97 = some Tryz.t97), rfl⟩ (by decide) (zB.cons (by decide) rfl (q3.mono (by decide)) (zB.cons (by decide) rfl (q5.mono (by decide)) (zB.cons (by decide) rfl (q3.mono (by decide)) (zB.cons (by decide) rfl (q3.mono (by decide)) (zB.cons (by decide) rfl (q3.mono (by decide)) (zB.nil))))))
def i97 : EI := ⟨.struct [(0, 3), (1, 5), (2, 3), (3, 3), (4, 3)], 5, 40, some [.int .i64 0, .int .u8 0, .int .i64 0, .int .i64 0, .int .i64 0], true⟩
theorem zd3 : Kf Tryz.prog 97 i97 := ⟨⟨Tryz.t97, by kernel_rfl, rfl, rfl, fun z h => by cases h; exact ⟨_, rfl, rfl, jP rfl, rfl, ⟨_, rfl⟩⟩⟩, ⟨_, Tryz.underlying97, by kernel_rfl, by
  intro f hf
  simp only [List.mem_cons, List.not_mem_nil, or_false] at hf
  rcases hf with rfl | rfl | rfl | rfl | rfl
  ·exact ⟨Tryz.t3, by kernel_rfl⟩
  ·exact ⟨Tryz.t5, by kernel_rfl⟩
  ·exact ⟨Tryz.t3, by kernel_rfl⟩
  ·exact ⟨Tryz.t3, by kernel_rfl⟩
  ·exact ⟨Tryz.t3, by kernel_rfl⟩⟩, fun _ => uC q97 rfl rfl (Nat.le_of_ble_eq_true (by kernel_rfl)) (by decide)⟩
theorem q98 : EqP Tryz.prog 98 (jN [([.int .i64 0], false), ([.int .u8 0], false), ([.int .i64 0], false), ([.int .i64 0], false), ([.int .i64 0], false)]) true 2 := wu Tryz.underlying98 (by kernel_rfl) ⟨_, (by kernel_rfl : Tryz.prog.info? 98 = some Tryz.t98), rfl⟩ (by decide) (zB.cons (by decide) rfl (q3.mono (by decide)) (zB.cons (by decide) rfl (q5.mono (by decide)) (zB.cons (by decide) rfl (q3.mono (by decide)) (zB.cons (by decide) rfl (q3.mono (by decide)) (zB.cons (by decide) rfl (q3.mono (by decide)) (zB.nil))))))
def i98 : EI := ⟨.struct [(0, 3), (1, 5), (2, 3), (3, 3), (4, 3)], 5, 40, some [.int .i64 0, .int .u8 0, .int .i64 0, .int .i64 0, .int .i64 0], true⟩
theorem z8M : Kf Tryz.prog 98 i98 := ⟨⟨Tryz.t98, by kernel_rfl, rfl, rfl, fun z h => by cases h; exact ⟨_, rfl, rfl, jP rfl, rfl, ⟨_, rfl⟩⟩⟩, ⟨_, Tryz.underlying98, by kernel_rfl, by
  intro f hf
  simp only [List.mem_cons, List.not_mem_nil, or_false] at hf
  rcases hf with rfl | rfl | rfl | rfl | rfl
  ·exact ⟨Tryz.t3, by kernel_rfl⟩
  ·exact ⟨Tryz.t5, by kernel_rfl⟩
  ·exact ⟨Tryz.t3, by kernel_rfl⟩
  ·exact ⟨Tryz.t3, by kernel_rfl⟩
  ·exact ⟨Tryz.t3, by kernel_rfl⟩⟩, fun _ => uC q98 rfl rfl (Nat.le_of_ble_eq_true (by kernel_rfl)) (by decide)⟩
theorem q99 : EqP Tryz.prog 99 (jN [([.int .i64 0, .int .i64 0, .int .i64 0, .int .i64 0], true), ([.int .i64 0], false)]) true 3 := wu Tryz.underlying99 (by kernel_rfl) ⟨_, (by kernel_rfl : Tryz.prog.info? 99 = some Tryz.t99), rfl⟩ (by decide) (zB.cons (by decide) rfl (q65.mono (by decide)) (zB.cons (by decide) rfl (q3.mono (by decide)) (zB.nil)))
def i99 : EI := ⟨.struct [(0, 65), (4, 3)], 5, 40, some [.int .i64 0, .int .i64 0, .int .i64 0, .int .i64 0, .int .i64 0], true⟩
theorem zd2 : Kf Tryz.prog 99 i99 := ⟨⟨Tryz.t99, by kernel_rfl, rfl, rfl, fun z h => by cases h; exact ⟨_, rfl, rfl, jP rfl, rfl, ⟨_, rfl⟩⟩⟩, ⟨_, Tryz.underlying99, by kernel_rfl, by
  intro f hf
  simp only [List.mem_cons, List.not_mem_nil, or_false] at hf
  rcases hf with rfl | rfl
  ·exact ⟨Tryz.t65, by kernel_rfl⟩
  ·exact ⟨Tryz.t3, by kernel_rfl⟩⟩, fun _ => uC q99 rfl rfl (Nat.le_of_ble_eq_true (by kernel_rfl)) (by decide)⟩
theorem zdT : EqP Tryz.prog 100 (jN [([.int .i64 0, .int .i64 0, .int .i64 0, .int .i64 0], true), ([.int .i64 0], false)]) true 3 := wu Tryz.underlying100 (by kernel_rfl) ⟨_, (by kernel_rfl : Tryz.prog.info? 100 = some Tryz.t100), rfl⟩ (by decide) (zB.cons (by decide) rfl (q65.mono (by decide)) (zB.cons (by decide) rfl (q3.mono (by decide)) (zB.nil)))
def ze4 : EI := ⟨.struct [(0, 65), (4, 3)], 5, 40, some [.int .i64 0, .int .i64 0, .int .i64 0, .int .i64 0, .int .i64 0], true⟩
theorem z7n : Kf Tryz.prog 100 ze4 := ⟨⟨Tryz.t100, by kernel_rfl, rfl, rfl, fun z h => by cases h; exact ⟨_, rfl, rfl, jP rfl, rfl, ⟨_, rfl⟩⟩⟩, ⟨_, Tryz.underlying100, by kernel_rfl, by
  intro f hf
  simp only [List.mem_cons, List.not_mem_nil, or_false] at hf
  rcases hf with rfl | rfl
  ·exact ⟨Tryz.t65, by kernel_rfl⟩
  ·exact ⟨Tryz.t3, by kernel_rfl⟩⟩, fun _ => uC zdT rfl rfl (Nat.le_of_ble_eq_true (by kernel_rfl)) (by decide)⟩
theorem zdS : EqP Tryz.prog 107 (jN [([.int .i64 0], false), ([.int .i64 0, .int .i64 0, .int .i64 0, .int .i64 0], true)]) true 3 := wu Tryz.underlying107 (by kernel_rfl) ⟨_, (by kernel_rfl : Tryz.prog.info? 107 = some Tryz.t107), rfl⟩ (by decide) (zB.cons (by decide) rfl (q3.mono (by decide)) (zB.cons (by decide) rfl (q65.mono (by decide)) (zB.nil)))
def ze3 : EI := ⟨.struct [(0, 3), (1, 65)], 5, 40, some [.int .i64 0, .int .i64 0, .int .i64 0, .int .i64 0, .int .i64 0], true⟩
theorem zbb : Kf Tryz.prog 107 ze3 := ⟨⟨Tryz.t107, by kernel_rfl, rfl, rfl, fun z h => by cases h; exact ⟨_, rfl, rfl, jP rfl, rfl, ⟨_, rfl⟩⟩⟩, ⟨_, Tryz.underlying107, by kernel_rfl, by
  intro f hf
  simp only [List.mem_cons, List.not_mem_nil, or_false] at hf
  rcases hf with rfl | rfl
  ·exact ⟨Tryz.t3, by kernel_rfl⟩
  ·exact ⟨Tryz.t65, by kernel_rfl⟩⟩, fun _ => uC zdS rfl rfl (Nat.le_of_ble_eq_true (by kernel_rfl)) (by decide)⟩
theorem zdR : EqP Tryz.prog 108 (jN [([.int .i64 0], false), ([.int .i64 0, .int .i64 0, .int .i64 0, .int .i64 0], true)]) true 3 := wu Tryz.underlying108 (by kernel_rfl) ⟨_, (by kernel_rfl : Tryz.prog.info? 108 = some Tryz.t108), rfl⟩ (by decide) (zB.cons (by decide) rfl (q3.mono (by decide)) (zB.cons (by decide) rfl (q65.mono (by decide)) (zB.nil)))
def ze2 : EI := ⟨.struct [(0, 3), (1, 65)], 5, 40, some [.int .i64 0, .int .i64 0, .int .i64 0, .int .i64 0, .int .i64 0], true⟩
theorem z7m : Kf Tryz.prog 108 ze2 := ⟨⟨Tryz.t108, by kernel_rfl, rfl, rfl, fun z h => by cases h; exact ⟨_, rfl, rfl, jP rfl, rfl, ⟨_, rfl⟩⟩⟩, ⟨_, Tryz.underlying108, by kernel_rfl, by
  intro f hf
  simp only [List.mem_cons, List.not_mem_nil, or_false] at hf
  rcases hf with rfl | rfl
  ·exact ⟨Tryz.t3, by kernel_rfl⟩
  ·exact ⟨Tryz.t65, by kernel_rfl⟩⟩, fun _ => uC zdR rfl rfl (Nat.le_of_ble_eq_true (by kernel_rfl)) (by decide)⟩
theorem z8v : EqP Tryz.prog 110 (z26 4 [.int .i64 0]) true 2 := WU Tryz.underlying110 q3 ⟨_, (by kernel_rfl : Tryz.prog.info? 110 = some Tryz.t110), rfl⟩
def ze1 : EI := ⟨.array 4 3, 4, 32, some [.int .i64 0, .int .i64 0, .int .i64 0, .int .i64 0], true⟩
theorem z7l : Kf Tryz.prog 110 ze1 := ⟨⟨Tryz.t110, by kernel_rfl, rfl, rfl, fun z h => by cases h; exact ⟨_, rfl, rfl, jP rfl, rfl, ⟨_, rfl⟩⟩⟩, Tryz.underlying110, fun _ => uC z8v rfl rfl (Nat.le_of_ble_eq_true (by kernel_rfl)) (by decide)⟩
theorem zdQ : EqP Tryz.prog 111 (jN [([.int .i64 0], false), ([.int .i64 0, .int .i64 0, .int .i64 0, .int .i64 0], true)]) true 3 := wu Tryz.underlying111 (by kernel_rfl) ⟨_, (by kernel_rfl : Tryz.prog.info? 111 = some Tryz.t111), rfl⟩ (by decide) (zB.cons (by decide) rfl (q3.mono (by decide)) (zB.cons (by decide) rfl (z8v.mono (by decide)) (zB.nil)))
def ze0 : EI := ⟨.struct [(0, 3), (1, 110)], 5, 40, some [.int .i64 0, .int .i64 0, .int .i64 0, .int .i64 0, .int .i64 0], true⟩
theorem zba : Kf Tryz.prog 111 ze0 := ⟨⟨Tryz.t111, by kernel_rfl, rfl, rfl, fun z h => by cases h; exact ⟨_, rfl, rfl, jP rfl, rfl, ⟨_, rfl⟩⟩⟩, ⟨_, Tryz.underlying111, by kernel_rfl, by
  intro f hf
  simp only [List.mem_cons, List.not_mem_nil, or_false] at hf
  rcases hf with rfl | rfl
  ·exact ⟨Tryz.t3, by kernel_rfl⟩
  ·exact ⟨Tryz.t110, by kernel_rfl⟩⟩, fun _ => uC zdQ rfl rfl (Nat.le_of_ble_eq_true (by kernel_rfl)) (by decide)⟩
theorem zcJ : EqP Tryz.prog 112 (jN [([.int .i64 0], false), ([.int .i64 0, .int .i64 0, .int .i64 0, .int .i64 0], true)]) true 3 := wu Tryz.underlying112 (by kernel_rfl) ⟨_, (by kernel_rfl : Tryz.prog.info? 112 = some Tryz.t112), rfl⟩ (by decide) (zB.cons (by decide) rfl (q3.mono (by decide)) (zB.cons (by decide) rfl (z8v.mono (by decide)) (zB.nil)))
def zdZ : EI := ⟨.struct [(0, 3), (1, 110)], 5, 40, some [.int .i64 0, .int .i64 0, .int .i64 0, .int .i64 0, .int .i64 0], true⟩
theorem z7k : Kf Tryz.prog 112 zdZ := ⟨⟨Tryz.t112, by kernel_rfl, rfl, rfl, fun z h => by cases h; exact ⟨_, rfl, rfl, jP rfl, rfl, ⟨_, rfl⟩⟩⟩, ⟨_, Tryz.underlying112, by kernel_rfl, by
  intro f hf
  simp only [List.mem_cons, List.not_mem_nil, or_false] at hf
  rcases hf with rfl | rfl
  ·exact ⟨Tryz.t3, by kernel_rfl⟩
  ·exact ⟨Tryz.t110, by kernel_rfl⟩⟩, fun _ => uC zcJ rfl rfl (Nat.le_of_ble_eq_true (by kernel_rfl)) (by decide)⟩
theorem zaV : EqP Tryz.prog 113 (z26 4 [.int .i64 0, .int .i64 0, .int .i64 0, .int .i64 0, .int .i64 0]) true 4 := WU Tryz.underlying113 zcJ ⟨_, (by kernel_rfl : Tryz.prog.info? 113 = some Tryz.t113), rfl⟩
def zdY : EI := ⟨.array 4 112, 20, 160, some [.int .i64 0, .int .i64 0, .int .i64 0, .int .i64 0, .int .i64 0, .int .i64 0, .int .i64 0, .int .i64 0, .int .i64 0, .int .i64 0, .int .i64 0, .int .i64 0, .int .i64 0, .int .i64 0, .int .i64 0, .int .i64 0, .int .i64 0, .int .i64 0, .int .i64 0, .int .i64 0], true⟩
theorem z7j : Kf Tryz.prog 113 zdY := ⟨⟨Tryz.t113, by kernel_rfl, rfl, rfl, fun z h => by cases h; exact ⟨_, rfl, rfl, jP rfl, rfl, ⟨_, rfl⟩⟩⟩, Tryz.underlying113, fun _ => uC zaV rfl rfl (Nat.le_of_ble_eq_true (by kernel_rfl)) (by decide)⟩
theorem zdP : EqP Tryz.prog 114 (jN [([.int .i64 0, .int .i64 0, .int .i64 0, .int .i64 0], true), ([.int .i64 0, .int .i64 0, .int .i64 0, .int .i64 0, .int .i64 0, .int .i64 0, .int .i64 0, .int .i64 0, .int .i64 0, .int .i64 0, .int .i64 0, .int .i64 0, .int .i64 0, .int .i64 0, .int .i64 0, .int .i64 0, .int .i64 0, .int .i64 0, .int .i64 0, .int .i64 0], true)]) true 5 := wu Tryz.underlying114 (by kernel_rfl) ⟨_, (by kernel_rfl : Tryz.prog.info? 114 = some Tryz.t114), rfl⟩ (by decide) (zB.cons (by decide) rfl (z8v.mono (by decide)) (zB.cons (by decide) rfl (zaV.mono (by decide)) (zB.nil)))
def zdX : EI := ⟨.struct [(0, 110), (4, 113)], 24, 192, some [.int .i64 0, .int .i64 0, .int .i64 0, .int .i64 0, .int .i64 0, .int .i64 0, .int .i64 0, .int .i64 0, .int .i64 0, .int .i64 0, .int .i64 0, .int .i64 0, .int .i64 0, .int .i64 0, .int .i64 0, .int .i64 0, .int .i64 0, .int .i64 0, .int .i64 0, .int .i64 0, .int .i64 0, .int .i64 0, .int .i64 0, .int .i64 0], true⟩
theorem zb9 : Kf Tryz.prog 114 zdX := ⟨⟨Tryz.t114, by kernel_rfl, rfl, rfl, fun z h => by cases h; exact ⟨_, rfl, rfl, jP rfl, rfl, ⟨_, rfl⟩⟩⟩, ⟨_, Tryz.underlying114, by kernel_rfl, by
  intro f hf
  simp only [List.mem_cons, List.not_mem_nil, or_false] at hf
  rcases hf with rfl | rfl
  ·exact ⟨Tryz.t110, by kernel_rfl⟩
  ·exact ⟨Tryz.t113, by kernel_rfl⟩⟩, fun _ => uC zdP rfl rfl (Nat.le_of_ble_eq_true (by kernel_rfl)) (by decide)⟩
theorem zdO : EqP Tryz.prog 115 (jN [([.int .i64 0, .int .i64 0, .int .i64 0, .int .i64 0], true), ([.int .i64 0, .int .i64 0, .int .i64 0, .int .i64 0, .int .i64 0, .int .i64 0, .int .i64 0, .int .i64 0, .int .i64 0, .int .i64 0, .int .i64 0, .int .i64 0, .int .i64 0, .int .i64 0, .int .i64 0, .int .i64 0, .int .i64 0, .int .i64 0, .int .i64 0, .int .i64 0], true)]) true 5 := wu Tryz.underlying115 (by kernel_rfl) ⟨_, (by kernel_rfl : Tryz.prog.info? 115 = some Tryz.t115), rfl⟩ (by decide) (zB.cons (by decide) rfl (z8v.mono (by decide)) (zB.cons (by decide) rfl (zaV.mono (by decide)) (zB.nil)))
def zdW : EI := ⟨.struct [(0, 110), (4, 113)], 24, 192, some [.int .i64 0, .int .i64 0, .int .i64 0, .int .i64 0, .int .i64 0, .int .i64 0, .int .i64 0, .int .i64 0, .int .i64 0, .int .i64 0, .int .i64 0, .int .i64 0, .int .i64 0, .int .i64 0, .int .i64 0, .int .i64 0, .int .i64 0, .int .i64 0, .int .i64 0, .int .i64 0, .int .i64 0, .int .i64 0, .int .i64 0, .int .i64 0], true⟩
theorem z38 : Kf Tryz.prog 115 zdW := ⟨⟨Tryz.t115, by kernel_rfl, rfl, rfl, fun z h => by cases h; exact ⟨_, rfl, rfl, jP rfl, rfl, ⟨_, rfl⟩⟩⟩, ⟨_, Tryz.underlying115, by kernel_rfl, by
  intro f hf
  simp only [List.mem_cons, List.not_mem_nil, or_false] at hf
  rcases hf with rfl | rfl
  ·exact ⟨Tryz.t110, by kernel_rfl⟩
  ·exact ⟨Tryz.t113, by kernel_rfl⟩⟩, fun _ => uC zdO rfl rfl (Nat.le_of_ble_eq_true (by kernel_rfl)) (by decide)⟩
end Go.Ex

namespace Go.Own
open Go.Proofs
def zb5 : Value → Bool
 | .int _ _ => true
 | _ => false
theorem z0b : ∀ {z vs us : List Value} {r : Bool}, z.all zb5 = true → z.length = vs.length → xq vs us = some r → Go.Ex.Kc z vs = true ∧ Go.Ex.xq vs us = some r
 | [], [], us, r, _, _, h => by
  cases us with
  | nil => simp only [xq, Option.some.injEq] at h; subst h; exact ⟨rfl, rfl⟩
  | cons u us => simp [xq] at h
 | a :: z, v :: vs, us, r, hz, hl, h => by
  have q : ∃ k x u' k' y, v = .int k x ∧ us = .int k' y :: u' ∧ k = k' := by
   cases us with
   | nil => cases v <;> simp [xq] at h
   | cons u us =>
    cases v <;> cases u <;> simp [xq] at h
    exact ⟨_, _, _, _, _, rfl, rfl, h.1⟩
  obtain ⟨k, x, u', k', y, rfl, rfl, hk⟩ := q
  simp only [xq, hk, if_true, Option.map_eq_some_iff] at h
  obtain ⟨r', e1, rfl⟩ := h
  simp only [List.all_cons, Bool.and_eq_true] at hz
  obtain ⟨q1, q2⟩ := z0b hz.2 (by simpa using hl) e1
  refine ⟨?_, by simp [Go.Ex.xq, hk, q2]⟩
  cases a <;> first | (simp [zb5] at hz; done) | simpa [Go.Ex.Kc] using q1
 | [], _ :: _, _, _, _, hl, _ => by simp at hl
 | _ :: _, [], _, _, _, hl, _ => by simp at hl
theorem Zd {P : Program} {t n : Nat} {i : Go.Ex.EI} (h : Go.Ex.z60 P t i) {z : List Value} (hz : i.zero = some z) (hi : z.all zb5 = true) (hs : i.size = n) (hn : z.length = n) : z60 P t n := {
 guard := h.guard
 run := fun vs us r w hv hu he => by
  obtain ⟨q1, q2⟩ := z0b hi (by rw [hn, hv]) he
  exact h.run vs us r w (by rw [hs]; exact hv) (by rw [hs]; exact hu) (by simpa only [Go.Ex.zbd, hz] using q1) q2 }
theorem zk {S : zq} {h : Array Obj} {v : Value} (hv : v.oneCell' = true) : zP S h (.atom v) [v] [] := by simp only [zP, Rep]; exact ⟨⟨trivial, hv⟩, trivial⟩
theorem xa {S : zq} {h : Array Obj} (sz : Nat) : zP S h (.osl sz true []) [.slice none 0 0] [] := by
 simp only [zP]
 exact ⟨none, 0, rfl, (fun _ => rfl), Nat.le_refl _, Nat.zero_le _, by simp, .inl ⟨trivial, rfl, rfl, trivial⟩⟩
theorem zZ {S : zq} {h : Array Obj} {fs : List A} {cs : List Value} (q : zW S h fs cs []) : zP S h (.agg fs) cs [] := by simpa only [zP] using q
theorem zL {S : zq} {h : Array Obj} : zW S h [] [] [] := by simp [zW]
theorem zj {S : zq} {h : Array Obj} {a : A} {fs : List A} {c1 c2 : List Value} (q1 : zP S h a c1 []) (q2 : zW S h fs c2 []) : zW S h (a :: fs) (c1 ++ c2) [] := by simp only [zW]; exact ⟨c1, c2, [], [], rfl, rfl, q1, q2⟩
def ti1 : TI := ⟨.other, 1, 8, some (.atom .nilFunc), false⟩
theorem z82 : jM Tryz.prog 1 ti1 := ⟨⟨Tryz.t1, by kernel_rfl, rfl, rfl, fun z h => by cases h; exact ⟨_, rfl, rfl, fun S h => zk rfl⟩⟩, ⟨_, Tryz.underlying1, rfl⟩, by intro h; cases h⟩
def ti2 : TI := ⟨.int .i64, 1, 8, some (.atom (.int .i64 0)), false⟩
theorem z81 : jM Tryz.prog 2 ti2 := ⟨⟨Tryz.t2, by kernel_rfl, rfl, rfl, fun z h => by cases h; exact ⟨_, rfl, rfl, fun S h => zk rfl⟩⟩, Tryz.underlying2, by intro h; cases h⟩
def ti3 : TI := ⟨.int .i64, 1, 8, some (.atom (.int .i64 0)), false⟩
theorem z80 : jM Tryz.prog 3 ti3 := ⟨⟨Tryz.t3, by kernel_rfl, rfl, rfl, fun z h => by cases h; exact ⟨_, rfl, rfl, fun S h => zk rfl⟩⟩, Tryz.underlying3, by intro h; cases h⟩
def ti4 : TI := ⟨.bool, 1, 1, some (.atom (.bool false)), false⟩
theorem z7Z : jM Tryz.prog 4 ti4 := ⟨⟨Tryz.t4, by kernel_rfl, rfl, rfl, fun z h => by cases h; exact ⟨_, rfl, rfl, fun S h => zk rfl⟩⟩, Tryz.underlying4, by intro h; cases h⟩
def ti5 : TI := ⟨.int .u8, 1, 1, some (.atom (.int .u8 0)), false⟩
theorem z7Y : jM Tryz.prog 5 ti5 := ⟨⟨Tryz.t5, by kernel_rfl, rfl, rfl, fun z h => by cases h; exact ⟨_, rfl, rfl, fun S h => zk rfl⟩⟩, Tryz.underlying5, by intro h; cases h⟩
def zcF : TI := ⟨.array 2 5, 2, 2, some (.agg [.atom (.int .u8 0), .atom (.int .u8 0)]), true⟩
theorem z6x : jM Tryz.prog 22 zcF := ⟨⟨Tryz.t22, by kernel_rfl, rfl, rfl, fun z h => by cases h; exact ⟨_, rfl, rfl, fun S h => zZ (zj (zk rfl) (zj (zk rfl) (zL)))⟩⟩, Tryz.underlying22, fun _ => Zd (Go.Ex.z8Q.eqn rfl) rfl rfl rfl rfl⟩
def zcE : TI := ⟨.slice 95, 1, 24, some (.osl 3 true []), false⟩
theorem z6w : jM Tryz.prog 23 zcE := ⟨⟨Tryz.t23, by kernel_rfl, rfl, rfl, fun z h => by cases h; exact ⟨_, rfl, rfl, fun S h => xa _⟩⟩, Tryz.underlying23, by intro h; cases h⟩
def zcD : TI := ⟨.struct [(0, 2), (2, 1)], 3, 32, some (.agg [.agg [.atom (.int .u8 0), .atom (.int .u8 0)], .osl 3 true []]), false⟩
theorem z6v : jM Tryz.prog 25 zcD := ⟨⟨Tryz.t25, by kernel_rfl, rfl, rfl, fun z h => by cases h; exact ⟨_, rfl, rfl, fun S h => zZ (zj (zZ (zj (zk rfl) (zj (zk rfl) (zL)))) (zj (xa _) (zL)))⟩⟩, ⟨_, Tryz.underlying25, by kernel_rfl, by
  intro f hf
  simp only [List.mem_cons, List.not_mem_nil, or_false] at hf
  rcases hf with rfl | rfl
  ·exact ⟨Tryz.t22, by kernel_rfl⟩
  ·exact ⟨Tryz.t23, by kernel_rfl⟩⟩, by intro h; cases h⟩
def zcC : TI := ⟨.slice 3, 1, 24, some (.osl 1 true []), false⟩
theorem z6u : jM Tryz.prog 26 zcC := ⟨⟨Tryz.t26, by kernel_rfl, rfl, rfl, fun z h => by cases h; exact ⟨_, rfl, rfl, fun S h => xa _⟩⟩, Tryz.underlying26, by intro h; cases h⟩
def zcB : TI := ⟨.slice 87, 1, 24, some (.osl 3 true []), false⟩
theorem z6t : jM Tryz.prog 27 zcB := ⟨⟨Tryz.t27, by kernel_rfl, rfl, rfl, fun z h => by cases h; exact ⟨_, rfl, rfl, fun S h => xa _⟩⟩, Tryz.underlying27, by intro h; cases h⟩
def zcA : TI := ⟨.struct [(0, 1), (1, 1), (2, 1), (3, 1)], 4, 64, some (.agg [.atom (.int .i64 0), .atom (.int .i64 0), .osl 1 true [], .osl 3 true []]), false⟩
theorem z6s : jM Tryz.prog 29 zcA := ⟨⟨Tryz.t29, by kernel_rfl, rfl, rfl, fun z h => by cases h; exact ⟨_, rfl, rfl, fun S h => zZ (zj (zk rfl) (zj (zk rfl) (zj (xa _) (zj (xa _) (zL)))))⟩⟩, ⟨_, Tryz.underlying29, by kernel_rfl, by
  intro f hf
  simp only [List.mem_cons, List.not_mem_nil, or_false] at hf
  rcases hf with rfl | rfl | rfl | rfl
  ·exact ⟨Tryz.t3, by kernel_rfl⟩
  ·exact ⟨Tryz.t3, by kernel_rfl⟩
  ·exact ⟨Tryz.t26, by kernel_rfl⟩
  ·exact ⟨Tryz.t27, by kernel_rfl⟩⟩, by intro h; cases h⟩
def zcz : TI := ⟨.slice 39, 1, 24, some (.osl 2 true []), false⟩
theorem z6r : jM Tryz.prog 31 zcz := ⟨⟨Tryz.t31, by kernel_rfl, rfl, rfl, fun z h => by cases h; exact ⟨_, rfl, rfl, fun S h => xa _⟩⟩, Tryz.underlying31, by intro h; cases h⟩
def zcy : TI := ⟨.slice 45, 1, 24, some (.osl 1 true []), false⟩
theorem z6q : jM Tryz.prog 32 zcy := ⟨⟨Tryz.t32, by kernel_rfl, rfl, rfl, fun z h => by cases h; exact ⟨_, rfl, rfl, fun S h => xa _⟩⟩, Tryz.underlying32, by intro h; cases h⟩
def zcx : TI := ⟨.slice 65, 1, 24, some (.osl 4 true []), false⟩
theorem z6p : jM Tryz.prog 36 zcx := ⟨⟨Tryz.t36, by kernel_rfl, rfl, rfl, fun z h => by cases h; exact ⟨_, rfl, rfl, fun S h => xa _⟩⟩, Tryz.underlying36, by intro h; cases h⟩
def zcw : TI := ⟨.slice 26, 1, 24, some (.osl 1 true []), false⟩
theorem z6o : jM Tryz.prog 37 zcw := ⟨⟨Tryz.t37, by kernel_rfl, rfl, rfl, fun z h => by cases h; exact ⟨_, rfl, rfl, fun S h => xa _⟩⟩, Tryz.underlying37, by intro h; cases h⟩
def zcv : TI := ⟨.struct [(0, 1), (1, 1)], 2, 48, some (.agg [.osl 1 true [], .osl 1 true []]), false⟩
theorem z6n : jM Tryz.prog 39 zcv := ⟨⟨Tryz.t39, by kernel_rfl, rfl, rfl, fun z h => by cases h; exact ⟨_, rfl, rfl, fun S h => zZ (zj (xa _) (zj (xa _) (zL)))⟩⟩, ⟨_, Tryz.underlying39, by kernel_rfl, by
  intro f hf
  simp only [List.mem_cons, List.not_mem_nil, or_false] at hf
  rcases hf with rfl | rfl
  ·exact ⟨Tryz.t26, by kernel_rfl⟩
  ·exact ⟨Tryz.t37, by kernel_rfl⟩⟩, by intro h; cases h⟩
def zcu : TI := ⟨.int .i64, 1, 8, some (.atom (.int .i64 0)), false⟩
theorem z6m : jM Tryz.prog 40 zcu := ⟨⟨Tryz.t40, by kernel_rfl, rfl, rfl, fun z h => by cases h; exact ⟨_, rfl, rfl, fun S h => zk rfl⟩⟩, Tryz.underlying40, by intro h; cases h⟩
def zct : TI := ⟨.slice 100, 1, 24, some (.osl 5 true []), false⟩
theorem z6l : jM Tryz.prog 45 zct := ⟨⟨Tryz.t45, by kernel_rfl, rfl, rfl, fun z h => by cases h; exact ⟨_, rfl, rfl, fun S h => xa _⟩⟩, Tryz.underlying45, by intro h; cases h⟩
def zcs : TI := ⟨.int .u64, 1, 8, some (.atom (.int .u64 0)), false⟩
theorem z6k : jM Tryz.prog 50 zcs := ⟨⟨Tryz.t50, by kernel_rfl, rfl, rfl, fun z h => by cases h; exact ⟨_, rfl, rfl, fun S h => zk rfl⟩⟩, Tryz.underlying50, by intro h; cases h⟩
def zcr : TI := ⟨.slice 59, 1, 24, some (.osl 1 true []), false⟩
theorem z6j : jM Tryz.prog 51 zcr := ⟨⟨Tryz.t51, by kernel_rfl, rfl, rfl, fun z h => by cases h; exact ⟨_, rfl, rfl, fun S h => xa _⟩⟩, Tryz.underlying51, by intro h; cases h⟩
def zcq : TI := ⟨.struct [(0, 1), (1, 1), (2, 1)], 3, 40, some (.agg [.atom (.int .i64 0), .atom (.int .i64 0), .osl 1 true []]), false⟩
theorem z6i : jM Tryz.prog 53 zcq := ⟨⟨Tryz.t53, by kernel_rfl, rfl, rfl, fun z h => by cases h; exact ⟨_, rfl, rfl, fun S h => zZ (zj (zk rfl) (zj (zk rfl) (zj (xa _) (zL))))⟩⟩, ⟨_, Tryz.underlying53, by kernel_rfl, by
  intro f hf
  simp only [List.mem_cons, List.not_mem_nil, or_false] at hf
  rcases hf with rfl | rfl | rfl
  ·exact ⟨Tryz.t3, by kernel_rfl⟩
  ·exact ⟨Tryz.t3, by kernel_rfl⟩
  ·exact ⟨Tryz.t51, by kernel_rfl⟩⟩, by intro h; cases h⟩
def zcp : TI := ⟨.slice 61, 1, 24, some (.osl 3 true []), false⟩
theorem z6h : jM Tryz.prog 59 zcp := ⟨⟨Tryz.t59, by kernel_rfl, rfl, rfl, fun z h => by cases h; exact ⟨_, rfl, rfl, fun S h => xa _⟩⟩, Tryz.underlying59, by intro h; cases h⟩
def zco : TI := ⟨.struct [(0, 1), (1, 1), (2, 1)], 3, 24, some (.agg [.atom (.int .u8 0), .atom (.int .i64 0), .atom (.int .i64 0)]), true⟩
theorem z6g : jM Tryz.prog 61 zco := ⟨⟨Tryz.t61, by kernel_rfl, rfl, rfl, fun z h => by cases h; exact ⟨_, rfl, rfl, fun S h => zZ (zj (zk rfl) (zj (zk rfl) (zj (zk rfl) (zL))))⟩⟩, ⟨_, Tryz.underlying61, by kernel_rfl, by
  intro f hf
  simp only [List.mem_cons, List.not_mem_nil, or_false] at hf
  rcases hf with rfl | rfl | rfl
  ·exact ⟨Tryz.t5, by kernel_rfl⟩
  ·exact ⟨Tryz.t3, by kernel_rfl⟩
  ·exact ⟨Tryz.t3, by kernel_rfl⟩⟩, fun _ => Zd (Go.Ex.z8P.eqn rfl) rfl rfl rfl rfl⟩
def zcn : TI := ⟨.struct [(0, 1), (1, 1), (2, 1), (3, 1)], 4, 32, some (.agg [.atom (.int .i64 0), .atom (.int .i64 0), .atom (.int .i64 0), .atom (.int .i64 0)]), true⟩
theorem z6f : jM Tryz.prog 65 zcn := ⟨⟨Tryz.t65, by kernel_rfl, rfl, rfl, fun z h => by cases h; exact ⟨_, rfl, rfl, fun S h => zZ (zj (zk rfl) (zj (zk rfl) (zj (zk rfl) (zj (zk rfl) (zL)))))⟩⟩, ⟨_, Tryz.underlying65, by kernel_rfl, by
  intro f hf
  simp only [List.mem_cons, List.not_mem_nil, or_false] at hf
  rcases hf with rfl | rfl | rfl | rfl
  ·exact ⟨Tryz.t3, by kernel_rfl⟩
  ·exact ⟨Tryz.t3, by kernel_rfl⟩
  ·exact ⟨Tryz.t3, by kernel_rfl⟩
  ·exact ⟨Tryz.t3, by kernel_rfl⟩⟩, fun _ => Zd (Go.Ex.z8O.eqn rfl) rfl rfl rfl rfl⟩
def zcm : TI := ⟨.slice 73, 1, 24, some (.osl 6 true []), false⟩
theorem z6e : jM Tryz.prog 68 zcm := ⟨⟨Tryz.t68, by kernel_rfl, rfl, rfl, fun z h => by cases h; exact ⟨_, rfl, rfl, fun S h => xa _⟩⟩, Tryz.underlying68, by intro h; cases h⟩
def zcl : TI := ⟨.struct [(0, 4), (4, 2)], 6, 80, some (.agg [.agg [.atom (.int .i64 0), .atom (.int .i64 0), .atom (.int .i64 0), .atom (.int .i64 0)], .agg [.osl 1 true [], .osl 1 true []]]), false⟩
theorem z6d : jM Tryz.prog 73 zcl := ⟨⟨Tryz.t73, by kernel_rfl, rfl, rfl, fun z h => by cases h; exact ⟨_, rfl, rfl, fun S h => zZ (zj (zZ (zj (zk rfl) (zj (zk rfl) (zj (zk rfl) (zj (zk rfl) (zL)))))) (zj (zZ (zj (xa _) (zj (xa _) (zL)))) (zL)))⟩⟩, ⟨_, Tryz.underlying73, by kernel_rfl, by
  intro f hf
  simp only [List.mem_cons, List.not_mem_nil, or_false] at hf
  rcases hf with rfl | rfl
  ·exact ⟨Tryz.t65, by kernel_rfl⟩
  ·exact ⟨Tryz.t39, by kernel_rfl⟩⟩, by intro h; cases h⟩
def zck : TI := ⟨.slice 5, 1, 24, some (.osl 1 true []), false⟩
theorem z6c : jM Tryz.prog 75 zck := ⟨⟨Tryz.t75, by kernel_rfl, rfl, rfl, fun z h => by cases h; exact ⟨_, rfl, rfl, fun S h => xa _⟩⟩, Tryz.underlying75, by intro h; cases h⟩
def zcj : TI := ⟨.other, 1, 8, some (.atom .nilFunc), false⟩
theorem z6b : jM Tryz.prog 82 zcj := ⟨⟨Tryz.t82, by kernel_rfl, rfl, rfl, fun z h => by cases h; exact ⟨_, rfl, rfl, fun S h => zk rfl⟩⟩, ⟨_, Tryz.underlying82, rfl⟩, by intro h; cases h⟩
def zci : TI := ⟨.slice 98, 1, 24, some (.osl 5 true []), false⟩
theorem z6a : jM Tryz.prog 85 zci := ⟨⟨Tryz.t85, by kernel_rfl, rfl, rfl, fun z h => by cases h; exact ⟨_, rfl, rfl, fun S h => xa _⟩⟩, Tryz.underlying85, by intro h; cases h⟩
def zch : TI := ⟨.struct [(0, 1), (1, 1), (2, 1)], 3, 56, some (.agg [.atom (.int .i64 0), .osl 5 true [], .osl 1 true []]), false⟩
theorem z69 : jM Tryz.prog 87 zch := ⟨⟨Tryz.t87, by kernel_rfl, rfl, rfl, fun z h => by cases h; exact ⟨_, rfl, rfl, fun S h => zZ (zj (zk rfl) (zj (xa _) (zj (xa _) (zL))))⟩⟩, ⟨_, Tryz.underlying87, by kernel_rfl, by
  intro f hf
  simp only [List.mem_cons, List.not_mem_nil, or_false] at hf
  rcases hf with rfl | rfl | rfl
  ·exact ⟨Tryz.t3, by kernel_rfl⟩
  ·exact ⟨Tryz.t85, by kernel_rfl⟩
  ·exact ⟨Tryz.t26, by kernel_rfl⟩⟩, by intro h; cases h⟩
def zcg : TI := ⟨.slice 96, 1, 24, some (.osl 5 true []), false⟩
theorem z68 : jM Tryz.prog 93 zcg := ⟨⟨Tryz.t93, by kernel_rfl, rfl, rfl, fun z h => by cases h; exact ⟨_, rfl, rfl, fun S h => xa _⟩⟩, Tryz.underlying93, by intro h; cases h⟩
def zcf : TI := ⟨.struct [(0, 1), (1, 1), (2, 1)], 3, 32, some (.agg [.atom (.int .u8 0), .atom (.int .u8 0), .osl 5 true []]), false⟩
theorem z67 : jM Tryz.prog 95 zcf := ⟨⟨Tryz.t95, by kernel_rfl, rfl, rfl, fun z h => by cases h; exact ⟨_, rfl, rfl, fun S h => zZ (zj (zk rfl) (zj (zk rfl) (zj (xa _) (zL))))⟩⟩, ⟨_, Tryz.underlying95, by kernel_rfl, by
  intro f hf
  simp only [List.mem_cons, List.not_mem_nil, or_false] at hf
  rcases hf with rfl | rfl | rfl
  ·exact ⟨Tryz.t5, by kernel_rfl⟩
  ·exact ⟨Tryz.t5, by kernel_rfl⟩
  ·exact ⟨Tryz.t93, by kernel_rfl⟩⟩, by intro h; cases h⟩
def zce : TI := ⟨.array 5 5, 5, 5, some (.agg [.atom (.int .u8 0), .atom (.int .u8 0), .atom (.int .u8 0), .atom (.int .u8 0), .atom (.int .u8 0)]), true⟩
theorem z65 : jM Tryz.prog 96 zce := ⟨⟨Tryz.t96, by kernel_rfl, rfl, rfl, fun z h => by cases h; exact ⟨_, rfl, rfl, fun S h => zZ (zj (zk rfl) (zj (zk rfl) (zj (zk rfl) (zj (zk rfl) (zj (zk rfl) (zL))))))⟩⟩, Tryz.underlying96, fun _ => Zd (Go.Ex.z8N.eqn rfl) rfl rfl rfl rfl⟩
def zcd : TI := ⟨.struct [(0, 1), (1, 1), (2, 1), (3, 1), (4, 1)], 5, 40, some (.agg [.atom (.int .i64 0), .atom (.int .u8 0), .atom (.int .i64 0), .atom (.int .i64 0), .atom (.int .i64 0)]), true⟩
theorem z64 : jM Tryz.prog 98 zcd := ⟨⟨Tryz.t98, by kernel_rfl, rfl, rfl, fun z h => by cases h; exact ⟨_, rfl, rfl, fun S h => zZ (zj (zk rfl) (zj (zk rfl) (zj (zk rfl) (zj (zk rfl) (zj (zk rfl) (zL))))))⟩⟩, ⟨_, Tryz.underlying98, by kernel_rfl, by
  intro f hf
  simp only [List.mem_cons, List.not_mem_nil, or_false] at hf
  rcases hf with rfl | rfl | rfl | rfl | rfl
  ·exact ⟨Tryz.t3, by kernel_rfl⟩
  ·exact ⟨Tryz.t5, by kernel_rfl⟩
  ·exact ⟨Tryz.t3, by kernel_rfl⟩
  ·exact ⟨Tryz.t3, by kernel_rfl⟩
  ·exact ⟨Tryz.t3, by kernel_rfl⟩⟩, fun _ => Zd (Go.Ex.z8M.eqn rfl) rfl rfl rfl rfl⟩
def z8l : TI := ⟨.struct [(0, 4), (4, 1)], 5, 40, some (.agg [.agg [.atom (.int .i64 0), .atom (.int .i64 0), .atom (.int .i64 0), .atom (.int .i64 0)], .atom (.int .i64 0)]), true⟩
theorem z4i : jM Tryz.prog 100 z8l := ⟨⟨Tryz.t100, by kernel_rfl, rfl, rfl, fun z h => by cases h; exact ⟨_, rfl, rfl, fun S h => zZ (zj (zZ (zj (zk rfl) (zj (zk rfl) (zj (zk rfl) (zj (zk rfl) (zL)))))) (zj (zk rfl) (zL)))⟩⟩, ⟨_, Tryz.underlying100, by kernel_rfl, by
  intro f hf
  simp only [List.mem_cons, List.not_mem_nil, or_false] at hf
  rcases hf with rfl | rfl
  ·exact ⟨Tryz.t65, by kernel_rfl⟩
  ·exact ⟨Tryz.t3, by kernel_rfl⟩⟩, fun _ => Zd (Go.Ex.z7n.eqn rfl) rfl rfl rfl rfl⟩
def z8k : TI := ⟨.slice 115, 1, 24, some (.osl 24 true []), false⟩
theorem z4h : jM Tryz.prog 103 z8k := ⟨⟨Tryz.t103, by kernel_rfl, rfl, rfl, fun z h => by cases h; exact ⟨_, rfl, rfl, fun S h => xa _⟩⟩, Tryz.underlying103, by intro h; cases h⟩
def z8j : TI := ⟨.slice 108, 1, 24, some (.osl 5 true []), false⟩
theorem z4g : jM Tryz.prog 106 z8j := ⟨⟨Tryz.t106, by kernel_rfl, rfl, rfl, fun z h => by cases h; exact ⟨_, rfl, rfl, fun S h => xa _⟩⟩, Tryz.underlying106, by intro h; cases h⟩
def z8i : TI := ⟨.struct [(0, 1), (1, 4)], 5, 40, some (.agg [.atom (.int .i64 0), .agg [.atom (.int .i64 0), .atom (.int .i64 0), .atom (.int .i64 0), .atom (.int .i64 0)]]), true⟩
theorem z4f : jM Tryz.prog 108 z8i := ⟨⟨Tryz.t108, by kernel_rfl, rfl, rfl, fun z h => by cases h; exact ⟨_, rfl, rfl, fun S h => zZ (zj (zk rfl) (zj (zZ (zj (zk rfl) (zj (zk rfl) (zj (zk rfl) (zj (zk rfl) (zL)))))) (zL)))⟩⟩, ⟨_, Tryz.underlying108, by kernel_rfl, by
  intro f hf
  simp only [List.mem_cons, List.not_mem_nil, or_false] at hf
  rcases hf with rfl | rfl
  ·exact ⟨Tryz.t3, by kernel_rfl⟩
  ·exact ⟨Tryz.t65, by kernel_rfl⟩⟩, fun _ => Zd (Go.Ex.z7m.eqn rfl) rfl rfl rfl rfl⟩
def z8h : TI := ⟨.array 4 3, 4, 32, some (.agg [.atom (.int .i64 0), .atom (.int .i64 0), .atom (.int .i64 0), .atom (.int .i64 0)]), true⟩
theorem z4e : jM Tryz.prog 110 z8h := ⟨⟨Tryz.t110, by kernel_rfl, rfl, rfl, fun z h => by cases h; exact ⟨_, rfl, rfl, fun S h => zZ (zj (zk rfl) (zj (zk rfl) (zj (zk rfl) (zj (zk rfl) (zL)))))⟩⟩, Tryz.underlying110, fun _ => Zd (Go.Ex.z7l.eqn rfl) rfl rfl rfl rfl⟩
def z8g : TI := ⟨.struct [(0, 1), (1, 4)], 5, 40, some (.agg [.atom (.int .i64 0), .agg [.atom (.int .i64 0), .atom (.int .i64 0), .atom (.int .i64 0), .atom (.int .i64 0)]]), true⟩
theorem z4d : jM Tryz.prog 112 z8g := ⟨⟨Tryz.t112, by kernel_rfl, rfl, rfl, fun z h => by cases h; exact ⟨_, rfl, rfl, fun S h => zZ (zj (zk rfl) (zj (zZ (zj (zk rfl) (zj (zk rfl) (zj (zk rfl) (zj (zk rfl) (zL)))))) (zL)))⟩⟩, ⟨_, Tryz.underlying112, by kernel_rfl, by
  intro f hf
  simp only [List.mem_cons, List.not_mem_nil, or_false] at hf
  rcases hf with rfl | rfl
  ·exact ⟨Tryz.t3, by kernel_rfl⟩
  ·exact ⟨Tryz.t110, by kernel_rfl⟩⟩, fun _ => Zd (Go.Ex.z7k.eqn rfl) rfl rfl rfl rfl⟩
def z8f : TI := ⟨.array 4 112, 20, 160, some (.agg [.agg [.atom (.int .i64 0), .agg [.atom (.int .i64 0), .atom (.int .i64 0), .atom (.int .i64 0), .atom (.int .i64 0)]], .agg [.atom (.int .i64 0), .agg [.atom (.int .i64 0), .atom (.int .i64 0), .atom (.int .i64 0), .atom (.int .i64 0)]], .agg [.atom (.int .i64 0), .agg [.atom (.int .i64 0), .atom (.int .i64 0), .atom (.int .i64 0), .atom (.int .i64 0)]], .agg [.atom (.int .i64 0), .agg [.atom (.int .i64 0), .atom (.int .i64 0), .atom (.int .i64 0), .atom (.int .i64 0)]]]), true⟩
theorem z4c : jM Tryz.prog 113 z8f := ⟨⟨Tryz.t113, by kernel_rfl, rfl, rfl, fun z h => by cases h; exact ⟨_, rfl, rfl, fun S h => zZ (zj (zZ (zj (zk rfl) (zj (zZ (zj (zk rfl) (zj (zk rfl) (zj (zk rfl) (zj (zk rfl) (zL)))))) (zL)))) (zj (zZ (zj (zk rfl) (zj (zZ (zj (zk rfl) (zj (zk rfl) (zj (zk rfl) (zj (zk rfl) (zL)))))) (zL)))) (zj (zZ (zj (zk rfl) (zj (zZ (zj (zk rfl) (zj (zk rfl) (zj (zk rfl) (zj (zk rfl) (zL)))))) (zL)))) (zj (zZ (zj (zk rfl) (zj (zZ (zj (zk rfl) (zj (zk rfl) (zj (zk rfl) (zj (zk rfl) (zL)))))) (zL)))) (zL)))))⟩⟩, Tryz.underlying113, fun _ => Zd (Go.Ex.z7j.eqn rfl) rfl rfl rfl rfl⟩
def z8e : TI := ⟨.struct [(0, 4), (4, 20)], 24, 192, some (.agg [.agg [.atom (.int .i64 0), .atom (.int .i64 0), .atom (.int .i64 0), .atom (.int .i64 0)], .agg [.agg [.atom (.int .i64 0), .agg [.atom (.int .i64 0), .atom (.int .i64 0), .atom (.int .i64 0), .atom (.int .i64 0)]], .agg [.atom (.int .i64 0), .agg [.atom (.int .i64 0), .atom (.int .i64 0), .atom (.int .i64 0), .atom (.int .i64 0)]], .agg [.atom (.int .i64 0), .agg [.atom (.int .i64 0), .atom (.int .i64 0), .atom (.int .i64 0), .atom (.int .i64 0)]], .agg [.atom (.int .i64 0), .agg [.atom (.int .i64 0), .atom (.int .i64 0), .atom (.int .i64 0), .atom (.int .i64 0)]]]]), true⟩
theorem z10 : jM Tryz.prog 115 z8e := ⟨⟨Tryz.t115, by kernel_rfl, rfl, rfl, fun z h => by cases h; exact ⟨_, rfl, rfl, fun S h => zZ (zj (zZ (zj (zk rfl) (zj (zk rfl) (zj (zk rfl) (zj (zk rfl) (zL)))))) (zj (zZ (zj (zZ (zj (zk rfl) (zj (zZ (zj (zk rfl) (zj (zk rfl) (zj (zk rfl) (zj (zk rfl) (zL)))))) (zL)))) (zj (zZ (zj (zk rfl) (zj (zZ (zj (zk rfl) (zj (zk rfl) (zj (zk rfl) (zj (zk rfl) (zL)))))) (zL)))) (zj (zZ (zj (zk rfl) (zj (zZ (zj (zk rfl) (zj (zk rfl) (zj (zk rfl) (zj (zk rfl) (zL)))))) (zL)))) (zj (zZ (zj (zk rfl) (zj (zZ (zj (zk rfl) (zj (zk rfl) (zj (zk rfl) (zj (zk rfl) (zL)))))) (zL)))) (zL)))))) (zL)))⟩⟩, ⟨_, Tryz.underlying115, by kernel_rfl, by
  intro f hf
  simp only [List.mem_cons, List.not_mem_nil, or_false] at hf
  rcases hf with rfl | rfl
  ·exact ⟨Tryz.t110, by kernel_rfl⟩
  ·exact ⟨Tryz.t113, by kernel_rfl⟩⟩, fun _ => Zd (Go.Ex.z38.eqn rfl) rfl rfl rfl rfl⟩
def z8d : TI := ⟨.other, 1, 8, some (.atom .nilFunc), false⟩
theorem z4b : jM Tryz.prog 129 z8d := ⟨⟨Tryz.t129, by kernel_rfl, rfl, rfl, fun z h => by cases h; exact ⟨_, rfl, rfl, fun S h => zk rfl⟩⟩, ⟨_, Tryz.underlying129, rfl⟩, by intro h; cases h⟩
def z8c : TI := ⟨.other, 1, 8, some (.atom .nilFunc), false⟩
theorem z4a : jM Tryz.prog 130 z8c := ⟨⟨Tryz.t130, by kernel_rfl, rfl, rfl, fun z h => by cases h; exact ⟨_, rfl, rfl, fun S h => zk rfl⟩⟩, ⟨_, Tryz.underlying130, rfl⟩, by intro h; cases h⟩
def z8b : TI := ⟨.other, 1, 8, some (.atom .nilFunc), false⟩
theorem z49 : jM Tryz.prog 136 z8b := ⟨⟨Tryz.t136, by kernel_rfl, rfl, rfl, fun z h => by cases h; exact ⟨_, rfl, rfl, fun S h => zk rfl⟩⟩, ⟨_, Tryz.underlying136, rfl⟩, by intro h; cases h⟩
def z8a : TI := ⟨.other, 1, 8, some (.atom .nilFunc), false⟩
theorem z48 : jM Tryz.prog 139 z8a := ⟨⟨Tryz.t139, by kernel_rfl, rfl, rfl, fun z h => by cases h; exact ⟨_, rfl, rfl, fun S h => zk rfl⟩⟩, ⟨_, Tryz.underlying139, rfl⟩, by intro h; cases h⟩
def z89 : TI := ⟨.other, 1, 8, some (.atom (.map none)), false⟩
theorem z47 : jM Tryz.prog 142 z89 := ⟨⟨Tryz.t142, by kernel_rfl, rfl, rfl, fun z h => by cases h; exact ⟨_, rfl, rfl, fun S h => zk rfl⟩⟩, ⟨_, Tryz.underlying142, rfl⟩, by intro h; cases h⟩
def z88 : TI := ⟨.other, 1, 8, some (.atom .nilFunc), false⟩
theorem z44 : jM Tryz.prog 149 z88 := ⟨⟨Tryz.t149, by kernel_rfl, rfl, rfl, fun z h => by cases h; exact ⟨_, rfl, rfl, fun S h => zk rfl⟩⟩, ⟨_, Tryz.underlying149, rfl⟩, by intro h; cases h⟩
def z87 : TI := ⟨.other, 1, 8, some (.atom .nilFunc), false⟩
theorem z43 : jM Tryz.prog 150 z87 := ⟨⟨Tryz.t150, by kernel_rfl, rfl, rfl, fun z h => by cases h; exact ⟨_, rfl, rfl, fun S h => zk rfl⟩⟩, ⟨_, Tryz.underlying150, rfl⟩, by intro h; cases h⟩
def z86 : TI := ⟨.other, 1, 8, some (.atom .nilFunc), false⟩
theorem z42 : jM Tryz.prog 151 z86 := ⟨⟨Tryz.t151, by kernel_rfl, rfl, rfl, fun z h => by cases h; exact ⟨_, rfl, rfl, fun S h => zk rfl⟩⟩, ⟨_, Tryz.underlying151, rfl⟩, by intro h; cases h⟩
def z85 : TI := ⟨.other, 1, 16, some (.atom .nilIface), false⟩
theorem z41 : jM Tryz.prog 154 z85 := ⟨⟨Tryz.t154, by kernel_rfl, rfl, rfl, fun z h => by cases h; exact ⟨_, rfl, rfl, fun S h => zk rfl⟩⟩, ⟨_, Tryz.underlying154, rfl⟩, by intro h; cases h⟩
def z84 : TI := ⟨.other, 1, 8, some (.atom .nilFunc), false⟩
theorem z40 : jM Tryz.prog 160 z84 := ⟨⟨Tryz.t160, by kernel_rfl, rfl, rfl, fun z h => by cases h; exact ⟨_, rfl, rfl, fun S h => zk rfl⟩⟩, ⟨_, Tryz.underlying160, rfl⟩, by intro h; cases h⟩
def z83 : TI := ⟨.other, 1, 8, some (.atom .nilFunc), false⟩
theorem z3Z : jM Tryz.prog 174 z83 := ⟨⟨Tryz.t174, by kernel_rfl, rfl, rfl, fun z h => by cases h; exact ⟨_, rfl, rfl, fun S h => zk rfl⟩⟩, ⟨_, Tryz.underlying174, rfl⟩, by intro h; cases h⟩
def tiL : List (Nat × TI) := [(1, ti1), (2, ti2), (3, ti3), (4, ti4), (5, ti5), (22, zcF), (23, zcE), (25, zcD), (26, zcC), (27, zcB), (29, zcA), (31, zcz), (32, zcy), (36, zcx), (37, zcw), (39, zcv), (40, zcu), (45, zct), (50, zcs), (51, zcr), (53, zcq), (59, zcp), (61, zco), (65, zcn), (68, zcm), (73, zcl), (75, zck), (82, zcj), (85, zci), (87, zch), (93, zcg), (95, zcf), (96, zce), (98, zcd), (100, z8l), (103, z8k), (106, z8j), (108, z8i), (110, z8h), (112, z8g), (113, z8f), (115, z8e), (129, z8d), (130, z8c), (136, z8b), (139, z8a), (142, z89), (149, z88), (150, z87), (151, z86), (154, z85), (160, z84), (174, z83)]
def xQ : TT := fun t => (tiL.find? fun p => p.1 == t).map (·.2)
def z3M (P : Program) : List (Nat × TI) → Prop
 | [] => True
 | p :: l => jM P p.1 p.2 ∧ z3M P l
theorem z3M.mem {P : Program} : ∀ {l : List (Nat × TI)}, z3M P l → ∀ p ∈ l, jM P p.1 p.2
 | p :: _, h, q, hq => by
  rcases List.mem_cons.1 hq with rfl | hq
  ·exact h.1
  ·exact z3M.mem h.2 q hq
 | [], _, _, hq => by cases hq
theorem z7X : z3M Tryz.prog tiL := ⟨z82, z81, z80, z7Z, z7Y, z6x, z6w, z6v, z6u, z6t, z6s, z6r, z6q, z6p, z6o, z6n, z6m, z6l, z6k, z6j, z6i, z6h, z6g, z6f, z6e, z6d, z6c, z6b, z6a, z69, z68, z67, z65, z64, z4i, z4h, z4g, z4f, z4e, z4d, z4c, z10, z4b, z4a, z49, z48, z47, z44, z43, z42, z41, z40, z3Z, trivial⟩
theorem zQ : wF Tryz.prog xQ := by
 intro t i h
 unfold xQ at h
 rw [Option.map_eq_some_iff] at h
 obtain ⟨p, h1, rfl⟩ := h
 have h2 := List.find?_some h1
 have h3 := z7X.mem p (List.mem_of_find?_eq_some h1)
 rw [beq_iff_eq.1 h2] at h3
 exact h3
theorem zec : xQ 1 = some ⟨.other, 1, 8, some (.atom .nilFunc), false⟩ := rfl
theorem zeb : xQ 2 = some ⟨.int .i64, 1, 8, some (.atom (.int .i64 0)), false⟩ := rfl
theorem zea : xQ 3 = some ⟨.int .i64, 1, 8, some (.atom (.int .i64 0)), false⟩ := rfl
theorem ze9 : xQ 4 = some ⟨.bool, 1, 1, some (.atom (.bool false)), false⟩ := rfl
theorem ze8 : xQ 5 = some ⟨.int .u8, 1, 1, some (.atom (.int .u8 0)), false⟩ := rfl
theorem zbR : xQ 22 = some ⟨.array 2 5, 2, 2, some (.agg [.atom (.int .u8 0), .atom (.int .u8 0)]), true⟩ := rfl
theorem zbQ : xQ 23 = some ⟨.slice 95, 1, 24, some (.osl 3 true []), false⟩ := rfl
theorem zbP : xQ 25 = some ⟨.struct [(0, 2), (2, 1)], 3, 32, some (.agg [.agg [.atom (.int .u8 0), .atom (.int .u8 0)], .osl 3 true []]), false⟩ := rfl
theorem zbO : xQ 26 = some ⟨.slice 3, 1, 24, some (.osl 1 true []), false⟩ := rfl
theorem zbN : xQ 27 = some ⟨.slice 87, 1, 24, some (.osl 3 true []), false⟩ := rfl
theorem zbM : xQ 29 = some ⟨.struct [(0, 1), (1, 1), (2, 1), (3, 1)], 4, 64, some (.agg [.atom (.int .i64 0), .atom (.int .i64 0), .osl 1 true [], .osl 3 true []]), false⟩ := rfl
theorem zbL : xQ 31 = some ⟨.slice 39, 1, 24, some (.osl 2 true []), false⟩ := rfl
theorem zbK : xQ 32 = some ⟨.slice 45, 1, 24, some (.osl 1 true []), false⟩ := rfl
theorem zbJ : xQ 36 = some ⟨.slice 65, 1, 24, some (.osl 4 true []), false⟩ := rfl
theorem zbI : xQ 37 = some ⟨.slice 26, 1, 24, some (.osl 1 true []), false⟩ := rfl
theorem zbH : xQ 39 = some ⟨.struct [(0, 1), (1, 1)], 2, 48, some (.agg [.osl 1 true [], .osl 1 true []]), false⟩ := rfl
theorem zbG : xQ 40 = some ⟨.int .i64, 1, 8, some (.atom (.int .i64 0)), false⟩ := rfl
theorem zbF : xQ 45 = some ⟨.slice 100, 1, 24, some (.osl 5 true []), false⟩ := rfl
theorem zbE : xQ 50 = some ⟨.int .u64, 1, 8, some (.atom (.int .u64 0)), false⟩ := rfl
theorem zbD : xQ 51 = some ⟨.slice 59, 1, 24, some (.osl 1 true []), false⟩ := rfl
theorem zbC : xQ 53 = some ⟨.struct [(0, 1), (1, 1), (2, 1)], 3, 40, some (.agg [.atom (.int .i64 0), .atom (.int .i64 0), .osl 1 true []]), false⟩ := rfl
theorem zbB : xQ 59 = some ⟨.slice 61, 1, 24, some (.osl 3 true []), false⟩ := rfl
theorem zbA : xQ 61 = some ⟨.struct [(0, 1), (1, 1), (2, 1)], 3, 24, some (.agg [.atom (.int .u8 0), .atom (.int .i64 0), .atom (.int .i64 0)]), true⟩ := rfl
theorem zbz : xQ 65 = some ⟨.struct [(0, 1), (1, 1), (2, 1), (3, 1)], 4, 32, some (.agg [.atom (.int .i64 0), .atom (.int .i64 0), .atom (.int .i64 0), .atom (.int .i64 0)]), true⟩ := rfl
theorem zby : xQ 68 = some ⟨.slice 73, 1, 24, some (.osl 6 true []), false⟩ := rfl
theorem zbx : xQ 73 = some ⟨.struct [(0, 4), (4, 2)], 6, 80, some (.agg [.agg [.atom (.int .i64 0), .atom (.int .i64 0), .atom (.int .i64 0), .atom (.int .i64 0)], .agg [.osl 1 true [], .osl 1 true []]]), false⟩ := rfl
theorem zbw : xQ 75 = some ⟨.slice 5, 1, 24, some (.osl 1 true []), false⟩ := rfl
theorem zbv : xQ 82 = some ⟨.other, 1, 8, some (.atom .nilFunc), false⟩ := rfl
theorem zbu : xQ 85 = some ⟨.slice 98, 1, 24, some (.osl 5 true []), false⟩ := rfl
theorem zbt : xQ 87 = some ⟨.struct [(0, 1), (1, 1), (2, 1)], 3, 56, some (.agg [.atom (.int .i64 0), .osl 5 true [], .osl 1 true []]), false⟩ := rfl
theorem zbs : xQ 93 = some ⟨.slice 96, 1, 24, some (.osl 5 true []), false⟩ := rfl
theorem zbr : xQ 95 = some ⟨.struct [(0, 1), (1, 1), (2, 1)], 3, 32, some (.agg [.atom (.int .u8 0), .atom (.int .u8 0), .osl 5 true []]), false⟩ := rfl
theorem zbq : xQ 96 = some ⟨.array 5 5, 5, 5, some (.agg [.atom (.int .u8 0), .atom (.int .u8 0), .atom (.int .u8 0), .atom (.int .u8 0), .atom (.int .u8 0)]), true⟩ := rfl
theorem zbp : xQ 98 = some ⟨.struct [(0, 1), (1, 1), (2, 1), (3, 1), (4, 1)], 5, 40, some (.agg [.atom (.int .i64 0), .atom (.int .u8 0), .atom (.int .i64 0), .atom (.int .i64 0), .atom (.int .i64 0)]), true⟩ := rfl
theorem z9w : xQ 100 = some ⟨.struct [(0, 4), (4, 1)], 5, 40, some (.agg [.agg [.atom (.int .i64 0), .atom (.int .i64 0), .atom (.int .i64 0), .atom (.int .i64 0)], .atom (.int .i64 0)]), true⟩ := rfl
theorem z9v : xQ 103 = some ⟨.slice 115, 1, 24, some (.osl 24 true []), false⟩ := rfl
theorem z9u : xQ 106 = some ⟨.slice 108, 1, 24, some (.osl 5 true []), false⟩ := rfl
theorem z9t : xQ 108 = some ⟨.struct [(0, 1), (1, 4)], 5, 40, some (.agg [.atom (.int .i64 0), .agg [.atom (.int .i64 0), .atom (.int .i64 0), .atom (.int .i64 0), .atom (.int .i64 0)]]), true⟩ := rfl
theorem z9s : xQ 110 = some ⟨.array 4 3, 4, 32, some (.agg [.atom (.int .i64 0), .atom (.int .i64 0), .atom (.int .i64 0), .atom (.int .i64 0)]), true⟩ := rfl
theorem z9r : xQ 112 = some ⟨.struct [(0, 1), (1, 4)], 5, 40, some (.agg [.atom (.int .i64 0), .agg [.atom (.int .i64 0), .atom (.int .i64 0), .atom (.int .i64 0), .atom (.int .i64 0)]]), true⟩ := rfl
theorem z9q : xQ 113 = some ⟨.array 4 112, 20, 160, some (.agg [.agg [.atom (.int .i64 0), .agg [.atom (.int .i64 0), .atom (.int .i64 0), .atom (.int .i64 0), .atom (.int .i64 0)]], .agg [.atom (.int .i64 0), .agg [.atom (.int .i64 0), .atom (.int .i64 0), .atom (.int .i64 0), .atom (.int .i64 0)]], .agg [.atom (.int .i64 0), .agg [.atom (.int .i64 0), .atom (.int .i64 0), .atom (.int .i64 0), .atom (.int .i64 0)]], .agg [.atom (.int .i64 0), .agg [.atom (.int .i64 0), .atom (.int .i64 0), .atom (.int .i64 0), .atom (.int .i64 0)]]]), true⟩ := rfl
theorem z9p : xQ 115 = some ⟨.struct [(0, 4), (4, 20)], 24, 192, some (.agg [.agg [.atom (.int .i64 0), .atom (.int .i64 0), .atom (.int .i64 0), .atom (.int .i64 0)], .agg [.agg [.atom (.int .i64 0), .agg [.atom (.int .i64 0), .atom (.int .i64 0), .atom (.int .i64 0), .atom (.int .i64 0)]], .agg [.atom (.int .i64 0), .agg [.atom (.int .i64 0), .atom (.int .i64 0), .atom (.int .i64 0), .atom (.int .i64 0)]], .agg [.atom (.int .i64 0), .agg [.atom (.int .i64 0), .atom (.int .i64 0), .atom (.int .i64 0), .atom (.int .i64 0)]], .agg [.atom (.int .i64 0), .agg [.atom (.int .i64 0), .atom (.int .i64 0), .atom (.int .i64 0), .atom (.int .i64 0)]]]]), true⟩ := rfl
theorem z9o : xQ 129 = some ⟨.other, 1, 8, some (.atom .nilFunc), false⟩ := rfl
theorem z9n : xQ 130 = some ⟨.other, 1, 8, some (.atom .nilFunc), false⟩ := rfl
theorem z9m : xQ 136 = some ⟨.other, 1, 8, some (.atom .nilFunc), false⟩ := rfl
theorem z9l : xQ 139 = some ⟨.other, 1, 8, some (.atom .nilFunc), false⟩ := rfl
theorem z9k : xQ 142 = some ⟨.other, 1, 8, some (.atom (.map none)), false⟩ := rfl
theorem z9j : xQ 149 = some ⟨.other, 1, 8, some (.atom .nilFunc), false⟩ := rfl
theorem z9i : xQ 150 = some ⟨.other, 1, 8, some (.atom .nilFunc), false⟩ := rfl
theorem z9h : xQ 151 = some ⟨.other, 1, 8, some (.atom .nilFunc), false⟩ := rfl
theorem z9g : xQ 154 = some ⟨.other, 1, 16, some (.atom .nilIface), false⟩ := rfl
theorem z9f : xQ 160 = some ⟨.other, 1, 8, some (.atom .nilFunc), false⟩ := rfl
theorem z9e : xQ 174 = some ⟨.other, 1, 8, some (.atom .nilFunc), false⟩ := rfl
attribute [go_sem] zec zeb zea ze9 ze8 zbR zbQ zbP zbO zbN zbM zbL zbK zbJ zbI zbH zbG zbF zbE zbD zbC zbB zbA zbz zby zbx zbw zbv zbu zbt zbs zbr zbq zbp z9w z9v z9u z9t z9s z9r z9q z9p z9o z9n z9m z9l z9k z9j z9i z9h z9g z9f z9e
end Go.Own

namespace Go.Proofs
open Go.RowKit Go.Extern.Stop Go.Stop Go.Extern
set_option maxRecDepth 100000
theorem Tryz.isTypeOf (v : Value) (w : World) : (Extern.ReflectliteType.typeOf #[.iface 201 v]).run Tryz.prog w = .ok (.iface 188 (.agg #[.pointer (some ⟨1, 201, none⟩)])) w := by kernel_rfl
theorem Tryz.isComparable (w : World) : (callFunc 132 #[.agg #[.pointer (some ⟨1, 201, none⟩)]]).run Tryz.prog w = .ok (.value (.bool true)) w := by
 rw [@run_callFunc_extern Tryz.prog 132 _ (Extern.ReflectliteType.method fun t => do Extern.Rtype.noPackHeld "Comparable" t; pure (.bool (← typeInfo t).comparable)) Tryz.func132 (by kernel_rfl) (by kernel_rfl) (by kernel_rfl) (by kernel_rfl)]
 kernel_rfl
theorem Tryz.isMethodComparable (v : Value) (w : World) : (Go.method 338 188 v "Comparable").run Tryz.prog w = .ok (132, v) w := by kernel_rfl
theorem Tryz.isComp : (Tryz.prog.info? 201).map (·.comparable) = some true := by kernel_rfl
theorem Tryz.isSize : (Tryz.prog.info? 226).map (·.size) = some 1 := by kernel_rfl
theorem Tryz.is_same (a : Addr) (w : World) :
  Calls Tryz.prog 85 #[.iface 201 (.pointer (some a)), .iface 201 (.pointer (some a))] w fun e w' => e = .returned (.bool true) ∧ w' = w := by
 obtain ⟨i, hi, hcmp⟩ := Option.map_eq_some_iff.1 Tryz.isComp
 obtain ⟨j, hj, hjs⟩ := Option.map_eq_some_iff.1 Tryz.isSize
 have h8 := @run_callFunc_extern Tryz.prog 105 _ Extern.ReflectliteType.typeOf Tryz.func105 (by kernel_rfl) (by kernel_rfl) (by kernel_rfl) (by kernel_rfl)
 have tT := Tryz.isTypeOf
 have cT := Tryz.isComparable
 have mR := Tryz.isMethodComparable
 have heq := run_eql_iface_ptr_same (P := Tryz.prog) w a Tryz.underlying154 Tryz.underlying201 hi hcmp hj
 go_enter Tryz.func85, Tryz.ntmps85
 go_wp2
 refine wp_loop_rounds 1 ?_
 rw [rounds_succ]
 go_wp2
 go_ret
 exact ⟨rfl, rfl⟩
theorem Tryz.is_nil (b : Addr) (w : World) :
  Calls Tryz.prog 85 #[.nilIface, .iface 201 (.pointer (some b))] w fun e w' => e = .returned (.bool false) ∧ w' = w := by
 have hn := run_eql_iface_nil_left (P := Tryz.prog) w 201 (.pointer (some b)) Tryz.underlying154
 go_enter Tryz.func85, Tryz.ntmps85
 go_wp2
 go_ret
 exact ⟨rfl, rfl⟩
end Go.Proofs
namespace Go.Own
open Go.Proofs
theorem z52 {S : zq} {h : Array Obj} {x y : A} {vs : List Value} {F : List Nat} (hx : x.isD = true) (hy : y.isD = true) (q : Y2 S h [x, y] vs F) : ∃ u v, vs = [u, v] ∧ vG S x u ∧ vG S y v ∧ F = [] := by
 match vs, q with
 | [u, v], q =>
  obtain ⟨F1, F2, rfl, q1, F3, F4, rfl, q2, q3⟩ := q
  have e3 : F4 = [] := q3
  subst e3
  have d : ∀ {x : A} {u : Value} {F : List Nat}, x.isD = true → Has S h x u F → vG S x u ∧ F = [] := by
   intro x u F hx q
   rcases q with ⟨q, rfl⟩ | ⟨cs, q1, q2, q3⟩
   ·exact ⟨q.rep1 hx, rfl⟩
   ·obtain ⟨r, rfl⟩ := q1.isD hx
    exact ⟨⟨cs, r, q3⟩, rfl⟩
  obtain ⟨r1, rfl⟩ := d hx q1
  obtain ⟨r2, rfl⟩ := d hy q2
  exact ⟨u, v, rfl, r1, r2, rfl⟩
theorem z7c (e : Bool) : YO Tryz.prog 85 [eEr 0 201 e, eEr 0 201 true] (eB e) := by
 refine ⟨⟨_, Tryz.func85, by kernel_rfl, by kernel_rfl⟩, ?_⟩
 intro S w vs F hS hq hF
 obtain ⟨u, v, rfl, r1, r2, rfl⟩ := z52 rfl rfl hq
 obtain ⟨g1, g2⟩ := z5P r1
 obtain ⟨⟨s1, a, rfl⟩, _⟩ : (S 0 0 = some v ∧ ∃ a, v = .iface 201 (.pointer (some a))) ∧ True := ⟨(z5P r2).1 rfl, trivial⟩
 have fin : ∀ (b : Bool) {e' : Ending} {w' : World}, e' = .returned (.bool b) ∧ w' = w → b = e → ∃ v S' F', e' = .returned v ∧ Zo (fun k => w.heap.size ≤ k ∨ k ∈ ([] : List Nat)) w w' ∧ (∀ b o u, S b o = some u → S' b o = some u) ∧ (∀ b o, b < w.heap.size → b ∉ ([] : List Nat) → S' b o = S b o) ∧ wz S' w' ∧ Has S' w'.heap (eB e) v F' ∧ F'.Nodup ∧ ∀ k ∈ F', w.heap.size ≤ k ∨ k ∈ ([] : List Nat) := by
  rintro b e' w' ⟨rfl, rfl⟩ rfl
  exact ⟨_, S, [], rfl, Zo.refl _ _, fun _ _ _ h => h, fun _ _ _ _ => rfl, hS, .inl ⟨zy.2 ⟨rfl, rfl⟩, rfl⟩, by simp, by simp⟩
 cases e with
 | true =>
  obtain ⟨s2, b, rfl⟩ := g1 rfl
  rw [s1] at s2
  cases s2
  exact (Tryz.is_same _ w).mono fun e' w' h => fin true h rfl
 | false =>
  have := g2 rfl
  subst this
  exact (Tryz.is_nil _ w).mono fun e' w' h => fin false h rfl
structure z0Y (α : Type) where
 e0 : α
 e1 : α
 deriving DecidableEq
section
variable {α : Type}
def QO (f : α → A) (x : z0Y α) : A := .agg [f x.e0, f x.e1]
instance (f g : α → A) [h : qo f g] : qo (QO f) (QO g) := ⟨fun x => by simp [QO, A.loose, A.looses, h.lo]⟩
instance (f : α → A) [h : wK f] : wK (QO f) := ⟨fun x y q => by
 simp only [QO, A.agg.injEq, List.cons.injEq, and_true] at q
 cases x; cases y
 simp only [z0Y.mk.injEq]
 exact ⟨h.inj _ _ q.1, h.inj _ _ q.2⟩⟩
end
structure zC (α : Type) where
 e0 : α
 e1 : α
 e2 : α
 e3 : α
 deriving DecidableEq
instance {α : Type} [BEq α] : BEq (zC α) := ⟨fun x y => (x.e0 == y.e0) && (x.e1 == y.e1) && (x.e2 == y.e2) && (x.e3 == y.e3)⟩
section
variable {α : Type}
def Xo (f : α → A) (x : zC α) : A := .agg [f x.e0, f x.e1, f x.e2, f x.e3]
instance (f : α → A) [h : XM f] : XM (Xo f) := ⟨fun x => by simp [Xo, A.isD, A.areD, h.isD]⟩
instance (f g : α → A) [h : qo f g] : qo (Xo f) (Xo g) := ⟨fun x => by simp [Xo, A.loose, A.looses, h.lo]⟩
instance (f g : α → A) [h : YN f g] : YN (Xo f) (Xo g) := ⟨fun x => by simp [Xo, A.live, A.lives, h.live], fun x => by simp [Xo, A.shut, A.shuts, h.sh]⟩
instance (f : α → A) [h : wK f] : wK (Xo f) := ⟨fun x y q => by
 simp only [Xo, A.agg.injEq, List.cons.injEq, and_true] at q
 cases x; cases y
 simp only [zC.mk.injEq]
 exact ⟨h.inj _ _ q.1, h.inj _ _ q.2.1, h.inj _ _ q.2.2.1, h.inj _ _ q.2.2.2⟩⟩
end
section
variable {α : Type}
def zC.toL (x : zC α) : List α := [x.e0, x.e1, x.e2, x.e3]
def zC.ofL : List α → zC α → zC α
 | [x0, x1, x2, x3], _ => ⟨x0, x1, x2, x3⟩
 | _, d => d
theorem zC.toL_ofL (l : List α) (d : zC α) (h : l.length = 4) : (zC.ofL l d).toL = l := by
 match l, h with
 | [x0, x1, x2, x3], _ => rfl
def zC.setI (x : zC α) (i : Int) (v : α) : zC α := zC.ofL (x.toL.set i.toNat v) x
theorem zC.setL (f : α → A) (x : zC α) (i : Int) (v : α) : (x.toL.map f).set i.toNat (f v) = ((zC.setI x i v).toL).map f := by
 unfold zC.setI
 rw [zC.toL_ofL _ _ (by simp [zC.toL]), List.map_set]
end
structure z21 (α : Type) where
 e0 : α
 e1 : α
 e2 : α
 e3 : α
 e4 : α
 deriving DecidableEq
section
variable {α : Type}
def YV (f : α → A) (x : z21 α) : A := .agg [f x.e0, f x.e1, f x.e2, f x.e3, f x.e4]
instance (f g : α → A) [h : qo f g] : qo (YV f) (YV g) := ⟨fun x => by simp [YV, A.loose, A.looses, h.lo]⟩
instance (f : α → A) [h : wK f] : wK (YV f) := ⟨fun x y q => by
 simp only [YV, A.agg.injEq, List.cons.injEq, and_true] at q
 cases x; cases y
 simp only [z21.mk.injEq]
 exact ⟨h.inj _ _ q.1, h.inj _ _ q.2.1, h.inj _ _ q.2.2.1, h.inj _ _ q.2.2.2.1, h.inj _ _ q.2.2.2.2⟩⟩
end
structure xr where
 States : Int
 Final : Int
 Arcs : List (z21 Int)
def uu (f0 : Int → A) (f1 : Int → A) (f2 : List (z21 Int) → A) (x : xr) : A := .agg [f0 x.States, f1 x.Final, f2 x.Arcs]
instance (f0 : Int → A) (f1 : Int → A) (f2 : List (z21 Int) → A) (g0 : Int → A) (g1 : Int → A) (g2 : List (z21 Int) → A) [h0 : qo f0 g0] [h1 : qo f1 g1] [h2 : qo f2 g2] : qo (uu f0 f1 f2) (uu g0 g1 g2) := ⟨fun x => by simp [uu, A.loose, A.looses, h0.lo, h1.lo, h2.lo]⟩
instance (f0 : Int → A) (f1 : Int → A) (f2 : List (z21 Int) → A) [h0 : wK f0] [h1 : wK f1] [h2 : wK f2] : wK (uu f0 f1 f2) := ⟨fun x y h => by
 simp only [uu, A.agg.injEq, List.cons.injEq, and_true] at h
 cases x; cases y
 simp only [xr.mk.injEq]
 exact ⟨h0.inj _ _ h.1, h1.inj _ _ h.2.1, h2.inj _ _ h.2.2⟩⟩
structure y3 where
 Channels : z0Y Int
 Parts : List xr
def kc (f0 : z0Y Int → A) (f1 : List xr → A) (x : y3) : A := .agg [f0 x.Channels, f1 x.Parts]
instance (f0 : z0Y Int → A) (f1 : List xr → A) (g0 : z0Y Int → A) (g1 : List xr → A) [h0 : qo f0 g0] [h1 : qo f1 g1] : qo (kc f0 f1) (kc g0 g1) := ⟨fun x => by simp [kc, A.loose, A.looses, h0.lo, h1.lo]⟩
instance (f0 : z0Y Int → A) (f1 : List xr → A) [h0 : wK f0] [h1 : wK f1] : wK (kc f0 f1) := ⟨fun x y h => by
 simp only [kc, A.agg.injEq, List.cons.injEq, and_true] at h
 cases x; cases y
 simp only [y3.mk.injEq]
 exact ⟨h0.inj _ _ h.1, h1.inj _ _ h.2⟩⟩
structure ze where
 From : Int
 Kind : Int
 Channel : Int
 Message : Int
 To : Int
def xu (f0 : Int → A) (f1 : Int → A) (f2 : Int → A) (f3 : Int → A) (f4 : Int → A) (x : ze) : A := .agg [f0 x.From, f1 x.Kind, f2 x.Channel, f3 x.Message, f4 x.To]
instance (f0 : Int → A) (f1 : Int → A) (f2 : Int → A) (f3 : Int → A) (f4 : Int → A) [h0 : XM f0] [h1 : XM f1] [h2 : XM f2] [h3 : XM f3] [h4 : XM f4] : XM (xu f0 f1 f2 f3 f4) := ⟨fun x => by simp [xu, A.isD, A.areD, h0.isD, h1.isD, h2.isD, h3.isD, h4.isD]⟩
instance (f0 : Int → A) (f1 : Int → A) (f2 : Int → A) (f3 : Int → A) (f4 : Int → A) (g0 : Int → A) (g1 : Int → A) (g2 : Int → A) (g3 : Int → A) (g4 : Int → A) [h0 : qo f0 g0] [h1 : qo f1 g1] [h2 : qo f2 g2] [h3 : qo f3 g3] [h4 : qo f4 g4] : qo (xu f0 f1 f2 f3 f4) (xu g0 g1 g2 g3 g4) := ⟨fun x => by simp [xu, A.loose, A.looses, h0.lo, h1.lo, h2.lo, h3.lo, h4.lo]⟩
instance (f0 : Int → A) (f1 : Int → A) (f2 : Int → A) (f3 : Int → A) (f4 : Int → A) (g0 : Int → A) (g1 : Int → A) (g2 : Int → A) (g3 : Int → A) (g4 : Int → A) [h0 : YN f0 g0] [h1 : YN f1 g1] [h2 : YN f2 g2] [h3 : YN f3 g3] [h4 : YN f4 g4] : YN (xu f0 f1 f2 f3 f4) (xu g0 g1 g2 g3 g4) := ⟨fun x => by simp [xu, A.live, A.lives, h0.live, h1.live, h2.live, h3.live, h4.live], fun x => by simp [xu, A.shut, A.shuts, h0.sh, h1.sh, h2.sh, h3.sh, h4.sh]⟩
instance (f0 : Int → A) (f1 : Int → A) (f2 : Int → A) (f3 : Int → A) (f4 : Int → A) [h0 : wK f0] [h1 : wK f1] [h2 : wK f2] [h3 : wK f3] [h4 : wK f4] : wK (xu f0 f1 f2 f3 f4) := ⟨fun x y h => by
 simp only [xu, A.agg.injEq, List.cons.injEq, and_true] at h
 cases x; cases y
 simp only [ze.mk.injEq]
 exact ⟨h0.inj _ _ h.1, h1.inj _ _ h.2.1, h2.inj _ _ h.2.2.1, h3.inj _ _ h.2.2.2.1, h4.inj _ _ h.2.2.2.2⟩⟩
structure zh where
 States : Int
 Arcs : List ze
 Final : List Int
def yI (f0 : Int → A) (f1 : List ze → A) (f2 : List Int → A) (x : zh) : A := .agg [f0 x.States, f1 x.Arcs, f2 x.Final]
instance (f0 : Int → A) (f1 : List ze → A) (f2 : List Int → A) [h : zap f2] : zap (yI f0 f1 f2) := ⟨fun x => by simp [yI, A.isD, A.areD, h.no]⟩
instance (f0 : Int → A) (f1 : List ze → A) (f2 : List Int → A) (g0 : Int → A) (g1 : List ze → A) (g2 : List Int → A) [h0 : qo f0 g0] [h1 : qo f1 g1] [h2 : qo f2 g2] : qo (yI f0 f1 f2) (yI g0 g1 g2) := ⟨fun x => by simp [yI, A.loose, A.looses, h0.lo, h1.lo, h2.lo]⟩
instance (f0 : Int → A) (f1 : List ze → A) (f2 : List Int → A) (g0 : Int → A) (g1 : List ze → A) (g2 : List Int → A) [h0 : YN f0 g0] [h1 : YN f1 g1] [h2 : YN f2 g2] : YN (yI f0 f1 f2) (yI g0 g1 g2) := ⟨fun x => by simp [yI, A.live, A.lives, h0.live, h1.live, h2.live], fun x => by simp [yI, A.shut, A.shuts, h0.sh, h1.sh, h2.sh]⟩
instance (f0 : Int → A) (f1 : List ze → A) (f2 : List Int → A) [h0 : wK f0] [h1 : wK f1] [h2 : wK f2] : wK (yI f0 f1 f2) := ⟨fun x y h => by
 simp only [yI, A.agg.injEq, List.cons.injEq, and_true] at h
 cases x; cases y
 simp only [zh.mk.injEq]
 exact ⟨h0.inj _ _ h.1, h1.inj _ _ h.2.1, h2.inj _ _ h.2.2⟩⟩
structure z7 where
 Messages : Int
 Labels : Int
 Channels : List Int
 Parts : List zh
def xU (f0 : Int → A) (f1 : Int → A) (f2 : List Int → A) (f3 : List zh → A) (x : z7) : A := .agg [f0 x.Messages, f1 x.Labels, f2 x.Channels, f3 x.Parts]
instance (f0 : Int → A) (f1 : Int → A) (f2 : List Int → A) (f3 : List zh → A) (g0 : Int → A) (g1 : Int → A) (g2 : List Int → A) (g3 : List zh → A) [h0 : qo f0 g0] [h1 : qo f1 g1] [h2 : qo f2 g2] [h3 : qo f3 g3] : qo (xU f0 f1 f2 f3) (xU g0 g1 g2 g3) := ⟨fun x => by simp [xU, A.loose, A.looses, h0.lo, h1.lo, h2.lo, h3.lo]⟩
instance (f0 : Int → A) (f1 : Int → A) (f2 : List Int → A) (f3 : List zh → A) [h0 : wK f0] [h1 : wK f1] [h2 : wK f2] [h3 : wK f3] : wK (xU f0 f1 f2 f3) := ⟨fun x y h => by
 simp only [xU, A.agg.injEq, List.cons.injEq, and_true] at h
 cases x; cases y
 simp only [z7.mk.injEq]
 exact ⟨h0.inj _ _ h.1, h1.inj _ _ h.2.1, h2.inj _ _ h.2.2.1, h3.inj _ _ h.2.2.2⟩⟩
structure z8 where
 States : List Int
 Queues : List (List Int)
def zH (f0 : List Int → A) (f1 : List (List Int) → A) (x : z8) : A := .agg [f0 x.States, f1 x.Queues]
instance (f0 : List Int → A) (f1 : List (List Int) → A) [h0 : XM f0] [h1 : XM f1] : XM (zH f0 f1) := ⟨fun x => by simp [zH, A.isD, A.areD, h0.isD, h1.isD]⟩
instance (f0 : List Int → A) (f1 : List (List Int) → A) (g0 : List Int → A) (g1 : List (List Int) → A) [h0 : qo f0 g0] [h1 : qo f1 g1] : qo (zH f0 f1) (zH g0 g1) := ⟨fun x => by simp [zH, A.loose, A.looses, h0.lo, h1.lo]⟩
instance (f0 : List Int → A) (f1 : List (List Int) → A) (g0 : List Int → A) (g1 : List (List Int) → A) [h0 : YN f0 g0] [h1 : YN f1 g1] : YN (zH f0 f1) (zH g0 g1) := ⟨fun x => by simp [zH, A.live, A.lives, h0.live, h1.live], fun x => by simp [zH, A.shut, A.shuts, h0.sh, h1.sh]⟩
instance (f0 : List Int → A) (f1 : List (List Int) → A) [h0 : wK f0] [h1 : wK f1] : wK (zH f0 f1) := ⟨fun x y h => by
 simp only [zH, A.agg.injEq, List.cons.injEq, and_true] at h
 cases x; cases y
 simp only [z8.mk.injEq]
 exact ⟨h0.inj _ _ h.1, h1.inj _ _ h.2⟩⟩
instance (f0 : List Int → A) (f1 : List (List Int) → A) (g0 : List Int → A) (g1 : List (List Int) → A) (x : z8) [∀ y, LeA (f0 y) (g0 y)] [∀ y, LeA (f1 y) (g1 y)] [∀ y, SzA (f0 y) (g0 y)] [∀ y, SzA (f1 y) (g1 y)] : LeA (zH f0 f1 x) (zH g0 g1 x) := by unfold zH; infer_instance
instance (f0 : List Int → A) (f1 : List (List Int) → A) (g0 : List Int → A) (g1 : List (List Int) → A) (x y : z8) [∀ y z, SzA (f0 y) (g0 z)] [∀ y z, SzA (f1 y) (g1 z)] : SzA (zH f0 f1 x) (zH g0 g1 y) := by unfold zH; infer_instance
structure zf where
 many_ : Int
 l_ : zC Int
instance : BEq zf := ⟨fun x y => (x.many_ == y.many_) && (x.l_ == y.l_)⟩
def yj (f0 : Int → A) (f1 : zC Int → A) (x : zf) : A := .agg [f0 x.many_, f1 x.l_]
instance (f0 : Int → A) (f1 : zC Int → A) [h0 : XM f0] [h1 : XM f1] : XM (yj f0 f1) := ⟨fun x => by simp [yj, A.isD, A.areD, h0.isD, h1.isD]⟩
instance (f0 : Int → A) (f1 : zC Int → A) (g0 : Int → A) (g1 : zC Int → A) [h0 : qo f0 g0] [h1 : qo f1 g1] : qo (yj f0 f1) (yj g0 g1) := ⟨fun x => by simp [yj, A.loose, A.looses, h0.lo, h1.lo]⟩
instance (f0 : Int → A) (f1 : zC Int → A) (g0 : Int → A) (g1 : zC Int → A) [h0 : YN f0 g0] [h1 : YN f1 g1] : YN (yj f0 f1) (yj g0 g1) := ⟨fun x => by simp [yj, A.live, A.lives, h0.live, h1.live], fun x => by simp [yj, A.shut, A.shuts, h0.sh, h1.sh]⟩
instance (f0 : Int → A) (f1 : zC Int → A) [h0 : wK f0] [h1 : wK f1] : wK (yj f0 f1) := ⟨fun x y h => by
 simp only [yj, A.agg.injEq, List.cons.injEq, and_true] at h
 cases x; cases y
 simp only [zf.mk.injEq]
 exact ⟨h0.inj _ _ h.1, h1.inj _ _ h.2⟩⟩
structure za where
 states_ : zC Int
 queues_ : zC zf
instance : BEq za := ⟨fun x y => (x.states_ == y.states_) && (x.queues_ == y.queues_)⟩
def yH (f0 : zC Int → A) (f1 : zC zf → A) (x : za) : A := .agg [f0 x.states_, f1 x.queues_]
instance (f0 : zC Int → A) (f1 : zC zf → A) [h0 : XM f0] [h1 : XM f1] : XM (yH f0 f1) := ⟨fun x => by simp [yH, A.isD, A.areD, h0.isD, h1.isD]⟩
instance (f0 : zC Int → A) (f1 : zC zf → A) (g0 : zC Int → A) (g1 : zC zf → A) [h0 : qo f0 g0] [h1 : qo f1 g1] : qo (yH f0 f1) (yH g0 g1) := ⟨fun x => by simp [yH, A.loose, A.looses, h0.lo, h1.lo]⟩
instance (f0 : zC Int → A) (f1 : zC zf → A) (g0 : zC Int → A) (g1 : zC zf → A) [h0 : YN f0 g0] [h1 : YN f1 g1] : YN (yH f0 f1) (yH g0 g1) := ⟨fun x => by simp [yH, A.live, A.lives, h0.live, h1.live], fun x => by simp [yH, A.shut, A.shuts, h0.sh, h1.sh]⟩
instance (f0 : zC Int → A) (f1 : zC zf → A) [h0 : wK f0] [h1 : wK f1] : wK (yH f0 f1) := ⟨fun x y h => by
 simp only [yH, A.agg.injEq, List.cons.injEq, and_true] at h
 cases x; cases y
 simp only [za.mk.injEq]
 exact ⟨h0.inj _ _ h.1, h1.inj _ _ h.2⟩⟩
structure zc where
 Part : Int
 Arc : Int
 Other : Int
 With : Int
def x7 (f0 : Int → A) (f1 : Int → A) (f2 : Int → A) (f3 : Int → A) (x : zc) : A := .agg [f0 x.Part, f1 x.Arc, f2 x.Other, f3 x.With]
instance (f0 : Int → A) (f1 : Int → A) (f2 : Int → A) (f3 : Int → A) [h0 : XM f0] [h1 : XM f1] [h2 : XM f2] [h3 : XM f3] : XM (x7 f0 f1 f2 f3) := ⟨fun x => by simp [x7, A.isD, A.areD, h0.isD, h1.isD, h2.isD, h3.isD]⟩
instance (f0 : Int → A) (f1 : Int → A) (f2 : Int → A) (f3 : Int → A) (g0 : Int → A) (g1 : Int → A) (g2 : Int → A) (g3 : Int → A) [h0 : qo f0 g0] [h1 : qo f1 g1] [h2 : qo f2 g2] [h3 : qo f3 g3] : qo (x7 f0 f1 f2 f3) (x7 g0 g1 g2 g3) := ⟨fun x => by simp [x7, A.loose, A.looses, h0.lo, h1.lo, h2.lo, h3.lo]⟩
instance (f0 : Int → A) (f1 : Int → A) (f2 : Int → A) (f3 : Int → A) (g0 : Int → A) (g1 : Int → A) (g2 : Int → A) (g3 : Int → A) [h0 : YN f0 g0] [h1 : YN f1 g1] [h2 : YN f2 g2] [h3 : YN f3 g3] : YN (x7 f0 f1 f2 f3) (x7 g0 g1 g2 g3) := ⟨fun x => by simp [x7, A.live, A.lives, h0.live, h1.live, h2.live, h3.live], fun x => by simp [x7, A.shut, A.shuts, h0.sh, h1.sh, h2.sh, h3.sh]⟩
instance (f0 : Int → A) (f1 : Int → A) (f2 : Int → A) (f3 : Int → A) [h0 : wK f0] [h1 : wK f1] [h2 : wK f2] [h3 : wK f3] : wK (x7 f0 f1 f2 f3) := ⟨fun x y h => by
 simp only [x7, A.agg.injEq, List.cons.injEq, and_true] at h
 cases x; cases y
 simp only [zc.mk.injEq]
 exact ⟨h0.inj _ _ h.1, h1.inj _ _ h.2.1, h2.inj _ _ h.2.2.1, h3.inj _ _ h.2.2.2⟩⟩
structure z6 where
 Move : zc
 To : Int
def x6 (f0 : zc → A) (f1 : Int → A) (x : z6) : A := .agg [f0 x.Move, f1 x.To]
instance (f0 : zc → A) (f1 : Int → A) [h0 : XM f0] [h1 : XM f1] : XM (x6 f0 f1) := ⟨fun x => by simp [x6, A.isD, A.areD, h0.isD, h1.isD]⟩
instance (f0 : zc → A) (f1 : Int → A) (g0 : zc → A) (g1 : Int → A) [h0 : qo f0 g0] [h1 : qo f1 g1] : qo (x6 f0 f1) (x6 g0 g1) := ⟨fun x => by simp [x6, A.loose, A.looses, h0.lo, h1.lo]⟩
instance (f0 : zc → A) (f1 : Int → A) (g0 : zc → A) (g1 : Int → A) [h0 : YN f0 g0] [h1 : YN f1 g1] : YN (x6 f0 f1) (x6 g0 g1) := ⟨fun x => by simp [x6, A.live, A.lives, h0.live, h1.live], fun x => by simp [x6, A.shut, A.shuts, h0.sh, h1.sh]⟩
instance (f0 : zc → A) (f1 : Int → A) [h0 : wK f0] [h1 : wK f1] : wK (x6 f0 f1) := ⟨fun x y h => by
 simp only [x6, A.agg.injEq, List.cons.injEq, and_true] at h
 cases x; cases y
 simp only [z6.mk.injEq]
 exact ⟨h0.inj _ _ h.1, h1.inj _ _ h.2⟩⟩
structure zg where
 Kind : Int
 Label : Int
 To : Int
 deriving DecidableEq
def wy (f0 : Int → A) (f1 : Int → A) (f2 : Int → A) (x : zg) : A := .agg [f0 x.Kind, f1 x.Label, f2 x.To]
instance (f0 : Int → A) (f1 : Int → A) (f2 : Int → A) [h0 : XM f0] [h1 : XM f1] [h2 : XM f2] : XM (wy f0 f1 f2) := ⟨fun x => by simp [wy, A.isD, A.areD, h0.isD, h1.isD, h2.isD]⟩
instance (f0 : Int → A) (f1 : Int → A) (f2 : Int → A) (g0 : Int → A) (g1 : Int → A) (g2 : Int → A) [h0 : qo f0 g0] [h1 : qo f1 g1] [h2 : qo f2 g2] : qo (wy f0 f1 f2) (wy g0 g1 g2) := ⟨fun x => by simp [wy, A.loose, A.looses, h0.lo, h1.lo, h2.lo]⟩
instance (f0 : Int → A) (f1 : Int → A) (f2 : Int → A) (g0 : Int → A) (g1 : Int → A) (g2 : Int → A) [h0 : YN f0 g0] [h1 : YN f1 g1] [h2 : YN f2 g2] : YN (wy f0 f1 f2) (wy g0 g1 g2) := ⟨fun x => by simp [wy, A.live, A.lives, h0.live, h1.live, h2.live], fun x => by simp [wy, A.shut, A.shuts, h0.sh, h1.sh, h2.sh]⟩
instance (f0 : Int → A) (f1 : Int → A) (f2 : Int → A) [h0 : wK f0] [h1 : wK f1] [h2 : wK f2] : wK (wy f0 f1 f2) := ⟨fun x y h => by
 simp only [wy, A.agg.injEq, List.cons.injEq, and_true] at h
 cases x; cases y
 simp only [zg.mk.injEq]
 exact ⟨h0.inj _ _ h.1, h1.inj _ _ h.2.1, h2.inj _ _ h.2.2⟩⟩
structure zF where
 Inputs : Int
 Outputs : Int
 Rows : List (List zg)
def wN (f0 : Int → A) (f1 : Int → A) (f2 : List (List zg) → A) (x : zF) : A := .agg [f0 x.Inputs, f1 x.Outputs, f2 x.Rows]
instance (f0 : Int → A) (f1 : Int → A) (f2 : List (List zg) → A) (g0 : Int → A) (g1 : Int → A) (g2 : List (List zg) → A) [h0 : qo f0 g0] [h1 : qo f1 g1] [h2 : qo f2 g2] : qo (wN f0 f1 f2) (wN g0 g1 g2) := ⟨fun x => by simp [wN, A.loose, A.looses, h0.lo, h1.lo, h2.lo]⟩
instance (f0 : Int → A) (f1 : Int → A) (f2 : List (List zg) → A) [h0 : wK f0] [h1 : wK f1] [h2 : wK f2] : wK (wN f0 f1 f2) := ⟨fun x y h => by
 simp only [wN, A.agg.injEq, List.cons.injEq, and_true] at h
 cases x; cases y
 simp only [zF.mk.injEq]
 exact ⟨h0.inj _ _ h.1, h1.inj _ _ h.2.1, h2.inj _ _ h.2.2⟩⟩
structure zt where
 from_ : Int
 move_ : zc
def Uf (f0 : Int → A) (f1 : zc → A) (x : zt) : A := .agg [f0 x.from_, f1 x.move_]
instance : zdk (K := za) (yH (Xo (eI .i64)) (Xo (yj (eI .i64) (Xo (eI .i64))))) := ⟨fun x y => by
 obtain ⟨⟨_, _, _, _⟩, ⟨⟨_, ⟨_, _, _, _⟩⟩, ⟨_, ⟨_, _, _, _⟩⟩, ⟨_, ⟨_, _, _, _⟩⟩, ⟨_, ⟨_, _, _, _⟩⟩⟩⟩ := x
 obtain ⟨⟨_, _, _, _⟩, ⟨⟨_, ⟨_, _, _, _⟩⟩, ⟨_, ⟨_, _, _, _⟩⟩, ⟨_, ⟨_, _, _, _⟩⟩, ⟨_, ⟨_, _, _, _⟩⟩⟩⟩ := y
 simp only [Xo, yj, yH, eI, Ud, Ji, Ji.keyLs, y8, BEq.beq, Option.map_some, Option.some.injEq, Value.agg.injEq, List.cons_append, List.nil_append, List.append_nil, Array.mk.injEq, List.cons.injEq, Value.int.injEq, true_and, and_true, Bool.and_eq_true, decide_eq_true_eq, and_assoc]⟩
def Yu (x_ : y3) (out_Parts : List zh) : Option z7 :=
 some (z7.mk 2 2 ([w64 (Int.tmod x_.Channels.e0 3), w64 (Int.tmod x_.Channels.e1 3)]) out_Parts)
def kH (i_ : Int) (out_Parts2 : List zh) : Option (LR (List zh × Int) (List zh)) :=
 some (.next (out_Parts2, w64 (i_ + 1)))
def qg (out_Parts1 : List zh) (i_ : Int) (p_States : Int) (p_Arcs : List ze) (p_Final : List Int) : Option (LR (List zh × Int) (List zh)) :=
 gd (out_Parts1.length + ([(zh.mk p_States p_Arcs p_Final)] : List zh).length ≤ 4294967296) <|
 kH i_ (out_Parts1 ++ ([(zh.mk p_States p_Arcs p_Final)] : List zh))
def qe (Part_e : xr) (p_Arcs1 : List ze) (k_ : Int) (Arc_e : z21 Int) (arc_Channel : Int) : Option (LR (List ze × Int) ((Int × List ze × List Int))) :=
 gd (p_Arcs1.length + ([(ze.mk (Int.tmod (w64 (Arc_e.e0)) (w64 (1 + (w64 (Int.tmod Part_e.States 3))))) (Int.tmod Arc_e.e1 3) arc_Channel (w64 (Int.tmod Arc_e.e3 2)) (Int.tmod (w64 (Arc_e.e4)) (w64 (1 + (w64 (Int.tmod Part_e.States 3))))))] : List ze).length ≤ 4294967296) <|
 some (.next ((p_Arcs1 ++ ([(ze.mk (Int.tmod (w64 (Arc_e.e0)) (w64 (1 + (w64 (Int.tmod Part_e.States 3))))) (Int.tmod Arc_e.e1 3) arc_Channel (w64 (Int.tmod Arc_e.e3 2)) (Int.tmod (w64 (Arc_e.e4)) (w64 (1 + (w64 (Int.tmod Part_e.States 3))))))] : List ze)), w64 (k_ + 1)))
def jG (Part_e : xr) (p_Final1 : List Int) (p_Arcs1 : List ze) (k_ : Int) : Option (LR (List ze × Int) ((Int × List ze × List Int))) :=
 bif decide (k_ < ((Part_e.Arcs.length : Nat) : Int)) then (
  bif decide (k_ < 6) then (
   Option.bind (idx Part_e.Arcs k_) fun Arc_e =>
   gd (((w64 (1 + (w64 (Int.tmod Part_e.States 3)))) : Int) ≠ 0) <|
   gd ((3 : Int) ≠ 0) <|
   gd ((2 : Int) ≠ 0) <|
   gd ((2 : Int) ≠ 0) <|
   gd (((w64 (1 + (w64 (Int.tmod Part_e.States 3)))) : Int) ≠ 0) <|
   bif (Int.tmod Arc_e.e1 3) == 0 then (
    qe Part_e p_Arcs1 k_ Arc_e 0)
   else (
    qe Part_e p_Arcs1 k_ Arc_e (w64 (Int.tmod Arc_e.e2 2))))
  else (
   some (.done (w64 (1 + (w64 (Int.tmod Part_e.States 3))), p_Arcs1, p_Final1))))
 else (
  some (.done (w64 (1 + (w64 (Int.tmod Part_e.States 3))), p_Arcs1, p_Final1)))
def kG (out_Parts1 : List zh) (i_ : Int) (Part_e : xr) (p_Final1 : List Int) : Option (LR (List zh × Int) (List zh)) :=
 Option.bind (loop (fun s => jG Part_e p_Final1 s.1 s.2) (([] : List ze), 0)) fun t7 =>
 qg out_Parts1 i_ t7.1 t7.2.1 t7.2.2
def qE (s_ : Int) (p_Final3 : List Int) : Option (LR (List Int × Int) (List Int)) :=
 some (.next (p_Final3, w64 (s_ + 1)))
def jF (Part_e : xr) (p_Final2 : List Int) (s_ : Int) : Option (LR (List Int × Int) (List Int)) :=
 bif decide (s_ < (w64 (1 + (w64 (Int.tmod Part_e.States 3))))) then (
  gd ((0 : Int) ≤ IntKind.u64.wrap (s_)) <|
  bif (zaw .u8 (Int.fdiv Part_e.Final (2 ^ (min (IntKind.u64.wrap (s_)).toNat 8))) 1) == 1 then (
   gd (p_Final2.length + ([s_] : List Int).length ≤ 4294967296) <|
   qE s_ (p_Final2 ++ ([s_] : List Int)))
  else (
   qE s_ p_Final2))
 else (
  some (.done p_Final2))
def uk (x_ : y3) (out_Parts1 : List zh) (i_ : Int) (x34 : Bool) : Option (LR (List zh × Int) (List zh)) :=
 bif decide (i_ < ((x_.Parts.length : Nat) : Int)) then (
  Option.bind (idx x_.Parts i_) fun Part_e =>
  gd ((3 : Int) ≠ 0) <|
  Option.bind (loop (fun s => jF Part_e s.1 s.2) (([] : List Int), 0)) fun t9 =>
  kG out_Parts1 i_ Part_e t9)
 else (
  qg out_Parts1 i_ 1 ([] : List ze) ([] : List Int))
def jH (x_ : y3) (out_Parts1 : List zh) (i_ : Int) : Option (LR (List zh × Int) (List zh)) :=
 bif decide (i_ < 3) then (
  bif decide (i_ < ((x_.Parts.length : Nat) : Int)) then (
   uk x_ out_Parts1 i_ true)
  else (
   bif i_ == 0 then (
    uk x_ out_Parts1 i_ (i_ == 0))
   else (
    some (.done out_Parts1))))
 else (
  some (.done out_Parts1))
def kQ (x_ : y3) : Option z7 :=
 gd ((3 : Int) ≠ 0) <|
 gd ((3 : Int) ≠ 0) <|
 Option.bind (loop (fun s => jH x_ s.1 s.2) (([] : List zh), 0)) fun t2 =>
 Yu x_ t2
def jU (x_ : z7) : Option z8 :=
 gd ((0 : Int) ≤ ((x_.Parts.length : Nat) : Int) ∧ (((x_.Parts.length : Nat) : Int) : Int) ≤ 4294967296) <|
 gd ((0 : Int) ≤ ((x_.Channels.length : Nat) : Int) ∧ (((x_.Channels.length : Nat) : Int) : Int) ≤ 4294967296) <|
 some (z8.mk (List.replicate ((x_.Parts.length : Nat) : Int).toNat (0 : Int)) (List.replicate ((x_.Channels.length : Nat) : Int).toNat ([] : List Int)))
def jn (n_ : Int) : Option Bool :=
 some (decide (n_ > 4))
def wb : Option Int :=
 some (-1)
def yw (s_ : List Int) (x8 : Int) : Option (LR Int (Unit ⊕ Int)) :=
 bif decide (x8 < ((s_.length : Nat) : Int)) then (
  Option.bind (idx s_ x8) fun s__e =>
  Option.bind (jn s__e) fun r_ =>
  bif r_ then (
   some (.done (.inr x8)))
  else (
   some (.next (w64 (x8 + 1)))))
 else (
  some (.done (.inl ())))
def xG (s_ : List Int) (f_ : Unit) : Option Int :=
 Option.bind (loop (fun s => yw s_ s) 0) fun t2 =>
 match t2 with
 | .inl p => wb
 | .inr p => some p
def yC (s_ : List Int) (f_ : Unit) : Option Bool :=
 Option.bind (xG s_ ()) fun r_ =>
 some (decide (r_ ≥ 0))
def jm (p_ : zh) : Option Bool :=
 bif decide (p_.States > 64) then (
  some true)
 else (
  some (decide (((p_.Arcs.length : Nat) : Int) > 256)))
def yp : Option Int :=
 some (-1)
def zN (s_ : List zh) (x8 : Int) : Option (LR Int (Unit ⊕ Int)) :=
 bif decide (x8 < ((s_.length : Nat) : Int)) then (
  Option.bind (idx s_ x8) fun s__e =>
  Option.bind (jm s__e) fun r_ =>
  bif r_ then (
   some (.done (.inr x8)))
  else (
   some (.next (w64 (x8 + 1)))))
 else (
  some (.done (.inl ())))
def ya (s_ : List zh) (f_ : Unit) : Option Int :=
 Option.bind (loop (fun s => zN s_ s) 0) fun t2 =>
 match t2 with
 | .inl p => yp
 | .inr p => some p
def zO (s_ : List zh) (f_ : Unit) : Option Bool :=
 Option.bind (ya s_ ()) fun r_ =>
 some (decide (r_ ≥ 0))
def jo (x_ : z7) : Option Bool :=
 bif decide (x_.Messages > 16) then (
  some true)
 else (
  bif decide (x_.Labels > 16) then (
   some true)
  else (
   bif decide (((x_.Channels.length : Nat) : Int) > 4) then (
    some true)
   else (
    bif decide (((x_.Parts.length : Nat) : Int) > 4) then (
     some true)
    else (
     Option.bind (yC x_.Channels ()) fun r_ =>
     bif r_ then (
      some true)
     else (
      Option.bind (zO x_.Parts ()) fun r_1 =>
      some r_1)))))
def jx (n_ : Int) : Option Bool :=
 some (decide (n_ < 0))
def wa : Option Int :=
 some (-1)
def yu (s_ : List Int) (x8 : Int) : Option (LR Int (Unit ⊕ Int)) :=
 bif decide (x8 < ((s_.length : Nat) : Int)) then (
  Option.bind (idx s_ x8) fun s__e =>
  Option.bind (jx s__e) fun r_ =>
  bif r_ then (
   some (.done (.inr x8)))
  else (
   some (.next (w64 (x8 + 1)))))
 else (
  some (.done (.inl ())))
def xF (s_ : List Int) (f_ : Unit) : Option Int :=
 Option.bind (loop (fun s => yu s_ s) 0) fun t2 =>
 match t2 with
 | .inl p => wa
 | .inr p => some p
def yz (s_ : List Int) (f_ : Unit) : Option Bool :=
 Option.bind (xF s_ ()) fun r_ =>
 some (decide (r_ ≥ 0))
def wV (n_ : Int) (many : Int) : Option Bool :=
 bif decide (n_ ≥ 0) then (
  some (decide (n_ < many)))
 else (
  some false)
def jQ : Option Bool :=
 some true
def uW (x9 : Int) (x29 : Bool) : Option (LR Int (Unit ⊕ Bool)) :=
 some (.next (w64 (x9 + 1)))
def vJ (l_ : List Int) (many : Int) (x9 : Int) : Option (LR Int (Unit ⊕ Bool)) :=
 bif decide (x9 < ((l_.length : Nat) : Int)) then (
  Option.bind (idx l_ x9) fun l__e =>
  Option.bind (wV l__e many) fun r_ =>
  bif !r_ then (
   some (.done (.inr false)))
  else (
   bif decide (x9 > 0) then (
    Option.bind (idx l_ (w64 (x9 - 1))) fun l__e1 =>
    bif decide (l__e ≤ l__e1) then (
     some (.done (.inr false)))
    else (
     uW x9 (decide (l__e ≤ l__e1))))
   else (
    uW x9 false)))
 else (
  some (.done (.inl ())))
def uw (l_ : List Int) (many : Int) : Option Bool :=
 Option.bind (loop (fun s => vJ l_ many s) 0) fun t2 =>
 match t2 with
 | .inl p => jQ
 | .inr p => some p
def wB (x_ : z7) (p_ : zh) (a_ : ze) : Option Bool :=
 Option.bind (wV a_.From p_.States) fun r_ =>
 bif !r_ then (
  some false)
 else (
  Option.bind (wV a_.To p_.States) fun r_1 =>
  bif !r_1 then (
   some false)
  else (
   bif decide (a_.Kind > 2) then (
    some false)
   else (
    bif a_.Kind == 0 then (
     bif a_.Channel == 0 then (
      Option.bind (wV a_.Message x_.Labels) fun r_2 =>
      some r_2)
     else (
      some false))
    else (
     Option.bind (wV a_.Channel ((x_.Channels.length : Nat) : Int)) fun r_3 =>
     bif r_3 then (
      Option.bind (wV a_.Message x_.Messages) fun r_4 =>
      some r_4)
     else (
      some false)))))
def jw (a_ : ze) (x1 : z7) (x2 : zh) : Option Bool :=
 Option.bind (wB x1 x2 a_) fun r_ =>
 some (!r_)
def yQ : Option Int :=
 some (-1)
def zS (s_ : List ze) (f_ : z7 × zh) (x8 : Int) : Option (LR Int (Unit ⊕ Int)) :=
 bif decide (x8 < ((s_.length : Nat) : Int)) then (
  Option.bind (idx s_ x8) fun s__e =>
  Option.bind (jw s__e f_.1 f_.2) fun r_ =>
  bif r_ then (
   some (.done (.inr x8)))
  else (
   some (.next (w64 (x8 + 1)))))
 else (
  some (.done (.inl ())))
def ye (s_ : List ze) (f_ : z7 × zh) : Option Int :=
 Option.bind (loop (fun s => zS s_ f_ s) 0) fun t2 =>
 match t2 with
 | .inl p => yQ
 | .inr p => some p
def zT (s_ : List ze) (f_ : z7 × zh) : Option Bool :=
 Option.bind (ye s_ (f_.1, f_.2)) fun r_ =>
 some (decide (r_ ≥ 0))
def ko : Option Int :=
 some 0
def uq (x_ : z7) (x29 : Int) : Option (LR Int (Unit ⊕ Int)) :=
 bif decide (x29 < ((x_.Parts.length : Nat) : Int)) then (
  Option.bind (idx x_.Parts x29) fun Part_e =>
  bif decide (Part_e.States < 1) then (
   some (.done (.inr 1)))
  else (
   Option.bind (uw Part_e.Final Part_e.States) fun r_2 =>
   bif !r_2 then (
    some (.done (.inr 1)))
   else (
    Option.bind (zT Part_e.Arcs (x_, Part_e)) fun r_3 =>
    bif r_3 then (
     some (.done (.inr 1)))
    else (
     some (.next (w64 (x29 + 1)))))))
 else (
  some (.done (.inl ())))
def ve (x_ : z7) : Option Int :=
 Option.bind (jo x_) fun r_ =>
 bif r_ then (
  some 3)
 else (
  bif decide (x_.Messages < 0) then (
   some 1)
  else (
   bif decide (x_.Labels < 0) then (
    some 1)
   else (
    bif decide (((x_.Parts.length : Nat) : Int) < 1) then (
     some 1)
    else (
     Option.bind (yz x_.Channels ()) fun r_1 =>
     bif r_1 then (
      some 1)
     else (
      Option.bind (loop (fun s => uq x_ s) 0) fun t2 =>
      match t2 with
      | .inl p => ko
      | .inr p => some p)))))
def vd (m_ : Int) (x1 : z7) : Option Bool :=
 Option.bind (wV m_ x1.Messages) fun r_ =>
 some (!r_)
def w9 : Option Int :=
 some (-1)
def yq (s_ : List Int) (f_ : z7) (x8 : Int) : Option (LR Int (Unit ⊕ Int)) :=
 bif decide (x8 < ((s_.length : Nat) : Int)) then (
  Option.bind (idx s_ x8) fun s__e =>
  Option.bind (vd s__e f_) fun r_ =>
  bif r_ then (
   some (.done (.inr x8)))
  else (
   some (.next (w64 (x8 + 1)))))
 else (
  some (.done (.inl ())))
def xE (s_ : List Int) (f_ : z7) : Option Int :=
 Option.bind (loop (fun s => yq s_ f_ s) 0) fun t2 =>
 match t2 with
 | .inl p => w9
 | .inr p => some p
def yx (s_ : List Int) (f_ : z7) : Option Bool :=
 Option.bind (xE s_ f_) fun r_ =>
 some (decide (r_ ≥ 0))
def uA : Option Int :=
 some 0
def xZ (x_ : z7) (c_ : z8) (x52 : Int) : Option (LR Int (Unit ⊕ Int)) :=
 bif decide (x52 < ((c_.Queues.length : Nat) : Int)) then (
  Option.bind (idx c_.Queues x52) fun Queue_e =>
  Option.bind (idx x_.Channels x52) fun Channel_e =>
  bif decide (((Queue_e.length : Nat) : Int) > Channel_e) then (
   some (.done (.inr 1)))
  else (
   Option.bind (yx Queue_e x_) fun r_1 =>
   bif r_1 then (
    some (.done (.inr 1)))
   else (
    some (.next (w64 (x52 + 1))))))
 else (
  some (.done (.inl ())))
def w5 (x_ : z7) (c_ : z8) : Option Int :=
 Option.bind (loop (fun s => xZ x_ c_ s) 0) fun t3 =>
 match t3 with
 | .inl p => uA
 | .inr p => some p
def xY (x_ : z7) (c_ : z8) (x34 : Int) : Option (LR Int (Unit ⊕ Int)) :=
 bif decide (x34 < ((x_.Parts.length : Nat) : Int)) then (
  Option.bind (idx x_.Parts x34) fun Part_e =>
  Option.bind (idx c_.States x34) fun State_e =>
  Option.bind (wV State_e Part_e.States) fun r_2 =>
  bif !r_2 then (
   some (.done (.inr 1)))
  else (
   some (.next (w64 (x34 + 1)))))
 else (
  some (.done (.inl ())))
def w8 (x_ : z7) (c_ : z8) : Option Int :=
 Option.bind (ve x_) fun r_ =>
 bif r_ != 0 then (
  some r_)
 else (
  bif ((c_.States.length : Nat) : Int) != ((x_.Parts.length : Nat) : Int) then (
   some 1)
  else (
   bif ((c_.Queues.length : Nat) : Int) != ((x_.Channels.length : Nat) : Int) then (
    some 1)
   else (
    Option.bind (loop (fun s => xY x_ c_ s) 0) fun t4 =>
    match t4 with
    | .inl p => w5 x_ c_
    | .inr p => some p)))
def vK (q_ : zf) (m_ : Int) : Option zf :=
 Option.bind (idx (zC.toL q_.l_) q_.many_) fun cell =>
 Option.bind (some (zC.setI q_.l_ q_.many_ m_)) fun arr =>
 some (zf.mk (w64 (q_.many_ + 1)) arr)
def kl (arr : zC Int) (s_queues : zC zf) : Option za :=
 some (za.mk arr s_queues)
def qH (x15 : Int) (s_queues2 : zC zf) : Option (LR (zC zf × Int) (zC zf)) :=
 some (.next (s_queues2, w64 (x15 + 1)))
def wv (x15 : Int) (Queue_e : List Int) (s_queues3 : zC zf) (x22 : Int) : Option (LR (zC zf × Int) (zC zf)) :=
 bif decide (x22 < ((Queue_e.length : Nat) : Int)) then (
  Option.bind (idx Queue_e x22) fun Queue_e_e =>
  Option.bind (idx (zC.toL s_queues3) x15) fun cell =>
  Option.bind (vK cell Queue_e_e) fun r_ =>
  Option.bind (idx (zC.toL s_queues3) x15) fun cell1 =>
  Option.bind (some (zC.setI s_queues3 x15 r_)) fun arr1 =>
  some (.next (arr1, w64 (x22 + 1))))
 else (
  some (.done s_queues3))
def wU (c_ : z8) (s_queues1 : zC zf) (x15 : Int) : Option (LR (zC zf × Int) (zC zf)) :=
 bif decide (x15 < ((c_.Queues.length : Nat) : Int)) then (
  Option.bind (idx c_.Queues x15) fun Queue_e =>
  Option.bind (loop (fun s => wv x15 Queue_e s.1 s.2) (s_queues1, 0)) fun t4 =>
  qH x15 t4)
 else (
  some (.done s_queues1))
def uX (c_ : z8) : Option za :=
 Option.bind (some (zC.ofL (cpA (zC.toL (zC.mk 0 0 0 0)) 0 c_.States) (zC.mk 0 0 0 0))) fun arr =>
 Option.bind (loop (fun s => wU c_ s.1 s.2) ((zC.mk (zf.mk 0 (zC.mk 0 0 0 0)) (zf.mk 0 (zC.mk 0 0 0 0)) (zf.mk 0 (zC.mk 0 0 0 0)) (zf.mk 0 (zC.mk 0 0 0 0))), 0)) fun t2 =>
 kl arr t2
def xc (x_ : z7) (s_ : za) : Option (z7 × za) :=
 some (x_, s_)
def w7 (x_ : z7) (s_ : za) (part : Int) : Option (z7 × Int × za) :=
 some (x_, part, s_)
def ws {σ : Type} (x14 : Int) (sg2 : σ) : Option (LR (σ × Int) σ) :=
 some (.next (sg2, w64 (x14 + 1)))
def xy {σ : Type} (x1 : Int) (x2 : za) (yy : σ → (Int × ze) → Option (σ × Bool)) (Part_e : zh) (sg1 : σ) (x14 : Int) : Option (LR (σ × Int) σ) :=
 bif decide (x14 < ((Part_e.Arcs.length : Nat) : Int)) then (
  Option.bind (idx Part_e.Arcs x14) fun Arc_e =>
  Option.bind (idx (zC.toL x2.states_) x1) fun cell =>
  bif Arc_e.From == cell then (
   Option.bind (yy sg1 (x14, Arc_e)) fun yr =>
   bif !yr.2 then (
    some (.done yr.1))
   else (
    ws x14 yr.1))
  else (
   ws x14 sg1))
 else (
  some (.done sg1))
def yg (x0 : z7) (x1 : Int) (x2 : za) {σ : Type} (yy : σ → (Int × ze) → Option (σ × Bool)) (sg : σ) : Option σ :=
 Option.bind (idx x0.Parts x1) fun Part_e =>
 Option.bind (loop (fun s => xy x1 x2 yy Part_e s.1 s.2) (sg, 0)) fun t1 =>
 some t1
def uE (q_ : zf) : Option zf :=
 Option.bind (some (zC.ofL (cpA (zC.toL q_.l_) 0 ((zC.toL q_.l_).drop 1)) q_.l_)) fun arr =>
 some (zf.mk (w64 (q_.many_ - 1)) (zC.mk arr.e0 arr.e1 arr.e2 0))
def wO (arr : zC Int) (s_queues : zC zf) : Option (za × Bool) :=
 some ((za.mk arr s_queues), false)
def zR (s_ : za) (a_ : ze) (arr : zC Int) (cell1 : zf) (x33 : Bool) : Option (za × Bool) :=
 bif x33 then (
  some ((za.mk arr s_.queues_), true))
 else (
  bif a_.Kind == 1 then (
   Option.bind (vK cell1 a_.Message) fun r_ =>
   Option.bind (idx (zC.toL s_.queues_) a_.Channel) fun cell2 =>
   Option.bind (some (zC.setI s_.queues_ a_.Channel r_)) fun arr1 =>
   wO arr arr1)
  else (
   Option.bind (uE cell1) fun r_1 =>
   Option.bind (idx (zC.toL s_.queues_) a_.Channel) fun cell3 =>
   Option.bind (some (zC.setI s_.queues_ a_.Channel r_1)) fun arr2 =>
   wO arr arr2))
def xw (x_ : z7) (s_ : za) (part : Int) (a_ : ze) : Option (za × Bool) :=
 Option.bind (idx (zC.toL s_.states_) part) fun cell =>
 Option.bind (some (zC.setI s_.states_ part a_.To)) fun arr =>
 Option.bind (idx (zC.toL s_.queues_) (mn a_.Channel 3)) fun cell1 =>
 bif a_.Kind == 0 then (
  some ((za.mk arr s_.queues_), false))
 else (
  Option.bind (idx x_.Channels a_.Channel) fun Channel_e =>
  bif Channel_e == 0 then (
   zR s_ a_ arr cell1 (Channel_e == 0))
  else (
   bif a_.Kind == 1 then (
    Option.bind (idx x_.Channels a_.Channel) fun Channel_e1 =>
    bif cell1.many_ == Channel_e1 then (
     zR s_ a_ arr cell1 (cell1.many_ == Channel_e1))
    else (
     bif a_.Kind == 2 then (
      bif cell1.many_ == 0 then (
       zR s_ a_ arr cell1 true)
      else (
       zR s_ a_ arr cell1 (cell1.l_.e0 != a_.Message)))
     else (
      zR s_ a_ arr cell1 false)))
   else (
    bif a_.Kind == 2 then (
     bif cell1.many_ == 0 then (
      zR s_ a_ arr cell1 true)
     else (
      zR s_ a_ arr cell1 (cell1.l_.e0 != a_.Message)))
    else (
     zR s_ a_ arr cell1 false))))
def Qz (e t : Bool) : Option Bool := bif t then some e else none
def vu {σ : Type} (x16 : Int) (sg2 : σ) : Option (LR (σ × Int) σ) :=
 some (.next (sg2, w64 (x16 + 1)))
def wi {σ : Type} (x59 : Int) (sg5 : σ) : Option (LR (σ × Int) (σ ⊕ σ)) :=
 some (.next (sg5, w64 (x59 + 1)))
def yT {σ : Type} (x1 : za) (yy : σ → (zc × za) → Option (σ × Bool)) (x16 : Int) (x23 : Int) (x24 : ze) (x59 : Int) (sg6 : σ) (x69 : Int) (x70 : ze) : Option (LR σ σ) :=
 bif x70.Kind != 2 then (
  some (.next sg6))
 else (
  bif x70.Channel != x24.Channel then (
   some (.next sg6))
  else (
   bif x70.Message != x24.Message then (
    some (.next sg6))
   else (
    Option.bind (idx (zC.toL x1.states_) x16) fun cell =>
    Option.bind (some (zC.setI x1.states_ x16 x24.To)) fun arr =>
    Option.bind (idx (zC.toL arr) x59) fun cell1 =>
    Option.bind (some (zC.setI arr x59 x70.To)) fun arr1 =>
    Option.bind (yy sg6 ((zc.mk x16 x23 x59 x69), (za.mk arr1 x1.queues_))) fun yr1 =>
    bif !yr1.2 then (
     some (.done yr1.1))
    else (
     some (.next yr1.1)))))
def yS {σ : Type} (x0 : z7) (x1 : za) (yy : σ → (zc × za) → Option (σ × Bool)) (x16 : Int) (x23 : Int) (x24 : ze) (sg4 : σ) (x59 : Int) : Option (LR (σ × Int) (σ ⊕ σ)) :=
 bif decide (x59 < ((x0.Parts.length : Nat) : Int)) then (
  bif x59 == x16 then (
   wi x59 sg4)
  else (
   Option.bind (w7 x0 x1 x59) fun r_3 =>
   Option.bind (yg r_3.1 r_3.2.1 r_3.2.2 (yOf (fun s x => yT x1 yy x16 x23 x24 x59 s x.1 x.2)) (.next sg4)) fun t6 =>
   match t6 with
   | .next sg6 => (
    wi x59 sg6)
   | .done sg6 => (
    some (.done (.inr sg6)))))
 else (
  some (.done (.inl sg4)))
def yU {σ : Type} (x0 : z7) (x1 : za) (yy : σ → (zc × za) → Option (σ × Bool)) (x16 : Int) (sg3 : σ) (x23 : Int) (x24 : ze) : Option (LR σ σ) :=
 Option.bind (xw x0 x1 x16 x24) fun r_1 =>
 Option.bind (Qz r_1.2 true) fun r_2 =>
 bif !r_2 then (
  Option.bind (yy sg3 ((zc.mk x16 x23 (-1) (-1)), r_1.1)) fun yr =>
  bif !yr.2 then (
   some (.done yr.1))
  else (
   some (.next yr.1)))
 else (
  bif x24.Kind != 1 then (
   some (.next sg3))
  else (
   Option.bind (idx x0.Channels x24.Channel) fun Channel_e =>
   bif decide (Channel_e > 0) then (
    some (.next sg3))
   else (
    Option.bind (loop (fun s => yS x0 x1 yy x16 x23 x24 s.1 s.2) (sg3, 0)) fun t4 =>
    match t4 with
    | .inl p => some (.next p)
    | .inr p => some (.done p))))
def xp {σ : Type} (x0 : z7) (x1 : za) (yy : σ → (zc × za) → Option (σ × Bool)) (sg1 : σ) (x16 : Int) : Option (LR (σ × Int) σ) :=
 bif decide (x16 < ((x0.Parts.length : Nat) : Int)) then (
  Option.bind (w7 x0 x1 x16) fun r_ =>
  Option.bind (yg r_.1 r_.2.1 r_.2.2 (yOf (fun s x => yU x0 x1 yy x16 s x.1 x.2)) (.next sg1)) fun t3 =>
  match t3 with
  | .next sg3 => (
   vu x16 sg3)
  | .done sg3 => (
   some (.done sg3)))
 else (
  some (.done sg1))
def y4 (x0 : z7) (x1 : za) {σ : Type} (yy : σ → (zc × za) → Option (σ × Bool)) (sg : σ) : Option σ :=
 Option.bind (loop (fun s => xp x0 x1 yy s.1 s.2) (sg, 0)) fun t1 =>
 some t1
def y6 (s_ : List zc) : Option (List zc) :=
 gd ((0 : Int) ≤ 0 ∧ (0 : Int) ≤ ((s_.length : Nat) : Int) ∧ (((s_.length : Nat) : Int) : Int) ≤ ((s_.length : Nat) : Int) ∧ (((s_.length : Nat) : Int) : Int) ≤ ((s_.length : Nat) : Int)) <|
 some ((s_.drop 0).take (((s_.length : Nat) : Int).toNat - 0))
def up (out : List zc) : Option (List zc × Int) :=
 Option.bind (y6 out) fun r_1 =>
 some (r_1, 0)
def ww (out1 : List zc) (x19 : zc) (x20 : za) : Option (LR (List zc) Empty) :=
 gd (out1.length + ([x19] : List zc).length ≤ 4294967296) <|
 some (.next (out1 ++ ([x19] : List zc)))
def jv (x_ : z7) (c_ : z8) : Option (List zc × Int) :=
 Option.bind (w8 x_ c_) fun r_ =>
 bif r_ != 0 then (
  some (([] : List zc), r_))
 else (
  Option.bind (uX c_) fun r_2 =>
  Option.bind (xc x_ r_2) fun r_3 =>
  Option.bind (y4 r_3.1 r_3.2 (yOf (fun s x => ww s x.1 x.2)) (.next ([] : List zc))) fun t2 =>
  match t2 with
  | .next out1 => (
   up out1)
  | .done z => nomatch z)
def Y7 (capacity : Int) (arcs : List ze) : Option z7 :=
 some (z7.mk 1 1 ([capacity]) ([(zh.mk 2 ([(ze.mk 0 1 0 0 1), (ze.mk 1 0 0 0 0)]) []), (zh.mk 1 arcs [])]))
def xl (s_ : List z6) : Option (List z6) :=
 gd ((0 : Int) ≤ 0 ∧ (0 : Int) ≤ ((s_.length : Nat) : Int) ∧ (((s_.length : Nat) : Int) : Int) ≤ ((s_.length : Nat) : Int) ∧ (((s_.length : Nat) : Int) : Int) ≤ ((s_.length : Nat) : Int)) <|
 some ((s_.drop 0).take (((s_.length : Nat) : Int).toNat - 0))
def yb (s_ : List (List z6)) : Option (List (List z6)) :=
 some s_
def ub (x4 : Int) (list : List za) (steps : List (List z6)) : Option (List za × List (List z6) × Int) :=
 Option.bind (yb steps) fun r_ =>
 some (list, r_, 0)
def ua (i_ : Int) (x42 : Int) (list2 : List za) (at_1 : List (za × Int)) (steps2 : List (List z6)) : Option (LR (Int × List za × (List (za × Int)) × List (List z6) × Int) ((Int × List za × List (List z6)) ⊕ (List za × List (List z6) × Int))) :=
 some (.next (x42, list2, at_1, steps2, w64 (i_ + 1)))
def u9 (steps1 : List (List z6)) (i_ : Int) (x43 : Int) (list3 : List za) (at_2 : List (za × Int)) (l_ : List z6) : Option (LR (Int × List za × (List (za × Int)) × List (List z6) × Int) ((Int × List za × List (List z6)) ⊕ (List za × List (List z6) × Int))) :=
 Option.bind (xl l_) fun r_1 =>
 gd (steps1.length + ([r_1] : List (List z6)).length ≤ 4294967296) <|
 ua i_ x43 list3 at_2 (steps1 ++ ([r_1] : List (List z6)))
def wI (x44 : Int) (l_1 : List z6) (x31 : zc) (list5 : List za) (at_4 : List (za × Int)) (n_ : Int) : Option (LR (Int × List za × (List (za × Int)) × List z6) ((Int × List za × (List (za × Int)) × List z6))) :=
 gd (l_1.length + ([(z6.mk x31 n_)] : List z6).length ≤ 4294967296) <|
 some (.next (x44, list5, at_4, (l_1 ++ ([(z6.mk x31 n_)] : List z6))))
def wJ (x44 : Int) (list4 : List za) (at_3 : List (za × Int)) (l_1 : List z6) (x31 : zc) (x32 : za) : Option (LR (Int × List za × (List (za × Int)) × List z6) ((Int × List za × (List (za × Int)) × List z6))) :=
 Option.bind (some ((z28 at_3 x32).getD 0)) fun val =>
 bif !((z28 at_3 x32).isSome) then (
  bif ((list4.length : Nat) : Int) == 1024 then (
   some (.done (3, list4, at_3, l_1)))
  else (
   gd (list4.length + ([x32] : List za).length ≤ 4294967296) <|
   wI x44 l_1 x31 (list4 ++ ([x32] : List za)) (z27 at_3 x32 ((list4.length : Nat) : Int)) ((list4.length : Nat) : Int)))
 else (
  wI x44 l_1 x31 list4 at_3 val)
def u7 (x_ : z7) (x41 : Int) (list1 : List za) (at_ : List (za × Int)) (steps1 : List (List z6)) (i_ : Int) : Option (LR (Int × List za × (List (za × Int)) × List (List z6) × Int) ((Int × List za × List (List z6)) ⊕ (List za × List (List z6) × Int))) :=
 bif decide (i_ < ((list1.length : Nat) : Int)) then (
  Option.bind (idx list1 i_) fun list_e =>
  Option.bind (xc x_ list_e) fun r_2 =>
  Option.bind (y4 r_2.1 r_2.2 (yOf (fun s x => wJ s.1 s.2.1 s.2.2.1 s.2.2.2 x.1 x.2)) (.next (x41, list1, at_, ([] : List z6)))) fun t5 =>
  match t5 with
  | .next (x44, list4, at_3, l_1) => (
   u9 steps1 i_ x44 list4 at_3 l_1)
  | .done (x44, list4, at_3, l_1) => (
   some (.done (.inr (([] : List za), ([] : List (List z6)), x44)))))
 else (
  some (.done (.inl (x41, list1, steps1))))
def wC (x_ : z7) : Option (List za × List (List z6) × Int) :=
 Option.bind (loop (fun s => u7 x_ s.1 s.2.1 s.2.2.1 s.2.2.2.1 s.2.2.2.2) (0, ([(za.mk (zC.mk 0 0 0 0) (zC.mk (zf.mk 0 (zC.mk 0 0 0 0)) (zf.mk 0 (zC.mk 0 0 0 0)) (zf.mk 0 (zC.mk 0 0 0 0)) (zf.mk 0 (zC.mk 0 0 0 0))))] : List za), (z27 ([] : List (za × Int)) (za.mk (zC.mk 0 0 0 0) (zC.mk (zf.mk 0 (zC.mk 0 0 0 0)) (zf.mk 0 (zC.mk 0 0 0 0)) (zf.mk 0 (zC.mk 0 0 0 0)) (zf.mk 0 (zC.mk 0 0 0 0)))) 0), ([] : List (List z6)), 0)) fun t2 =>
 match t2 with
 | .inl p => ub p.1 p.2.1 p.2.2
 | .inr p => some p
def xS (s_ : List Int) : Option (List Int) :=
 gd (([] : List Int).length + s_.length ≤ 4294967296) <|
 some s_
def wd (s_ : List Int) : Option (List Int) :=
 gd ((0 : Int) ≤ 0 ∧ (0 : Int) ≤ ((s_.length : Nat) : Int) ∧ (((s_.length : Nat) : Int) : Int) ≤ ((s_.length : Nat) : Int) ∧ (((s_.length : Nat) : Int) : Int) ≤ ((s_.length : Nat) : Int)) <|
 some ((s_.drop 0).take (((s_.length : Nat) : Int).toNat - 0))
def vL (r_1 : List Int) (c_Queues : List (List Int)) : Option z8 :=
 some (z8.mk r_1 c_Queues)
def yZ (x_ : z7) (s_ : za) (c_Queues1 : List (List Int)) (x23 : Int) : Option (LR (List (List Int) × Int) (List (List Int))) :=
 bif decide (x23 < (((List.replicate ((x_.Channels.length : Nat) : Int).toNat ([] : List Int)).length : Nat) : Int)) then (
  Option.bind (idx (zC.toL s_.queues_) x23) fun cell =>
  gd ((0 : Int) ≤ cell.many_ ∧ (cell.many_ : Int) ≤ (([cell.l_.e0, cell.l_.e1, cell.l_.e2, cell.l_.e3].length : Nat) : Int)) <|
  Option.bind (xS ([cell.l_.e0, cell.l_.e1, cell.l_.e2, cell.l_.e3].take cell.many_.toNat)) fun r_2 =>
  Option.bind (wd r_2) fun r_3 =>
  Option.bind (idx c_Queues1 x23) fun c_Queue_e =>
  some (.next ((c_Queues1.set x23.toNat r_3), w64 (x23 + 1))))
 else (
  some (.done c_Queues1))
def x5 (x_ : z7) (s_ : za) : Option z8 :=
 gd ((0 : Int) ≤ ((x_.Parts.length : Nat) : Int) ∧ (((x_.Parts.length : Nat) : Int) : Int) ≤ (([s_.states_.e0, s_.states_.e1, s_.states_.e2, s_.states_.e3].length : Nat) : Int)) <|
 Option.bind (xS ([s_.states_.e0, s_.states_.e1, s_.states_.e2, s_.states_.e3].take ((x_.Parts.length : Nat) : Int).toNat)) fun r_ =>
 Option.bind (wd r_) fun r_1 =>
 gd ((0 : Int) ≤ ((x_.Channels.length : Nat) : Int) ∧ (((x_.Channels.length : Nat) : Int) : Int) ≤ 4294967296) <|
 Option.bind (loop (fun s => yZ x_ s_ s.1 s.2) ((List.replicate ((x_.Channels.length : Nat) : Int).toNat ([] : List Int)), 0)) fun t2 =>
 vL r_1 t2
def yW (s_ : List z8) : Option (List z8) :=
 gd ((0 : Int) ≤ 0 ∧ (0 : Int) ≤ ((s_.length : Nat) : Int) ∧ (((s_.length : Nat) : Int) : Int) ≤ ((s_.length : Nat) : Int) ∧ (((s_.length : Nat) : Int) : Int) ≤ ((s_.length : Nat) : Int)) <|
 some ((s_.drop 0).take (((s_.length : Nat) : Int).toNat - 0))
def kn (r_1 : List za × List (List z6) × Int) (out : List z8) : Option (List z8 × List (List z6) × Int) :=
 Option.bind (yW out) fun r_2 =>
 some (r_2, r_1.2.1, 0)
def km (x_ : z7) (r_1 : List za × List (List z6) × Int) (out1 : List z8) (x28 : Int) : Option (LR (List z8 × Int) (List z8)) :=
 bif decide (x28 < ((r_1.1.length : Nat) : Int)) then (
  Option.bind (idx r_1.1 x28) fun u_ =>
  Option.bind (x5 x_ u_) fun r_3 =>
  gd (out1.length + ([r_3] : List z8).length ≤ 4294967296) <|
  some (.next ((out1 ++ ([r_3] : List z8)), w64 (x28 + 1))))
 else (
  some (.done out1))
def kE (x_ : z7) : Option (List z8 × List (List z6) × Int) :=
 Option.bind (ve x_) fun r_ =>
 bif r_ != 0 then (
  some (([] : List z8), ([] : List (List z6)), r_))
 else (
  Option.bind (wC x_) fun r_1 =>
  bif r_1.2.2 != 0 then (
   some (([] : List z8), ([] : List (List z6)), r_1.2.2))
  else (
   Option.bind (loop (fun s => km x_ r_1 s.1 s.2) (([] : List z8), 0)) fun t2 =>
   kn r_1 t2))
def vm (a_ : Int) (b_ : Int) (queue : List Int) : Option z8 :=
 some (z8.mk ([a_, b_]) ([queue]))
def uz (part : Int) (arc : Int) : Option zc :=
 some (zc.mk part arc (-1) (-1))
def kX : Option Int :=
 some 0
def uT (a_ : List Int) (b_ : List Int) (i_ : Int) : Option (LR Int (Unit ⊕ Int)) :=
 bif decide (i_ < ((a_.length : Nat) : Int)) then (
  Option.bind (idx a_ i_) fun a__e =>
  Option.bind (idx b_ i_) fun b__e =>
  bif a__e != b__e then (
   Option.bind (idx a_ i_) fun a__e1 =>
   Option.bind (idx b_ i_) fun b__e1 =>
   bif decide (a__e1 < b__e1) then (
    some (.done (.inr 1)))
   else (
    some (.done (.inr 0))))
  else (
   some (.next (w64 (i_ + 1)))))
 else (
  some (.done (.inl ())))
def j6 (a_ : List Int) (b_ : List Int) : Option Int :=
 bif ((a_.length : Nat) : Int) != ((b_.length : Nat) : Int) then (
  bif decide (((a_.length : Nat) : Int) < ((b_.length : Nat) : Int)) then (
   some 1)
  else (
   some 0))
 else (
  Option.bind (loop (fun s => uT a_ b_ s) 0) fun t2 =>
  match t2 with
  | .inl p => kX
  | .inr p => some p)
def kO (a_ : List Int) (b_ : List Int) : Option Int :=
 bif ((a_.length : Nat) : Int) != ((b_.length : Nat) : Int) then (
  some 0)
 else (
  Option.bind (j6 a_ b_) fun r_ =>
  bif r_ == 1 then (
   some 0)
  else (
   Option.bind (j6 b_ a_) fun r_1 =>
   bif r_1 == 1 then (
    some 0)
   else (
    some 1)))
def Yq : Option Int :=
 some 1
def jE (a_ : z8) (b_ : z8) (i_ : Int) : Option (LR Int (Unit ⊕ Int)) :=
 bif decide (i_ < ((a_.Queues.length : Nat) : Int)) then (
  Option.bind (idx a_.Queues i_) fun Queue_e =>
  Option.bind (idx b_.Queues i_) fun Queue_e1 =>
  Option.bind (kO Queue_e Queue_e1) fun r_1 =>
  bif r_1 == 0 then (
   some (.done (.inr 0)))
  else (
   some (.next (w64 (i_ + 1)))))
 else (
  some (.done (.inl ())))
def jT (a_ : z8) (b_ : z8) : Option Int :=
 Option.bind (kO a_.States b_.States) fun r_ =>
 bif r_ == 0 then (
  some 0)
 else (
  bif ((a_.Queues.length : Nat) : Int) != ((b_.Queues.length : Nat) : Int) then (
   some 0)
  else (
   Option.bind (loop (fun s => jE a_ b_ s) 0) fun t2 =>
   match t2 with
   | .inl p => Yq
   | .inr p => some p))
def ZS : Option Int :=
 some 1
def ZR (i_ : Int) (x74 : List z6) (x75 : List z6) (x76 : Int) (x79 : List z6) (x80 : List z6) (x81 : Int) (x82 : Bool) : Option (LR Int (Unit ⊕ Int)) :=
 some (.next (w64 (i_ + 1)))
def ZP (s_ : List (List z6)) (steps : List (List z6)) (i_ : Int) (s__e1 : List z6) (s__e2 : List z6) (k_ : Int) : Option (LR Int ((List z6 × List z6 × Int × List z6 × List z6 × Int × Bool) ⊕ Int)) :=
 Option.bind (idx s_ i_) fun s__e3 =>
 bif decide (k_ < ((s__e3.length : Nat) : Int)) then (
  Option.bind (idx s_ i_) fun s__e4 =>
  Option.bind (idx s__e4 k_) fun s__e_e =>
  Option.bind (idx steps i_) fun step_e1 =>
  Option.bind (idx step_e1 k_) fun step_e_e =>
  bif !((s__e_e.Move.Part == step_e_e.Move.Part) && ((s__e_e.Move.Arc == step_e_e.Move.Arc) && ((s__e_e.Move.Other == step_e_e.Move.Other) && ((s__e_e.Move.With == step_e_e.Move.With) && ((s__e_e.To == step_e_e.To) && true))))) then (
   some (.done (.inr 0)))
  else (
   some (.next (w64 (k_ + 1)))))
 else (
  some (.done (.inl (s__e1, s__e1, ((s__e1.length : Nat) : Int), s__e2, s__e2, ((s__e2.length : Nat) : Int), ((s__e1.length : Nat) : Int) != ((s__e2.length : Nat) : Int)))))
def ZQ (s_ : List (List z6)) (steps : List (List z6)) (i_ : Int) : Option (LR Int (Unit ⊕ Int)) :=
 bif decide (i_ < ((s_.length : Nat) : Int)) then (
  Option.bind (idx s_ i_) fun s__e =>
  Option.bind (idx steps i_) fun step_e =>
  bif ((s__e.length : Nat) : Int) != ((step_e.length : Nat) : Int) then (
   some (.done (.inr 0)))
  else (
   Option.bind (idx s_ i_) fun s__e1 =>
   Option.bind (idx s_ i_) fun s__e2 =>
   bif ((s__e1.length : Nat) : Int) != ((s__e2.length : Nat) : Int) then (
    some (.done (.inr 0)))
   else (
    Option.bind (loop (fun s => ZP s_ steps i_ s__e1 s__e2 s) 0) fun t5 =>
    match t5 with
    | .inl p => ZR i_ p.1 p.2.1 p.2.2.1 p.2.2.2.1 p.2.2.2.2.1 p.2.2.2.2.2.1 p.2.2.2.2.2.2
    | .inr p => some (.done (.inr p)))))
 else (
  some (.done (.inl ())))
def ZT (s_ : List (List z6)) (steps : List (List z6)) : Option Int :=
 Option.bind (loop (fun s => ZQ s_ steps s) 0) fun t3 =>
 match t3 with
 | .inl p => ZS
 | .inr p => some p
def ZO (c_ : List z8) (list : List z8) (i_1 : Int) : Option (LR Int (Unit ⊕ Int)) :=
 bif decide (i_1 < ((c_.length : Nat) : Int)) then (
  Option.bind (idx c_ i_1) fun c__e =>
  Option.bind (idx list i_1) fun list_e =>
  Option.bind (jT c__e list_e) fun r_ =>
  bif r_ == 0 then (
   some (.done (.inr 0)))
  else (
   some (.next (w64 (i_1 + 1)))))
 else (
  some (.done (.inl ())))
def Yt (c_ : List z8) (s_ : List (List z6)) (list : List z8) (steps : List (List z6)) : Option Int :=
 bif ((c_.length : Nat) : Int) != ((list.length : Nat) : Int) then (
  some 0)
 else (
  bif ((s_.length : Nat) : Int) != ((steps.length : Nat) : Int) then (
   some 0)
  else (
   bif ((c_.length : Nat) : Int) != ((c_.length : Nat) : Int) then (
    some 0)
   else (
    bif ((s_.length : Nat) : Int) != ((s_.length : Nat) : Int) then (
     some 0)
    else (
     Option.bind (loop (fun s => ZO c_ list s) 0) fun t6 =>
     match t6 with
     | .inl p => ZT s_ steps
     | .inr p => some p))))
def qj (x_ : Int) : Option Bool :=
 some (x_ != x_)
def Xp (x_ : Int) (y_ : Int) : Option Bool :=
 Option.bind (qj x_) fun r_ =>
 bif r_ then (
  Option.bind (qj y_) fun r_1 =>
  bif !r_1 then (
   some true)
  else (
   some (decide (x_ < y_))))
 else (
  some (decide (x_ < y_)))
def qL (x_ : Int) : Option Bool :=
 some (x_ != x_)
def wn (x_ : List Int) (target : Int) (i_ : Int) : Option (Int × Bool) :=
 bif decide (i_ < ((x_.length : Nat) : Int)) then (
  Option.bind (idx x_ i_) fun x__e =>
  bif x__e == target then (
   some (i_, true))
  else (
   Option.bind (idx x_ i_) fun x__e1 =>
   Option.bind (qL x__e1) fun r_ =>
   bif r_ then (
    Option.bind (qL target) fun r_1 =>
    some (i_, r_1))
   else (
    some (i_, false))))
 else (
  some (i_, false))
def wm (x_ : List Int) (target : Int) (i_1 : Int) (j_ : Int) : Option (LR (Int × Int) Int) :=
 bif decide (i_1 < j_) then (
  Option.bind (idx x_ (w64 (Int.fdiv (IntKind.u64.wrap (w64 (i_1 + j_))) (2 ^ 1)))) fun x__e2 =>
  Option.bind (Xp x__e2 target) fun r_2 =>
  bif r_2 then (
   some (.next (w64 ((w64 (Int.fdiv (IntKind.u64.wrap (w64 (i_1 + j_))) (2 ^ 1))) + 1), j_)))
  else (
   some (.next (i_1, w64 (Int.fdiv (IntKind.u64.wrap (w64 (i_1 + j_))) (2 ^ 1))))))
 else (
  some (.done i_1))
def wL (x_ : List Int) (target : Int) : Option (Int × Bool) :=
 Option.bind (loop (fun s => wm x_ target s.1 s.2) (0, ((x_.length : Nat) : Int))) fun t2 =>
 wn x_ target t2
def jI (x_ : Int) : Option Bool :=
 some (x_ != x_)
def jW (x_ : Int) (y_ : Int) : Option Int :=
 Option.bind (jI x_) fun r_ =>
 Option.bind (jI y_) fun r_1 =>
 bif r_ then (
  bif r_1 then (
   some 0)
  else (
   some (-1)))
 else (
  bif r_1 then (
   some 1)
  else (
   bif decide (x_ < y_) then (
    some (-1))
   else (
    bif decide (x_ > y_) then (
     some 1)
    else (
     some 0))))
def jJ (x_ : Int) (y_ : Int) : Option Int :=
 Option.bind (qj x_) fun r_ =>
 Option.bind (qj y_) fun r_1 =>
 bif r_ then (
  bif r_1 then (
   some 0)
  else (
   some (-1)))
 else (
  bif r_1 then (
   some 1)
  else (
   bif decide (x_ < y_) then (
    some (-1))
   else (
    bif decide (x_ > y_) then (
     some 1)
    else (
     some 0))))
def Yz : Option Int :=
 some 0
def Yy (vals : List Int) (x8 : Int) : Option (LR Int (Unit ⊕ Int)) :=
 bif decide (x8 < ((vals.length : Nat) : Int)) then (
  Option.bind (idx vals x8) fun val_e =>
  bif val_e != 0 then (
   some (.done (.inr val_e)))
  else (
   some (.next (w64 (x8 + 1)))))
 else (
  some (.done (.inl ())))
def Vv (vals : List Int) : Option Int :=
 Option.bind (loop (fun s => Yy vals s) 0) fun t2 =>
 match t2 with
 | .inl p => Yz
 | .inr p => some p
def jR (a_ : zg) (b_ : zg) : Option Int :=
 Option.bind (jW a_.Kind b_.Kind) fun r_ =>
 Option.bind (jJ a_.Label b_.Label) fun r_1 =>
 Option.bind (jJ a_.To b_.To) fun r_2 =>
 Option.bind (Vv ([r_, r_1, r_2])) fun r_3 =>
 some r_3
def xk (s_ : List zg) : Option (List zg) :=
 some s_
def xj (k_ : Int) : Option (LR Int (Unit ⊕ List zg)) :=
 some (.next (w64 (k_ + 1)))
def xi (s_1 : List zg) (k_1 : Int) : Option (LR Int (Unit ⊕ List zg)) :=
 gd ((0 : Int) ≤ k_1 ∧ (k_1 : Int) ≤ ((s_1.length : Nat) : Int)) <|
 gd ((0 : Int) ≤ k_1 ∧ (k_1 : Int) ≤ ((s_1.length : Nat) : Int)) <|
 gd ((0 : Int) ≤ k_1 ∧ (k_1 : Int) ≤ (((s_1.take k_1.toNat ++ List.replicate (s_1.length - k_1.toNat) (zg.mk 0 0 0)).length : Nat) : Int)) <|
 some (.done (.inr ((s_1.take k_1.toNat ++ List.replicate (s_1.length - k_1.toNat) (zg.mk 0 0 0)).take k_1.toNat)))
def yn (k2 : Int) (s_3 : List zg) (k_3 : Int) : Option (LR (List zg × Int × Int) ((List zg × Int))) :=
 some (.next (s_3, k_3, w64 (k2 + 1)))
def xg (k_ : Int) (s_2 : List zg) (k_2 : Int) (k2 : Int) : Option (LR (List zg × Int × Int) ((List zg × Int))) :=
 bif decide (k2 < ((s_2.length - k_.toNat : Nat) : Int)) then (
  gd ((0 : Int) ≤ k_ ∧ (0 : Int) ≤ k2) <|
  Option.bind (idx s_2 (k_ + k2)) fun s__e2 =>
  gd ((0 : Int) ≤ k_ ∧ (0 : Int) ≤ w64 (k2 - 1)) <|
  Option.bind (idx s_2 (k_ + (w64 (k2 - 1)))) fun s__e3 =>
  bif !((s__e2.Kind == s__e3.Kind) && ((s__e2.Label == s__e3.Label) && ((s__e2.To == s__e3.To) && true))) then (
   gd ((0 : Int) ≤ k_ ∧ (0 : Int) ≤ k2) <|
   Option.bind (idx s_2 (k_ + k2)) fun s__e4 =>
   Option.bind (idx s_2 k_2) fun s__e5 =>
   yn k2 (s_2.set k_2.toNat s__e4) (w64 (k_2 + 1)))
  else (
   yn k2 s_2 k_2))
 else (
  some (.done (s_2, k_2)))
def xh (s_ : List zg) (k_ : Int) : Option (LR Int (Unit ⊕ List zg)) :=
 bif decide (k_ < ((s_.length : Nat) : Int)) then (
  Option.bind (idx s_ k_) fun s__e =>
  Option.bind (idx s_ (w64 (k_ - 1))) fun s__e1 =>
  bif (s__e.Kind == s__e1.Kind) && ((s__e.Label == s__e1.Label) && ((s__e.To == s__e1.To) && true)) then (
   gd ((0 : Int) ≤ k_ ∧ (k_ : Int) ≤ ((s_.length : Nat) : Int)) <|
   Option.bind (loop (fun s => xg k_ s.1 s.2.1 s.2.2) (s_, k_, 1)) fun t5 =>
   xi t5.1 t5.2)
  else (
   xj k_))
 else (
  some (.done (.inl ())))
def xI (s_ : List zg) : Option (List zg) :=
 bif decide (((s_.length : Nat) : Int) < 2) then (
  some s_)
 else (
  Option.bind (loop (fun s => xh s_ s) 1) fun t2 =>
  match t2 with
  | .inl p => xk s_
  | .inr p => some p)
def wc (s_ : List zg) : Option (List zg) :=
 gd ((0 : Int) ≤ 0 ∧ (0 : Int) ≤ ((s_.length : Nat) : Int) ∧ (((s_.length : Nat) : Int) : Int) ≤ ((s_.length : Nat) : Int) ∧ (((s_.length : Nat) : Int) : Int) ≤ ((s_.length : Nat) : Int)) <|
 some ((s_.drop 0).take (((s_.length : Nat) : Int).toNat - 0))
def xV (s_ : List (List zg)) : Option (List (List zg)) :=
 gd ((0 : Int) ≤ 0 ∧ (0 : Int) ≤ ((s_.length : Nat) : Int) ∧ (((s_.length : Nat) : Int) : Int) ≤ ((s_.length : Nat) : Int) ∧ (((s_.length : Nat) : Int) : Int) ≤ ((s_.length : Nat) : Int)) <|
 some ((s_.drop 0).take (((s_.length : Nat) : Int).toNat - 0))
def jt (x_ : z7) (out_Rows : List (List zg)) : Option (zF × Int) :=
 Option.bind (xV out_Rows) fun r_3 =>
 some ((zF.mk 0 x_.Labels r_3), 0)
def js (x51 : Int) (out_Rows2 : List (List zg)) : Option (LR (List (List zg) × Int) (List (List zg) ⊕ (zF × Int))) :=
 some (.next (out_Rows2, w64 (x51 + 1)))
def jr (out_Rows1 : List (List zg)) (x51 : Int) (row : List zg) : Option (LR (List (List zg) × Int) (List (List zg) ⊕ (zF × Int))) :=
 Option.bind (z6E (fun x y => jR x y) row) fun sorted =>
 Option.bind (xI sorted) fun r_4 =>
 Option.bind (wc r_4) fun r_5 =>
 bif decide (((r_5.length : Nat) : Int) > 256) then (
  some (.done (.inr ((zF.mk 0 0 []), 3))))
 else (
  gd (out_Rows1.length + ([r_5] : List (List zg)).length ≤ 4294967296) <|
  js x51 (out_Rows1 ++ ([r_5] : List (List zg))))
def vb (row1 : List zg) (x57 : Int) (u__e : z6) (arc_Kind : Int) (arc_Label : Int) : Option (LR (List zg × Int) (List zg)) :=
 gd (row1.length + ([(zg.mk arc_Kind arc_Label u__e.To)] : List zg).length ≤ 4294967296) <|
 some (.next ((row1 ++ ([(zg.mk arc_Kind arc_Label u__e.To)] : List zg)), w64 (x57 + 1)))
def jp (x_ : z7) (hidden : List Int) (u_ : List z6) (row1 : List zg) (x57 : Int) : Option (LR (List zg × Int) (List zg)) :=
 bif decide (x57 < ((u_.length : Nat) : Int)) then (
  Option.bind (idx u_ x57) fun u__e =>
  Option.bind (idx x_.Parts u__e.Move.Part) fun Part_e =>
  Option.bind (idx Part_e.Arcs u__e.Move.Arc) fun Arc_e =>
  Option.bind (wL hidden Arc_e.Message) fun r_6 =>
  bif Arc_e.Kind == 0 then (
   bif !r_6.2 then (
    vb row1 x57 u__e 2 Arc_e.Message)
   else (
    vb row1 x57 u__e 0 0))
  else (
   vb row1 x57 u__e 0 0))
 else (
  some (.done row1))
def jq (x_ : z7) (hidden : List Int) (r_2 : List za × List (List z6) × Int) (out_Rows1 : List (List zg)) (x51 : Int) : Option (LR (List (List zg) × Int) (List (List zg) ⊕ (zF × Int))) :=
 bif decide (x51 < ((r_2.2.1.length : Nat) : Int)) then (
  Option.bind (idx r_2.2.1 x51) fun u_ =>
  Option.bind (loop (fun s => jp x_ hidden u_ s.1 s.2) (([] : List zg), 0)) fun t5 =>
  jr out_Rows1 x51 t5)
 else (
  some (.done (.inl out_Rows1)))
def ju (x_ : z7) (hidden : List Int) : Option (zF × Int) :=
 Option.bind (ve x_) fun r_ =>
 bif r_ != 0 then (
  some ((zF.mk 0 0 []), r_))
 else (
  Option.bind (uw hidden x_.Labels) fun r_1 =>
  bif !r_1 then (
   some ((zF.mk 0 0 []), 1))
  else (
   Option.bind (wC x_) fun r_2 =>
   bif r_2.2.2 != 0 then (
    some ((zF.mk 0 0 []), r_2.2.2))
   else (
    bif decide (((r_2.1.length : Nat) : Int) > 64) then (
     some ((zF.mk 0 0 []), 3))
    else (
     Option.bind (loop (fun s => jq x_ hidden r_2 s.1 s.2) (([] : List (List zg)), 0)) fun t2 =>
     match t2 with
     | .inl p => jt x_ p
     | .inr p => some p))))
def kz : Option Int :=
 some 1
def ky (i_ : Int) : Option (LR Int (Unit ⊕ Int)) :=
 some (.next (w64 (i_ + 1)))
def kw (a_ : zF) (b_ : zF) (i_ : Int) (k_ : Int) : Option (LR Int (Unit ⊕ Int)) :=
 Option.bind (idx a_.Rows i_) fun Row_e2 =>
 bif decide (k_ < ((Row_e2.length : Nat) : Int)) then (
  Option.bind (idx a_.Rows i_) fun Row_e3 =>
  Option.bind (idx Row_e3 k_) fun Row_e_e =>
  Option.bind (idx b_.Rows i_) fun Row_e4 =>
  Option.bind (idx Row_e4 k_) fun Row_e_e1 =>
  bif !((Row_e_e.Kind == Row_e_e1.Kind) && ((Row_e_e.Label == Row_e_e1.Label) && ((Row_e_e.To == Row_e_e1.To) && true))) then (
   some (.done (.inr 0)))
  else (
   some (.next (w64 (k_ + 1)))))
 else (
  some (.done (.inl ())))
def kx (a_ : zF) (b_ : zF) (i_ : Int) : Option (LR Int (Unit ⊕ Int)) :=
 bif decide (i_ < ((a_.Rows.length : Nat) : Int)) then (
  Option.bind (idx a_.Rows i_) fun Row_e =>
  Option.bind (idx b_.Rows i_) fun Row_e1 =>
  bif ((Row_e.length : Nat) : Int) != ((Row_e1.length : Nat) : Int) then (
   some (.done (.inr 0)))
  else (
   Option.bind (loop (fun s => kw a_ b_ i_ s) 0) fun t4 =>
   match t4 with
   | .inl p => ky i_
   | .inr p => some (.done (.inr p))))
 else (
  some (.done (.inl ())))
def kF (a_ : zF) (b_ : zF) : Option Int :=
 bif a_.Inputs != b_.Inputs then (
  some 0)
 else (
  bif a_.Outputs != b_.Outputs then (
   some 0)
  else (
   bif ((a_.Rows.length : Nat) : Int) != ((b_.Rows.length : Nat) : Int) then (
    some 0)
   else (
    Option.bind (loop (fun s => kx a_ b_ s) 0) fun t2 =>
    match t2 with
    | .inl p => kz
    | .inr p => some p)))
def ui : Option Int :=
 some (-1)
def uh (s_ : List Int) (v_ : Int) (x8 : Int) : Option (LR Int (Unit ⊕ Int)) :=
 bif decide (x8 < ((s_.length : Nat) : Int)) then (
  Option.bind (idx s_ x8) fun s__e =>
  bif v_ == s__e then (
   some (.done (.inr x8)))
  else (
   some (.next (w64 (x8 + 1)))))
 else (
  some (.done (.inl ())))
def qw (s_ : List Int) (v_ : Int) : Option Int :=
 Option.bind (loop (fun s => uh s_ v_ s) 0) fun t2 =>
 match t2 with
 | .inl p => ui
 | .inr p => some p
def uj (s_ : List Int) (v_ : Int) : Option Bool :=
 Option.bind (qw s_ v_) fun r_ =>
 some (decide (r_ ≥ 0))
def u6 (s_ : za) : Option Bool :=
 some ((s_.queues_.e0.many_ == 0) && ((s_.queues_.e0.l_.e0 == 0) && ((s_.queues_.e0.l_.e1 == 0) && ((s_.queues_.e0.l_.e2 == 0) && ((s_.queues_.e0.l_.e3 == 0) && ((s_.queues_.e1.many_ == 0) && ((s_.queues_.e1.l_.e0 == 0) && ((s_.queues_.e1.l_.e1 == 0) && ((s_.queues_.e1.l_.e2 == 0) && ((s_.queues_.e1.l_.e3 == 0) && ((s_.queues_.e2.many_ == 0) && ((s_.queues_.e2.l_.e0 == 0) && ((s_.queues_.e2.l_.e1 == 0) && ((s_.queues_.e2.l_.e2 == 0) && ((s_.queues_.e2.l_.e3 == 0) && ((s_.queues_.e3.many_ == 0) && ((s_.queues_.e3.l_.e0 == 0) && ((s_.queues_.e3.l_.e1 == 0) && ((s_.queues_.e3.l_.e2 == 0) && ((s_.queues_.e3.l_.e3 == 0) && true))))))))))))))))))))
def u4 (x_ : z7) (s_ : za) (x10 : Int) : Option (LR Int (Unit ⊕ Bool)) :=
 bif decide (x10 < ((x_.Parts.length : Nat) : Int)) then (
  Option.bind (idx x_.Parts x10) fun Part_e =>
  Option.bind (idx (zC.toL s_.states_) x10) fun cell =>
  Option.bind (uj Part_e.Final cell) fun r_ =>
  bif !r_ then (
   some (.done (.inr false)))
  else (
   some (.next (w64 (x10 + 1)))))
 else (
  some (.done (.inl ())))
def qp (x_ : z7) (s_ : za) : Option Bool :=
 Option.bind (loop (fun s => u4 x_ s_ s) 0) fun t2 =>
 match t2 with
 | .inl p => u6 s_
 | .inr p => some p
def yP (s_1 : List zc) (i_ : Int) (j_ : Int) : Option (LR (List zc × Int × Int) (List zc)) :=
 bif decide (i_ < j_) then (
  Option.bind (idx s_1 j_) fun s__e =>
  Option.bind (idx s_1 i_) fun s__e1 =>
  Option.bind (idx s_1 i_) fun s__e2 =>
  Option.bind (idx (s_1.set i_.toNat s__e) j_) fun u_e =>
  some (.next (((s_1.set i_.toNat s__e).set j_.toNat s__e1), w64 (i_ + 1), w64 (j_ - 1))))
 else (
  some (.done s_1))
def yY (s_ : List zc) : Option (List zc) :=
 Option.bind (loop (fun s => yP s.1 s.2.1 s.2.2) (s_, 0, w64 (((s_.length : Nat) : Int) - 1))) fun t1 =>
 some t1
def qW : Option (List zc × z8 × Int) :=
 some (([] : List zc), (z8.mk [] []), 7)
def uc (x69 : Int) : Option (LR Int (Unit ⊕ (List zc × z8 × Int))) :=
 some (.next (w64 (x69 + 1)))
def qV (x_ : z7) (r_1 : List za × List (List z6) × Int) (x69 : Int) (run : List zc) : Option (LR Int (Unit ⊕ (List zc × z8 × Int))) :=
 Option.bind (yY run) fun r_3 =>
 Option.bind (y6 r_3) fun r_4 =>
 Option.bind (idx r_1.1 x69) fun u_2 =>
 Option.bind (x5 x_ u_2) fun r_5 =>
 some (.done (.inr (r_4, r_5, 0)))
def qR (by_ : List zt) (run1 : List zc) (n_ : Int) : Option (LR (List zc × Int) (List zc)) :=
 bif decide (n_ > 0) then (
  Option.bind (idx by_ n_) fun by__e =>
  gd (run1.length + ([by__e.move_] : List zc).length ≤ 4294967296) <|
  Option.bind (idx by_ n_) fun by__e1 =>
  some (.next ((run1 ++ ([by__e.move_] : List zc)), by__e1.from_)))
 else (
  some (.done run1))
def qS (x_ : z7) (r_1 : List za × List (List z6) × Int) (by_ : List zt) (x69 : Int) : Option (LR Int (Unit ⊕ (List zc × z8 × Int))) :=
 bif decide (x69 < ((r_1.2.1.length : Nat) : Int)) then (
  Option.bind (idx r_1.2.1 x69) fun u_ =>
  bif decide (((u_.length : Nat) : Int) > 0) then (
   uc x69)
  else (
   Option.bind (idx r_1.1 x69) fun u_1 =>
   Option.bind (qp x_ u_1) fun r_2 =>
   bif r_2 then (
    uc x69)
   else (
    Option.bind (loop (fun s => qR by_ s.1 s.2) (([] : List zc), x69)) fun t6 =>
    qV x_ r_1 x69 t6)))
 else (
  some (.done (.inl ())))
def qX (x_ : z7) (r_1 : List za × List (List z6) × Int) (by_ : List zt) : Option (List zc × z8 × Int) :=
 Option.bind (loop (fun s => qS x_ r_1 by_ s) 0) fun t3 =>
 match t3 with
 | .inl p => qW
 | .inr p => some p
def qU (x40 : Int) (by_2 : List zt) (seen1 : Int) : Option (LR (List zt × Int × Int) (List zt)) :=
 some (.next (by_2, seen1, w64 (x40 + 1)))
def vD (x47 : Int) (by_4 : List zt) (seen3 : Int) : Option (LR (List zt × Int × Int) ((List zt × Int))) :=
 some (.next (by_4, seen3, w64 (x47 + 1)))
def qP (x40 : Int) (u_3 : List z6) (by_3 : List zt) (seen2 : Int) (x47 : Int) : Option (LR (List zt × Int × Int) ((List zt × Int))) :=
 bif decide (x47 < ((u_3.length : Nat) : Int)) then (
  Option.bind (idx u_3 x47) fun u__e =>
  bif u__e.To == seen2 then (
   Option.bind (idx by_3 u__e.To) fun by__e2 =>
   vD x47 (by_3.set u__e.To.toNat (zt.mk x40 u__e.Move)) (w64 (seen2 + 1)))
  else (
   vD x47 by_3 seen2))
 else (
  some (.done (by_3, seen2)))
def qQ (r_1 : List za × List (List z6) × Int) (by_1 : List zt) (seen : Int) (x40 : Int) : Option (LR (List zt × Int × Int) (List zt)) :=
 bif decide (x40 < ((r_1.2.1.length : Nat) : Int)) then (
  Option.bind (idx r_1.2.1 x40) fun u_3 =>
  Option.bind (loop (fun s => qP x40 u_3 s.1 s.2.1 s.2.2) (by_1, seen, 0)) fun t9 =>
  qU x40 t9.1 t9.2)
 else (
  some (.done by_1))
def qI (x_ : z7) : Option (List zc × z8 × Int) :=
 Option.bind (ve x_) fun r_ =>
 bif r_ != 0 then (
  some (([] : List zc), (z8.mk [] []), r_))
 else (
  Option.bind (wC x_) fun r_1 =>
  bif r_1.2.2 != 0 then (
   some (([] : List zc), (z8.mk [] []), r_1.2.2))
  else (
   gd ((0 : Int) ≤ ((r_1.1.length : Nat) : Int) ∧ (((r_1.1.length : Nat) : Int) : Int) ≤ 4294967296) <|
   Option.bind (loop (fun s => qQ r_1 s.1 s.2.1 s.2.2) ((List.replicate ((r_1.1.length : Nat) : Int).toNat (zt.mk 0 (zc.mk 0 0 0 0))), 1, 0)) fun t7 =>
   qX x_ r_1 t7))
def ZN : Option Int :=
 some 1
def ZM (a_ : List zc) (b_ : List zc) (i_ : Int) : Option (LR Int (Unit ⊕ Int)) :=
 bif decide (i_ < ((a_.length : Nat) : Int)) then (
  Option.bind (idx a_ i_) fun a__e =>
  Option.bind (idx b_ i_) fun b__e =>
  bif !((a__e.Part == b__e.Part) && ((a__e.Arc == b__e.Arc) && ((a__e.Other == b__e.Other) && ((a__e.With == b__e.With) && true)))) then (
   some (.done (.inr 0)))
  else (
   some (.next (w64 (i_ + 1)))))
 else (
  some (.done (.inl ())))
def Wf (a_ : List zc) (b_ : List zc) : Option Int :=
 bif ((a_.length : Nat) : Int) != ((b_.length : Nat) : Int) then (
  some 0)
 else (
  bif ((a_.length : Nat) : Int) != ((a_.length : Nat) : Int) then (
   some 0)
  else (
   Option.bind (loop (fun s => ZM a_ b_ s) 0) fun t2 =>
   match t2 with
   | .inl p => ZN
   | .inr p => some p))
def Zb : Option Bool :=
 Option.bind (Y7 1 ([(ze.mk 0 2 0 0 0)])) fun r_ =>
 Option.bind (kE r_) fun r_1 =>
 Option.bind (vm 0 0 []) fun r_2 =>
 Option.bind (vm 1 0 ([0])) fun r_3 =>
 Option.bind (vm 0 0 ([0])) fun r_4 =>
 Option.bind (vm 1 0 []) fun r_5 =>
 Option.bind (uz 0 0) fun r_6 =>
 Option.bind (uz 0 1) fun r_7 =>
 Option.bind (uz 1 0) fun r_8 =>
 Option.bind (uz 1 0) fun r_9 =>
 Option.bind (uz 0 1) fun r_10 =>
 bif r_1.2.2 != 0 then (
  some false)
 else (
  Option.bind (Yt r_1.1 r_1.2.1 ([r_2, r_3, r_4, r_5]) ([[(z6.mk r_6 1)], [(z6.mk r_7 2), (z6.mk r_8 3)], [(z6.mk r_9 0)], [(z6.mk r_10 0)]])) fun r_11 =>
  bif r_11 == 0 then (
   some false)
  else (
   Option.bind (ju r_ []) fun r_12 =>
   Option.bind (ju r_ ([0])) fun r_13 =>
   bif r_12.2 != 0 then (
    some false)
   else (
    bif r_13.2 != 0 then (
     some false)
    else (
     Option.bind (kF r_12.1 (zF.mk 0 1 ([[(zg.mk 0 0 1)], [(zg.mk 0 0 3), (zg.mk 2 0 2)], [(zg.mk 0 0 0)], [(zg.mk 2 0 0)]]))) fun r_14 =>
     Option.bind (kF r_13.1 (zF.mk 0 1 ([[(zg.mk 0 0 1)], [(zg.mk 0 0 2), (zg.mk 0 0 3)], [(zg.mk 0 0 0)], [(zg.mk 0 0 0)]]))) fun r_15 =>
     bif (w64 (r_14 * r_15)) == 0 then (
      some false)
     else (
      Option.bind (qI r_) fun r_16 =>
      Option.bind (Y7 1 []) fun r_17 =>
      Option.bind (qI r_17) fun r_18 =>
      Option.bind (Y7 0 ([(ze.mk 0 2 0 0 0)])) fun r_19 =>
      Option.bind (kE r_19) fun r_20 =>
      bif r_16.2.2 != 7 then (
       some false)
      else (
       bif r_18.2.2 != 0 then (
        some false)
       else (
        Option.bind (uz 0 0) fun r_21 =>
        Option.bind (uz 0 1) fun r_22 =>
        Option.bind (Wf r_18.1 ([r_21, r_22])) fun r_23 =>
        bif r_23 == 0 then (
         some false)
        else (
         Option.bind (vm 0 0 ([0])) fun r_24 =>
         Option.bind (jT r_18.2.1 r_24) fun r_25 =>
         bif r_25 == 0 then (
          some false)
         else (
          bif r_20.2.2 != 0 then (
           some false)
          else (
           Option.bind (vm 0 0 []) fun r_26 =>
           Option.bind (vm 1 0 []) fun r_27 =>
           Option.bind (uz 0 1) fun r_28 =>
           Option.bind (Yt r_20.1 r_20.2.1 ([r_26, r_27]) ([[(z6.mk (zc.mk 0 0 1 0) 1)], [(z6.mk r_28 0)]])) fun r_29 =>
           some (r_29 == 1)))))))))))
def Yf (x6_States : List Int) (x6_Queues : List (List Int)) : Option (z8 × Int) :=
 some ((z8.mk [] []), 7)
def wj (x_ : z7) (m_ : zc) (x6_States1 : List Int) (x6_Queues1 : List (List Int)) (x22 : zc) (x23 : za) : Option (LR (List Int × List (List Int)) ((List Int × List (List Int)))) :=
 bif (x22.Part == m_.Part) && ((x22.Arc == m_.Arc) && ((x22.Other == m_.Other) && ((x22.With == m_.With) && true))) then (
  Option.bind (x5 x_ x23) fun r_3 =>
  some (.done (r_3.States, r_3.Queues)))
 else (
  some (.next (x6_States1, x6_Queues1)))
def uY (x_ : z7) (c_ : z8) (m_ : zc) : Option (z8 × Int) :=
 Option.bind (w8 x_ c_) fun r_ =>
 bif r_ != 0 then (
  some ((z8.mk [] []), r_))
 else (
  Option.bind (uX c_) fun r_1 =>
  Option.bind (xc x_ r_1) fun r_2 =>
  Option.bind (y4 r_2.1 r_2.2 (yOf (fun s x => wj x_ m_ s.1 s.2 x.1 x.2)) (.next (([] : List Int), ([] : List (List Int))))) fun t2 =>
  match t2 with
  | .next (x6_States1, x6_Queues1) => (
   Yf x6_States1 x6_Queues1)
  | .done (x6_States1, x6_Queues1) => (
   some ((z8.mk x6_States1 x6_Queues1), 0)))
def wE : Option Bool :=
 Option.bind (Zb) fun r_4 =>
 some r_4
def wD (which : List Int) (r_ : z7) (r_1 : z7) (Channel_e : Int) (Channel_e1 : Int) (a_States : List Int) (a_Queues : List (List Int)) (b_States : List Int) (b_Queues : List (List Int)) (i_ : Int) : Option (LR (List Int × List (List Int) × List Int × List (List Int) × Int) (Unit ⊕ Bool)) :=
 bif decide (i_ < ((which.length : Nat) : Int)) then (
  bif decide (i_ < 20) then (
   Option.bind (jv r_ (z8.mk a_States a_Queues)) fun r_5 =>
   bif r_5.2 != 0 then (
    some (.done (.inr false)))
   else (
    bif ((r_5.1.length : Nat) : Int) == 0 then (
     Option.bind (Zb) fun r_6 =>
     some (.done (.inr r_6)))
    else (
     Option.bind (idx which i_) fun which_e =>
     gd ((((r_5.1.length : Nat) : Int) : Int) ≠ 0) <|
     Option.bind (idx r_5.1 (Int.tmod (w64 (which_e)) ((r_5.1.length : Nat) : Int))) fun u_ =>
     Option.bind (uY r_ (z8.mk a_States a_Queues) u_) fun r_7 =>
     Option.bind (uY (z7.mk r_1.Messages r_1.Labels ([w64 (Channel_e + 1), w64 (Channel_e1 + 2)]) r_1.Parts) (z8.mk b_States b_Queues) u_) fun r_8 =>
     bif r_7.2 != 0 then (
      some (.done (.inr false)))
     else (
      bif r_8.2 != 0 then (
       some (.done (.inr false)))
      else (
       Option.bind (jT r_7.1 r_8.1) fun r_9 =>
       bif r_9 == 0 then (
        some (.done (.inr false)))
       else (
        some (.next (r_7.1.States, r_7.1.Queues, r_8.1.States, r_8.1.Queues, w64 (i_ + 1)))))))))
  else (
   some (.done (.inl ()))))
 else (
  some (.done (.inl ())))
def qh (x_ : y3) (which : List Int) : Option Bool :=
 gd ((2 : Int) ≠ 0) <|
 gd ((2 : Int) ≠ 0) <|
 Option.bind (kQ (y3.mk (z0Y.mk (IntKind.u8.wrap (1 + (Int.tmod x_.Channels.e0 2))) (IntKind.u8.wrap (1 + (Int.tmod x_.Channels.e1 2)))) x_.Parts)) fun r_ =>
 Option.bind (kQ (y3.mk (z0Y.mk (IntKind.u8.wrap (1 + (Int.tmod x_.Channels.e0 2))) (IntKind.u8.wrap (1 + (Int.tmod x_.Channels.e1 2)))) x_.Parts)) fun r_1 =>
 Option.bind (idx r_.Channels 0) fun Channel_e =>
 Option.bind (idx r_.Channels 1) fun Channel_e1 =>
 Option.bind (jU r_) fun r_2 =>
 Option.bind (jU (z7.mk r_1.Messages r_1.Labels ([w64 (Channel_e + 1), w64 (Channel_e1 + 2)]) r_1.Parts)) fun r_3 =>
 Option.bind (loop (fun s => wD which r_ r_1 Channel_e Channel_e1 s.1 s.2.1 s.2.2.1 s.2.2.2.1 s.2.2.2.2) (r_2.States, r_2.Queues, r_3.States, r_3.Queues, 0)) fun t2 =>
 match t2 with
 | .inl p => wE
 | .inr p => some p
abbrev F0_ := Xo (eI .i64)
abbrev F1_ := eSl 1 true (eI .i64)
abbrev F2_ := eSl 1 false (eI .i64)
abbrev F3_ := eOs 1 false (eI .i64)
abbrev F4_ := eSl 5 false (YV (eI .u8))
abbrev F5_ := eSl 1 true F1_
abbrev F6_ := eSl 1 true F2_
abbrev F7_ := eSl 1 false F2_
abbrev F8_ := wy (eI .u8) (eI .i64) (eI .i64)
abbrev F9_ := yj (eI .i64) F0_
abbrev z2d := Xo F9_
abbrev V4 := eSl 3 true F8_
abbrev xK := x7 (eI .i64) (eI .i64) (eI .i64) (eI .i64)
abbrev Y3 := eSl 3 false F8_
abbrev WF := uu (eI .u8) (eI .u8) F4_
abbrev uV := xu (eI .i64) (eI .u8) (eI .i64) (eI .i64) (eI .i64)
abbrev z3T := eSl 4 true xK
abbrev zaz := eSl 1 true Y3
abbrev z7R := eSl 4 false xK
abbrev zdj := eSl 1 false Y3
abbrev zef := eSl 3 false WF
abbrev Uz := zH F1_ F5_
abbrev z1H := eSl 5 true uV
abbrev z7E := eSl 5 false uV
abbrev zee := eOs 5 false uV
abbrev z5Z := zH F1_ F6_
abbrev kg := zH F2_ F7_
abbrev jZ := x6 xK (eI .i64)
abbrev VZ := Uf (eI .i64) xK
abbrev yG := yH F0_ z2d
abbrev zay := eSl 2 true z5Z
abbrev z3L := eSl 2 true kg
abbrev z7Q := eSl 2 false kg
abbrev wr := eSl 5 true jZ
abbrev Xx := eSl 5 false jZ
abbrev UI := kc (QO (eI .u8)) zef
abbrev z2c := wN (eI .i64) (eI .i64) zdj
abbrev z0X := eSl 1 true wr
abbrev zao := eSl 1 false Xx
abbrev z7P := yI (eI .i64) z1H F1_
abbrev wG := yI (eI .i64) z7E F2_
abbrev Uy := yI (eI .i64) zee F3_
abbrev z5Y := eSp wG
abbrev zed := eSl 3 true z7P
abbrev z5X := eSl 3 false wG
abbrev z5W := xU (eI .i64) (eI .i64) F1_ zed
abbrev z5V := xU (eI .i64) (eI .i64) F1_ z5X
abbrev xR := xU (eI .i64) (eI .i64) F2_ z5X
abbrev Ke := eSp xR
def rpN {α : Type _} (n : Nat) (a : α) (l : List α) : List α := Nat.rec l (fun _ r => a :: r) n
end Go.Own

namespace Go.Proofs
open Go.Shelf
def Tryz.so48_ren : Go.Shelf.Ren := ⟨fun | 6 => 48 | 15 => 79 | 14 => 78 | 28 => 101 | 29 => 102 | 20 => 93 | 21 => 94 | 22 => 95 | 23 => 96 | 24 => 97 | 25 => 98 | 26 => 99 | 27 => 100 | 46 => 108 | 47 => 109 | 48 => 110 | 49 => 111 | 50 => 112 | 57 => 113 | n => n, fun | 22 => 59 | 24 => 61 | 25 => 126 | 3 => 3 | 39 => 50 | 0 => 0 | 53 => 171 | 55 => 173 | 4 => 4 | 46 => 165 | 45 => 164 | 50 => 120 | 5 => 5 | 9 => 9 | 66 => 181 | 70 => 185 | 76 => 198 | 77 => 199 | n => n, fun | n => n⟩
theorem Tryz.so48 : Go.Proofs.SlLaysF0.n6 Tryz.prog Tryz.so48_ren := {
 mixed := by kernel_rfl
 f6 := ⟨Tryz.f48.name, by decide, Tryz.func48.trans (congrArg some (by kernel_rfl))⟩
 f14 := ⟨Tryz.f78.name, by decide, Tryz.func78.trans (congrArg some (by kernel_rfl))⟩
 f15 := Tryz.func79.trans (congrArg some (by kernel_rfl))
 f20 := ⟨Tryz.f93.name, by decide, Tryz.func93.trans (congrArg some (by kernel_rfl))⟩
 f21 := ⟨Tryz.f94.name, by decide, Tryz.func94.trans (congrArg some (by kernel_rfl))⟩
 f22 := ⟨Tryz.f95.name, by decide, Tryz.func95.trans (congrArg some (by kernel_rfl))⟩
 f23 := ⟨Tryz.f96.name, by decide, Tryz.func96.trans (congrArg some (by kernel_rfl))⟩
 f24 := ⟨Tryz.f97.name, by decide, Tryz.func97.trans (congrArg some (by kernel_rfl))⟩
 f25 := ⟨Tryz.f98.name, by decide, Tryz.func98.trans (congrArg some (by kernel_rfl))⟩
 f26 := ⟨Tryz.f99.name, by decide, Tryz.func99.trans (congrArg some (by kernel_rfl))⟩
 f27 := ⟨Tryz.f100.name, by decide, Tryz.func100.trans (congrArg some (by kernel_rfl))⟩
 f28 := Tryz.func101.trans (congrArg some (by kernel_rfl))
 f29 := Tryz.func102.trans (congrArg some (by kernel_rfl))
 f46 := ⟨Tryz.f108.name, by decide, Tryz.func108.trans (congrArg some (by kernel_rfl))⟩
 f47 := Tryz.func109.trans (congrArg some (by kernel_rfl))
 f48 := Tryz.func110.trans (congrArg some (by kernel_rfl))
 f49 := ⟨Tryz.f111.name, by decide, Tryz.func111.trans (congrArg some (by kernel_rfl))⟩
 f50 := ⟨Tryz.f112.name, by decide, Tryz.func112.trans (congrArg some (by kernel_rfl))⟩
 f57 := ⟨Tryz.f113.name, by decide, Tryz.func113.trans (congrArg some (by kernel_rfl))⟩
 t0 := Tryz.underlying0
 a0 := Tryz.isAgg0
 z0 := Tryz.sizeOf0
 v0 := Tryz.zeroValue0
 t3 := Tryz.underlying3
 a3 := Tryz.isAgg3
 z3 := Tryz.sizeOf3
 v3 := Tryz.zeroValue3
 t4 := Tryz.underlying4
 a4 := Tryz.isAgg4
 z4 := Tryz.sizeOf4
 v4 := Tryz.zeroValue4
 t5 := Tryz.underlying5
 a5 := Tryz.isAgg5
 z5 := Tryz.sizeOf5
 v5 := Tryz.zeroValue5
 t9 := Tryz.underlying9
 a9 := Tryz.isAgg9
 z9 := Tryz.sizeOf9
 v9 := Tryz.zeroValue9
 t22 := Tryz.underlying59
 a22 := Tryz.isAgg59
 z22 := Tryz.sizeOf59
 v22 := Tryz.zeroValue59
 t25 := Tryz.underlying126
 a25 := Tryz.isAgg126
 z25 := Tryz.sizeOf126
 v25 := Tryz.zeroValue126
 t39 := Tryz.underlying50
 a39 := Tryz.isAgg50
 z39 := Tryz.sizeOf50
 v39 := Tryz.zeroValue50
 t45 := Tryz.underlying164
 a45 := Tryz.isAgg164
 z45 := Tryz.sizeOf164
 v45 := Tryz.zeroValue164
 t46 := Tryz.underlying165
 a46 := Tryz.isAgg165
 z46 := Tryz.sizeOf165
 v46 := Tryz.zeroValue165
 t50 := Tryz.underlying120
 a50 := Tryz.isAgg120
 z50 := Tryz.sizeOf120
 v50 := Tryz.zeroValue120
 t53 := Tryz.underlying171
 a53 := Tryz.isAgg171
 z53 := Tryz.sizeOf171
 v53 := Tryz.zeroValue171
 t55 := Tryz.underlying173
 a55 := Tryz.isAgg173
 z55 := Tryz.sizeOf173
 v55 := Tryz.zeroValue173
 t66 := Tryz.underlying181
 a66 := Tryz.isAgg181
 z66 := Tryz.sizeOf181
 v66 := Tryz.zeroValue181
 t70 := Tryz.underlying185
 a70 := Tryz.isAgg185
 z70 := Tryz.sizeOf185
 v70 := Tryz.zeroValue185
 t76 := Tryz.underlying198
 a76 := Tryz.isAgg198
 z76 := Tryz.sizeOf198
 v76 := Tryz.zeroValue198
 t77 := Tryz.underlying199
 a77 := Tryz.isAgg199
 z77 := Tryz.sizeOf199
 v77 := Tryz.zeroValue199 }
end Go.Proofs
