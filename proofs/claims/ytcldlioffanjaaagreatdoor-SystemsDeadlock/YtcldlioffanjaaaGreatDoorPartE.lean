/- -/
import Derived.Test.YtcldlioffanjaaaGreatDoorPartB
import Derived.Test.YtcldlioffanjaaaGreatDoorProg
import Derived.Test.YtcldlioffanjaaaGreatDoorChecked
import Derived.Test.YtcldlioffanjaaaGreatDoorPartD
import Derived.LaidEql
import Derived.Stop.Asserts
import Derived.RowKitTokens
import Derived.Test.YtcldlioffanjaaaGreatDoorPartC
import Derived.Shelf.SlSortCmp.NoneTotal
import Derived.Ground.SlsfProg
set_option linter.unusedVariables false
set_option linter.unusedSimpArgs false
namespace Go.Ex
open Go.Proofs
theorem q5 : EqP Tryz.prog 5 [.int .u8 0] false 1 := z34 (k := .int .u8) Tryz.underlying5 ⟨_, (by kernel_rfl : Tryz.prog.info? 5 = some Tryz.t5), rfl⟩ rfl
theorem q22 : EqP Tryz.prog 22 (z3E 2 [.int .u8 0]) true 2 := Vl Tryz.underlying22 q5 ⟨_, (by kernel_rfl : Tryz.prog.info? 22 = some Tryz.t22), rfl⟩
def i22 : EI := ⟨.array 2 5, 2, 2, some [.int .u8 0, .int .u8 0], true⟩
theorem zaL : z0t Tryz.prog 22 i22 := ⟨⟨Tryz.t22, by kernel_rfl, rfl, rfl, fun z h => by cases h; exact ⟨_, rfl, rfl, jW rfl, rfl, ⟨_, rfl⟩⟩⟩, Tryz.underlying22, fun _ => uP q22 rfl rfl (Nat.le_of_ble_eq_true (by kernel_rfl)) (by decide)⟩
theorem q3 : EqP Tryz.prog 3 [.int .i64 0] false 1 := z34 (k := .int .i64) Tryz.underlying3 ⟨_, (by kernel_rfl : Tryz.prog.info? 3 = some Tryz.t3), rfl⟩ rfl
theorem q60 : EqP Tryz.prog 60 (jU [([.int .u8 0], false), ([.int .i64 0], false), ([.int .i64 0], false)]) true 2 := wE Tryz.underlying60 (by kernel_rfl) ⟨_, (by kernel_rfl : Tryz.prog.info? 60 = some Tryz.t60), rfl⟩ (by decide) (zD.cons (by decide) rfl (q5.mono (by decide)) (zD.cons (by decide) rfl (q3.mono (by decide)) (zD.cons (by decide) rfl (q3.mono (by decide)) (zD.nil))))
def i60 : EI := ⟨.struct [(0, 5), (1, 3), (2, 3)], 3, 24, some [.int .u8 0, .int .i64 0, .int .i64 0], true⟩
theorem zf9 : z0t Tryz.prog 60 i60 := ⟨⟨Tryz.t60, by kernel_rfl, rfl, rfl, fun z h => by cases h; exact ⟨_, rfl, rfl, jW rfl, rfl, ⟨_, rfl⟩⟩⟩, ⟨_, Tryz.underlying60, by kernel_rfl, by
  intro f hf
  simp only [List.mem_cons, List.not_mem_nil, or_false] at hf
  rcases hf with rfl | rfl | rfl
  ·exact ⟨Tryz.t5, by kernel_rfl⟩
  ·exact ⟨Tryz.t3, by kernel_rfl⟩
  ·exact ⟨Tryz.t3, by kernel_rfl⟩⟩, fun _ => uP q60 rfl rfl (Nat.le_of_ble_eq_true (by kernel_rfl)) (by decide)⟩
theorem q61 : EqP Tryz.prog 61 (jU [([.int .u8 0], false), ([.int .i64 0], false), ([.int .i64 0], false)]) true 2 := wE Tryz.underlying61 (by kernel_rfl) ⟨_, (by kernel_rfl : Tryz.prog.info? 61 = some Tryz.t61), rfl⟩ (by decide) (zD.cons (by decide) rfl (q5.mono (by decide)) (zD.cons (by decide) rfl (q3.mono (by decide)) (zD.cons (by decide) rfl (q3.mono (by decide)) (zD.nil))))
def i61 : EI := ⟨.struct [(0, 5), (1, 3), (2, 3)], 3, 24, some [.int .u8 0, .int .i64 0, .int .i64 0], true⟩
theorem zaK : z0t Tryz.prog 61 i61 := ⟨⟨Tryz.t61, by kernel_rfl, rfl, rfl, fun z h => by cases h; exact ⟨_, rfl, rfl, jW rfl, rfl, ⟨_, rfl⟩⟩⟩, ⟨_, Tryz.underlying61, by kernel_rfl, by
  intro f hf
  simp only [List.mem_cons, List.not_mem_nil, or_false] at hf
  rcases hf with rfl | rfl | rfl
  ·exact ⟨Tryz.t5, by kernel_rfl⟩
  ·exact ⟨Tryz.t3, by kernel_rfl⟩
  ·exact ⟨Tryz.t3, by kernel_rfl⟩⟩, fun _ => uP q61 rfl rfl (Nat.le_of_ble_eq_true (by kernel_rfl)) (by decide)⟩
theorem q64 : EqP Tryz.prog 64 (jU [([.int .i64 0], false), ([.int .i64 0], false), ([.int .i64 0], false), ([.int .i64 0], false)]) true 2 := wE Tryz.underlying64 (by kernel_rfl) ⟨_, (by kernel_rfl : Tryz.prog.info? 64 = some Tryz.t64), rfl⟩ (by decide) (zD.cons (by decide) rfl (q3.mono (by decide)) (zD.cons (by decide) rfl (q3.mono (by decide)) (zD.cons (by decide) rfl (q3.mono (by decide)) (zD.cons (by decide) rfl (q3.mono (by decide)) (zD.nil)))))
def i64 : EI := ⟨.struct [(0, 3), (1, 3), (2, 3), (3, 3)], 4, 32, some [.int .i64 0, .int .i64 0, .int .i64 0, .int .i64 0], true⟩
theorem zf8 : z0t Tryz.prog 64 i64 := ⟨⟨Tryz.t64, by kernel_rfl, rfl, rfl, fun z h => by cases h; exact ⟨_, rfl, rfl, jW rfl, rfl, ⟨_, rfl⟩⟩⟩, ⟨_, Tryz.underlying64, by kernel_rfl, by
  intro f hf
  simp only [List.mem_cons, List.not_mem_nil, or_false] at hf
  rcases hf with rfl | rfl | rfl | rfl
  ·exact ⟨Tryz.t3, by kernel_rfl⟩
  ·exact ⟨Tryz.t3, by kernel_rfl⟩
  ·exact ⟨Tryz.t3, by kernel_rfl⟩
  ·exact ⟨Tryz.t3, by kernel_rfl⟩⟩, fun _ => uP q64 rfl rfl (Nat.le_of_ble_eq_true (by kernel_rfl)) (by decide)⟩
theorem q65 : EqP Tryz.prog 65 (jU [([.int .i64 0], false), ([.int .i64 0], false), ([.int .i64 0], false), ([.int .i64 0], false)]) true 2 := wE Tryz.underlying65 (by kernel_rfl) ⟨_, (by kernel_rfl : Tryz.prog.info? 65 = some Tryz.t65), rfl⟩ (by decide) (zD.cons (by decide) rfl (q3.mono (by decide)) (zD.cons (by decide) rfl (q3.mono (by decide)) (zD.cons (by decide) rfl (q3.mono (by decide)) (zD.cons (by decide) rfl (q3.mono (by decide)) (zD.nil)))))
def i65 : EI := ⟨.struct [(0, 3), (1, 3), (2, 3), (3, 3)], 4, 32, some [.int .i64 0, .int .i64 0, .int .i64 0, .int .i64 0], true⟩
theorem zaJ : z0t Tryz.prog 65 i65 := ⟨⟨Tryz.t65, by kernel_rfl, rfl, rfl, fun z h => by cases h; exact ⟨_, rfl, rfl, jW rfl, rfl, ⟨_, rfl⟩⟩⟩, ⟨_, Tryz.underlying65, by kernel_rfl, by
  intro f hf
  simp only [List.mem_cons, List.not_mem_nil, or_false] at hf
  rcases hf with rfl | rfl | rfl | rfl
  ·exact ⟨Tryz.t3, by kernel_rfl⟩
  ·exact ⟨Tryz.t3, by kernel_rfl⟩
  ·exact ⟨Tryz.t3, by kernel_rfl⟩
  ·exact ⟨Tryz.t3, by kernel_rfl⟩⟩, fun _ => uP q65 rfl rfl (Nat.le_of_ble_eq_true (by kernel_rfl)) (by decide)⟩
theorem q96 : EqP Tryz.prog 96 (z3E 5 [.int .u8 0]) true 2 := Vl Tryz.underlying96 q5 ⟨_, (by kernel_rfl : Tryz.prog.info? 96 = some Tryz.t96), rfl⟩
def i96 : EI := ⟨.array 5 5, 5, 5, some [.int .u8 0, .int .u8 0, .int .u8 0, .int .u8 0, .int .u8 0], true⟩
theorem zaI : z0t Tryz.prog 96 i96 := ⟨⟨Tryz.t96, by kernel_rfl, rfl, rfl, fun z h => by cases h; exact ⟨_, rfl, rfl, jW rfl, rfl, ⟨_, rfl⟩⟩⟩, Tryz.underlying96, fun _ => uP q96 rfl rfl (Nat.le_of_ble_eq_true (by kernel_rfl)) (by decide)⟩
theorem q97 : EqP Tryz.prog 97 (jU [([.int .i64 0], false), ([.int .u8 0], false), ([.int .i64 0], false), ([.int .i64 0], false), ([.int .i64 0], false)]) true 2 := wE Tryz.underlying97 (by kernel_rfl) ⟨_, (by kernel_rfl : Tryz.prog.info? 97 = some Tryz.t97), rfl⟩ (by decide) (zD.cons (by decide) rfl (q3.mono (by decide)) (zD.cons (by decide) rfl (q5.mono (by decide)) (zD.cons (by decide) rfl (q3.mono (by decide)) (zD.cons (by decide) rfl (q3.mono (by decide)) (zD.cons (by decide) rfl (q3.mono (by decide)) (zD.nil))))))
def i97 : EI := ⟨.struct [(0, 3), (1, 5), (2, 3), (3, 3), (4, 3)], 5, 40, some [.int .i64 0, .int .u8 0, .int .i64 0, .int .i64 0, .int .i64 0], true⟩
theorem zf7 : z0t Tryz.prog 97 i97 := ⟨⟨Tryz.t97, by kernel_rfl, rfl, rfl, fun z h => by cases h; exact ⟨_, rfl, rfl, jW rfl, rfl, ⟨_, rfl⟩⟩⟩, ⟨_, Tryz.underlying97, by kernel_rfl, by
  intro f hf
  simp only [List.mem_cons, List.not_mem_nil, or_false] at hf
  rcases hf with rfl | rfl | rfl | rfl | rfl
  ·exact ⟨Tryz.t3, by kernel_rfl⟩
  ·exact ⟨Tryz.t5, by kernel_rfl⟩
  ·exact ⟨Tryz.t3, by kernel_rfl⟩
  ·exact ⟨Tryz.t3, by kernel_rfl⟩
  ·exact ⟨Tryz.t3, by kernel_rfl⟩⟩, fun _ => uP q97 rfl rfl (Nat.le_of_ble_eq_true (by kernel_rfl)) (by decide)⟩
theorem q98 : EqP Tryz.prog 98 (jU [([.int .i64 0], false), ([.int .u8 0], false), ([.int .i64 0], false), ([.int .i64 0], false), ([.int .i64 0], false)]) true 2 := wE Tryz.underlying98 (by kernel_rfl) ⟨_, (by kernel_rfl : Tryz.prog.info? 98 = some Tryz.t98), rfl⟩ (by decide) (zD.cons (by decide) rfl (q3.mono (by decide)) (zD.cons (by decide) rfl (q5.mono (by decide)) (zD.cons (by decide) rfl (q3.mono (by decide)) (zD.cons (by decide) rfl (q3.mono (by decide)) (zD.cons (by decide) rfl (q3.mono (by decide)) (zD.nil))))))
def i98 : EI := ⟨.struct [(0, 3), (1, 5), (2, 3), (3, 3), (4, 3)], 5, 40, some [.int .i64 0, .int .u8 0, .int .i64 0, .int .i64 0, .int .i64 0], true⟩
theorem zaH : z0t Tryz.prog 98 i98 := ⟨⟨Tryz.t98, by kernel_rfl, rfl, rfl, fun z h => by cases h; exact ⟨_, rfl, rfl, jW rfl, rfl, ⟨_, rfl⟩⟩⟩, ⟨_, Tryz.underlying98, by kernel_rfl, by
  intro f hf
  simp only [List.mem_cons, List.not_mem_nil, or_false] at hf
  rcases hf with rfl | rfl | rfl | rfl | rfl
  ·exact ⟨Tryz.t3, by kernel_rfl⟩
  ·exact ⟨Tryz.t5, by kernel_rfl⟩
  ·exact ⟨Tryz.t3, by kernel_rfl⟩
  ·exact ⟨Tryz.t3, by kernel_rfl⟩
  ·exact ⟨Tryz.t3, by kernel_rfl⟩⟩, fun _ => uP q98 rfl rfl (Nat.le_of_ble_eq_true (by kernel_rfl)) (by decide)⟩
theorem q99 : EqP Tryz.prog 99 (jU [([.int .i64 0, .int .i64 0, .int .i64 0, .int .i64 0], true), ([.int .i64 0], false)]) true 3 := wE Tryz.underlying99 (by kernel_rfl) ⟨_, (by kernel_rfl : Tryz.prog.info? 99 = some Tryz.t99), rfl⟩ (by decide) (zD.cons (by decide) rfl (q65.mono (by decide)) (zD.cons (by decide) rfl (q3.mono (by decide)) (zD.nil)))
def i99 : EI := ⟨.struct [(0, 65), (4, 3)], 5, 40, some [.int .i64 0, .int .i64 0, .int .i64 0, .int .i64 0, .int .i64 0], true⟩
theorem zf6 : z0t Tryz.prog 99 i99 := ⟨⟨Tryz.t99, by kernel_rfl, rfl, rfl, fun z h => by cases h; exact ⟨_, rfl, rfl, jW rfl, rfl, ⟨_, rfl⟩⟩⟩, ⟨_, Tryz.underlying99, by kernel_rfl, by
  intro f hf
  simp only [List.mem_cons, List.not_mem_nil, or_false] at hf
  rcases hf with rfl | rfl
  ·exact ⟨Tryz.t65, by kernel_rfl⟩
  ·exact ⟨Tryz.t3, by kernel_rfl⟩⟩, fun _ => uP q99 rfl rfl (Nat.le_of_ble_eq_true (by kernel_rfl)) (by decide)⟩
theorem zfV : EqP Tryz.prog 100 (jU [([.int .i64 0, .int .i64 0, .int .i64 0, .int .i64 0], true), ([.int .i64 0], false)]) true 3 := wE Tryz.underlying100 (by kernel_rfl) ⟨_, (by kernel_rfl : Tryz.prog.info? 100 = some Tryz.t100), rfl⟩ (by decide) (zD.cons (by decide) rfl (q65.mono (by decide)) (zD.cons (by decide) rfl (q3.mono (by decide)) (zD.nil)))
def zg7 : EI := ⟨.struct [(0, 65), (4, 3)], 5, 40, some [.int .i64 0, .int .i64 0, .int .i64 0, .int .i64 0, .int .i64 0], true⟩
theorem z99 : z0t Tryz.prog 100 zg7 := ⟨⟨Tryz.t100, by kernel_rfl, rfl, rfl, fun z h => by cases h; exact ⟨_, rfl, rfl, jW rfl, rfl, ⟨_, rfl⟩⟩⟩, ⟨_, Tryz.underlying100, by kernel_rfl, by
  intro f hf
  simp only [List.mem_cons, List.not_mem_nil, or_false] at hf
  rcases hf with rfl | rfl
  ·exact ⟨Tryz.t65, by kernel_rfl⟩
  ·exact ⟨Tryz.t3, by kernel_rfl⟩⟩, fun _ => uP zfV rfl rfl (Nat.le_of_ble_eq_true (by kernel_rfl)) (by decide)⟩
theorem zfU : EqP Tryz.prog 107 (jU [([.int .i64 0], false), ([.int .i64 0, .int .i64 0, .int .i64 0, .int .i64 0], true)]) true 3 := wE Tryz.underlying107 (by kernel_rfl) ⟨_, (by kernel_rfl : Tryz.prog.info? 107 = some Tryz.t107), rfl⟩ (by decide) (zD.cons (by decide) rfl (q3.mono (by decide)) (zD.cons (by decide) rfl (q65.mono (by decide)) (zD.nil)))
def zg6 : EI := ⟨.struct [(0, 3), (1, 65)], 5, 40, some [.int .i64 0, .int .i64 0, .int .i64 0, .int .i64 0, .int .i64 0], true⟩
theorem zdf : z0t Tryz.prog 107 zg6 := ⟨⟨Tryz.t107, by kernel_rfl, rfl, rfl, fun z h => by cases h; exact ⟨_, rfl, rfl, jW rfl, rfl, ⟨_, rfl⟩⟩⟩, ⟨_, Tryz.underlying107, by kernel_rfl, by
  intro f hf
  simp only [List.mem_cons, List.not_mem_nil, or_false] at hf
  rcases hf with rfl | rfl
  ·exact ⟨Tryz.t3, by kernel_rfl⟩
  ·exact ⟨Tryz.t65, by kernel_rfl⟩⟩, fun _ => uP zfU rfl rfl (Nat.le_of_ble_eq_true (by kernel_rfl)) (by decide)⟩
theorem zfT : EqP Tryz.prog 108 (jU [([.int .i64 0], false), ([.int .i64 0, .int .i64 0, .int .i64 0, .int .i64 0], true)]) true 3 := wE Tryz.underlying108 (by kernel_rfl) ⟨_, (by kernel_rfl : Tryz.prog.info? 108 = some Tryz.t108), rfl⟩ (by decide) (zD.cons (by decide) rfl (q3.mono (by decide)) (zD.cons (by decide) rfl (q65.mono (by decide)) (zD.nil)))
def zg5 : EI := ⟨.struct [(0, 3), (1, 65)], 5, 40, some [.int .i64 0, .int .i64 0, .int .i64 0, .int .i64 0, .int .i64 0], true⟩
theorem z98 : z0t Tryz.prog 108 zg5 := ⟨⟨Tryz.t108, by kernel_rfl, rfl, rfl, fun z h => by cases h; exact ⟨_, rfl, rfl, jW rfl, rfl, ⟨_, rfl⟩⟩⟩, ⟨_, Tryz.underlying108, by kernel_rfl, by
  intro f hf
  simp only [List.mem_cons, List.not_mem_nil, or_false] at hf
  rcases hf with rfl | rfl
  ·exact ⟨Tryz.t3, by kernel_rfl⟩
  ·exact ⟨Tryz.t65, by kernel_rfl⟩⟩, fun _ => uP zfT rfl rfl (Nat.le_of_ble_eq_true (by kernel_rfl)) (by decide)⟩
theorem zam : EqP Tryz.prog 110 (z3E 4 [.int .i64 0]) true 2 := Vl Tryz.underlying110 q3 ⟨_, (by kernel_rfl : Tryz.prog.info? 110 = some Tryz.t110), rfl⟩
def zg4 : EI := ⟨.array 4 3, 4, 32, some [.int .i64 0, .int .i64 0, .int .i64 0, .int .i64 0], true⟩
theorem z97 : z0t Tryz.prog 110 zg4 := ⟨⟨Tryz.t110, by kernel_rfl, rfl, rfl, fun z h => by cases h; exact ⟨_, rfl, rfl, jW rfl, rfl, ⟨_, rfl⟩⟩⟩, Tryz.underlying110, fun _ => uP zam rfl rfl (Nat.le_of_ble_eq_true (by kernel_rfl)) (by decide)⟩
theorem zfS : EqP Tryz.prog 111 (jU [([.int .i64 0], false), ([.int .i64 0, .int .i64 0, .int .i64 0, .int .i64 0], true)]) true 3 := wE Tryz.underlying111 (by kernel_rfl) ⟨_, (by kernel_rfl : Tryz.prog.info? 111 = some Tryz.t111), rfl⟩ (by decide) (zD.cons (by decide) rfl (q3.mono (by decide)) (zD.cons (by decide) rfl (zam.mono (by decide)) (zD.nil)))
def zg3 : EI := ⟨.struct [(0, 3), (1, 110)], 5, 40, some [.int .i64 0, .int .i64 0, .int .i64 0, .int .i64 0, .int .i64 0], true⟩
theorem zde : z0t Tryz.prog 111 zg3 := ⟨⟨Tryz.t111, by kernel_rfl, rfl, rfl, fun z h => by cases h; exact ⟨_, rfl, rfl, jW rfl, rfl, ⟨_, rfl⟩⟩⟩, ⟨_, Tryz.underlying111, by kernel_rfl, by
  intro f hf
  simp only [List.mem_cons, List.not_mem_nil, or_false] at hf
  rcases hf with rfl | rfl
  ·exact ⟨Tryz.t3, by kernel_rfl⟩
  ·exact ⟨Tryz.t110, by kernel_rfl⟩⟩, fun _ => uP zfS rfl rfl (Nat.le_of_ble_eq_true (by kernel_rfl)) (by decide)⟩
theorem zeN : EqP Tryz.prog 112 (jU [([.int .i64 0], false), ([.int .i64 0, .int .i64 0, .int .i64 0, .int .i64 0], true)]) true 3 := wE Tryz.underlying112 (by kernel_rfl) ⟨_, (by kernel_rfl : Tryz.prog.info? 112 = some Tryz.t112), rfl⟩ (by decide) (zD.cons (by decide) rfl (q3.mono (by decide)) (zD.cons (by decide) rfl (zam.mono (by decide)) (zD.nil)))
def zg2 : EI := ⟨.struct [(0, 3), (1, 110)], 5, 40, some [.int .i64 0, .int .i64 0, .int .i64 0, .int .i64 0, .int .i64 0], true⟩
theorem z96 : z0t Tryz.prog 112 zg2 := ⟨⟨Tryz.t112, by kernel_rfl, rfl, rfl, fun z h => by cases h; exact ⟨_, rfl, rfl, jW rfl, rfl, ⟨_, rfl⟩⟩⟩, ⟨_, Tryz.underlying112, by kernel_rfl, by
  intro f hf
  simp only [List.mem_cons, List.not_mem_nil, or_false] at hf
  rcases hf with rfl | rfl
  ·exact ⟨Tryz.t3, by kernel_rfl⟩
  ·exact ⟨Tryz.t110, by kernel_rfl⟩⟩, fun _ => uP zeN rfl rfl (Nat.le_of_ble_eq_true (by kernel_rfl)) (by decide)⟩
theorem zcU : EqP Tryz.prog 113 (z3E 4 [.int .i64 0, .int .i64 0, .int .i64 0, .int .i64 0, .int .i64 0]) true 4 := Vl Tryz.underlying113 zeN ⟨_, (by kernel_rfl : Tryz.prog.info? 113 = some Tryz.t113), rfl⟩
def zg1 : EI := ⟨.array 4 112, 20, 160, some [.int .i64 0, .int .i64 0, .int .i64 0, .int .i64 0, .int .i64 0, .int .i64 0, .int .i64 0, .int .i64 0, .int .i64 0, .int .i64 0, .int .i64 0, .int .i64 0, .int .i64 0, .int .i64 0, .int .i64 0, .int .i64 0, .int .i64 0, .int .i64 0, .int .i64 0, .int .i64 0], true⟩
theorem z95 : z0t Tryz.prog 113 zg1 := ⟨⟨Tryz.t113, by kernel_rfl, rfl, rfl, fun z h => by cases h; exact ⟨_, rfl, rfl, jW rfl, rfl, ⟨_, rfl⟩⟩⟩, Tryz.underlying113, fun _ => uP zcU rfl rfl (Nat.le_of_ble_eq_true (by kernel_rfl)) (by decide)⟩
theorem zfR : EqP Tryz.prog 114 (jU [([.int .i64 0, .int .i64 0, .int .i64 0, .int .i64 0], true), ([.int .i64 0, .int .i64 0, .int .i64 0, .int .i64 0, .int .i64 0, .int .i64 0, .int .i64 0, .int .i64 0, .int .i64 0, .int .i64 0, .int .i64 0, .int .i64 0, .int .i64 0, .int .i64 0, .int .i64 0, .int .i64 0, .int .i64 0, .int .i64 0, .int .i64 0, .int .i64 0], true)]) true 5 := wE Tryz.underlying114 (by kernel_rfl) ⟨_, (by kernel_rfl : Tryz.prog.info? 114 = some Tryz.t114), rfl⟩ (by decide) (zD.cons (by decide) rfl (zam.mono (by decide)) (zD.cons (by decide) rfl (zcU.mono (by decide)) (zD.nil)))
def zg0 : EI := ⟨.struct [(0, 110), (4, 113)], 24, 192, some [.int .i64 0, .int .i64 0, .int .i64 0, .int .i64 0, .int .i64 0, .int .i64 0, .int .i64 0, .int .i64 0, .int .i64 0, .int .i64 0, .int .i64 0, .int .i64 0, .int .i64 0, .int .i64 0, .int .i64 0, .int .i64 0, .int .i64 0, .int .i64 0, .int .i64 0, .int .i64 0, .int .i64 0, .int .i64 0, .int .i64 0, .int .i64 0], true⟩
theorem zdd : z0t Tryz.prog 114 zg0 := ⟨⟨Tryz.t114, by kernel_rfl, rfl, rfl, fun z h => by cases h; exact ⟨_, rfl, rfl, jW rfl, rfl, ⟨_, rfl⟩⟩⟩, ⟨_, Tryz.underlying114, by kernel_rfl, by
  intro f hf
  simp only [List.mem_cons, List.not_mem_nil, or_false] at hf
  rcases hf with rfl | rfl
  ·exact ⟨Tryz.t110, by kernel_rfl⟩
  ·exact ⟨Tryz.t113, by kernel_rfl⟩⟩, fun _ => uP zfR rfl rfl (Nat.le_of_ble_eq_true (by kernel_rfl)) (by decide)⟩
theorem zfQ : EqP Tryz.prog 115 (jU [([.int .i64 0, .int .i64 0, .int .i64 0, .int .i64 0], true), ([.int .i64 0, .int .i64 0, .int .i64 0, .int .i64 0, .int .i64 0, .int .i64 0, .int .i64 0, .int .i64 0, .int .i64 0, .int .i64 0, .int .i64 0, .int .i64 0, .int .i64 0, .int .i64 0, .int .i64 0, .int .i64 0, .int .i64 0, .int .i64 0, .int .i64 0, .int .i64 0], true)]) true 5 := wE Tryz.underlying115 (by kernel_rfl) ⟨_, (by kernel_rfl : Tryz.prog.info? 115 = some Tryz.t115), rfl⟩ (by decide) (zD.cons (by decide) rfl (zam.mono (by decide)) (zD.cons (by decide) rfl (zcU.mono (by decide)) (zD.nil)))
def zfZ : EI := ⟨.struct [(0, 110), (4, 113)], 24, 192, some [.int .i64 0, .int .i64 0, .int .i64 0, .int .i64 0, .int .i64 0, .int .i64 0, .int .i64 0, .int .i64 0, .int .i64 0, .int .i64 0, .int .i64 0, .int .i64 0, .int .i64 0, .int .i64 0, .int .i64 0, .int .i64 0, .int .i64 0, .int .i64 0, .int .i64 0, .int .i64 0, .int .i64 0, .int .i64 0, .int .i64 0, .int .i64 0], true⟩
theorem z4C : z0t Tryz.prog 115 zfZ := ⟨⟨Tryz.t115, by kernel_rfl, rfl, rfl, fun z h => by cases h; exact ⟨_, rfl, rfl, jW rfl, rfl, ⟨_, rfl⟩⟩⟩, ⟨_, Tryz.underlying115, by kernel_rfl, by
  intro f hf
  simp only [List.mem_cons, List.not_mem_nil, or_false] at hf
  rcases hf with rfl | rfl
  ·exact ⟨Tryz.t110, by kernel_rfl⟩
  ·exact ⟨Tryz.t113, by kernel_rfl⟩⟩, fun _ => uP zfQ rfl rfl (Nat.le_of_ble_eq_true (by kernel_rfl)) (by decide)⟩
end Go.Ex

namespace Go.Own
open Go.Proofs
def zd8 : Value → Bool
 | .int _ _ => true
 | _ => false
theorem z1w : ∀ {z vs us : List Value} {r : Bool}, z.all zd8 = true → z.length = vs.length → xy vs us = some r → Go.Ex.z0r z vs = true ∧ Go.Ex.xy vs us = some r
 | [], [], us, r, _, _, h => by
  cases us with
  | nil => simp only [xy, Option.some.injEq] at h; subst h; exact ⟨rfl, rfl⟩
  | cons u us => simp [xy] at h
 | a :: z, v :: vs, us, r, hz, hl, h => by
  have q : ∃ k x u' k' y, v = .int k x ∧ us = .int k' y :: u' ∧ k = k' := by
   cases us with
   | nil => cases v <;> simp [xy] at h
   | cons u us =>
    cases v <;> cases u <;> simp [xy] at h
    exact ⟨_, _, _, _, _, rfl, rfl, h.1⟩
  obtain ⟨k, x, u', k', y, rfl, rfl, hk⟩ := q
  simp only [xy, hk, if_true, Option.map_eq_some_iff] at h
  obtain ⟨r', e1, rfl⟩ := h
  simp only [List.all_cons, Bool.and_eq_true] at hz
  obtain ⟨q1, q2⟩ := z1w hz.2 (by simpa using hl) e1
  refine ⟨?_, by simp [Go.Ex.xy, hk, q2]⟩
  cases a <;> first | (simp [zd8] at hz; done) | simpa [Go.Ex.z0r] using q1
 | [], _ :: _, _, _, _, hl, _ => by simp at hl
 | _ :: _, [], _, _, _, hl, _ => by simp at hl
theorem ZA {P : Program} {t n : Nat} {i : Go.Ex.EI} (h : Go.Ex.z7N P t i) {z : List Value} (hz : i.zero = some z) (hi : z.all zd8 = true) (hs : i.size = n) (hn : z.length = n) : z7N P t n := {
 guard := h.guard
 run := fun vs us r w hv hu he => by
  obtain ⟨q1, q2⟩ := z1w hi (by rw [hn, hv]) he
  exact h.run vs us r w (by rw [hs]; exact hv) (by rw [hs]; exact hu) (by simpa only [Go.Ex.zdh, hz] using q1) q2 }
theorem zn {S : zu} {h : Array Obj} {v : Value} (hv : v.oneCell' = true) : zQ S h (.atom v) [v] [] := by simp only [zQ, Rep]; exact ⟨⟨trivial, hv⟩, trivial⟩
theorem xl {S : zu} {h : Array Obj} (sz : Nat) : zQ S h (.osl sz true []) [.slice none 0 0] [] := by
 simp only [zQ]
 exact ⟨none, 0, rfl, (fun _ => rfl), Nat.le_refl _, Nat.zero_le _, by simp, .inl ⟨trivial, rfl, rfl, trivial⟩⟩
theorem y7 {S : zu} {h : Array Obj} {fs : List A} {cs : List Value} (q : zX S h fs cs []) : zQ S h (.agg fs) cs [] := by simpa only [zQ] using q
theorem zM {S : zu} {h : Array Obj} : zX S h [] [] [] := by simp [zX]
theorem zk {S : zu} {h : Array Obj} {a : A} {fs : List A} {c1 c2 : List Value} (q1 : zQ S h a c1 []) (q2 : zX S h fs c2 []) : zX S h (a :: fs) (c1 ++ c2) [] := by simp only [zX]; exact ⟨c1, c2, [], [], rfl, rfl, q1, q2⟩
def ti1 : TI := ⟨.other, 1, 8, some (.atom .nilFunc), false⟩
theorem z9S : jT Tryz.prog 1 ti1 := ⟨⟨Tryz.t1, by kernel_rfl, rfl, rfl, fun z h => by cases h; exact ⟨_, rfl, rfl, fun S h => zn rfl⟩⟩, ⟨_, Tryz.underlying1, rfl⟩, by intro h; cases h⟩
def ti2 : TI := ⟨.int .i64, 1, 8, some (.atom (.int .i64 0)), false⟩
theorem z9R : jT Tryz.prog 2 ti2 := ⟨⟨Tryz.t2, by kernel_rfl, rfl, rfl, fun z h => by cases h; exact ⟨_, rfl, rfl, fun S h => zn rfl⟩⟩, Tryz.underlying2, by intro h; cases h⟩
def ti3 : TI := ⟨.int .i64, 1, 8, some (.atom (.int .i64 0)), false⟩
theorem z9Q : jT Tryz.prog 3 ti3 := ⟨⟨Tryz.t3, by kernel_rfl, rfl, rfl, fun z h => by cases h; exact ⟨_, rfl, rfl, fun S h => zn rfl⟩⟩, Tryz.underlying3, by intro h; cases h⟩
def ti4 : TI := ⟨.bool, 1, 1, some (.atom (.bool false)), false⟩
theorem z9P : jT Tryz.prog 4 ti4 := ⟨⟨Tryz.t4, by kernel_rfl, rfl, rfl, fun z h => by cases h; exact ⟨_, rfl, rfl, fun S h => zn rfl⟩⟩, Tryz.underlying4, by intro h; cases h⟩
def ti5 : TI := ⟨.int .u8, 1, 1, some (.atom (.int .u8 0)), false⟩
theorem z9O : jT Tryz.prog 5 ti5 := ⟨⟨Tryz.t5, by kernel_rfl, rfl, rfl, fun z h => by cases h; exact ⟨_, rfl, rfl, fun S h => zn rfl⟩⟩, Tryz.underlying5, by intro h; cases h⟩
def zeJ : TI := ⟨.array 2 5, 2, 2, some (.agg [.atom (.int .u8 0), .atom (.int .u8 0)]), true⟩
theorem z8j : jT Tryz.prog 22 zeJ := ⟨⟨Tryz.t22, by kernel_rfl, rfl, rfl, fun z h => by cases h; exact ⟨_, rfl, rfl, fun S h => y7 (zk (zn rfl) (zk (zn rfl) (zM)))⟩⟩, Tryz.underlying22, fun _ => ZA (Go.Ex.zaL.eqn rfl) rfl rfl rfl rfl⟩
def zeI : TI := ⟨.slice 95, 1, 24, some (.osl 3 true []), false⟩
theorem z8i : jT Tryz.prog 23 zeI := ⟨⟨Tryz.t23, by kernel_rfl, rfl, rfl, fun z h => by cases h; exact ⟨_, rfl, rfl, fun S h => xl _⟩⟩, Tryz.underlying23, by intro h; cases h⟩
def zeH : TI := ⟨.struct [(0, 2), (2, 1)], 3, 32, some (.agg [.agg [.atom (.int .u8 0), .atom (.int .u8 0)], .osl 3 true []]), false⟩
theorem z8h : jT Tryz.prog 25 zeH := ⟨⟨Tryz.t25, by kernel_rfl, rfl, rfl, fun z h => by cases h; exact ⟨_, rfl, rfl, fun S h => y7 (zk (y7 (zk (zn rfl) (zk (zn rfl) (zM)))) (zk (xl _) (zM)))⟩⟩, ⟨_, Tryz.underlying25, by kernel_rfl, by
  intro f hf
  simp only [List.mem_cons, List.not_mem_nil, or_false] at hf
  rcases hf with rfl | rfl
  ·exact ⟨Tryz.t22, by kernel_rfl⟩
  ·exact ⟨Tryz.t23, by kernel_rfl⟩⟩, by intro h; cases h⟩
def zeG : TI := ⟨.slice 3, 1, 24, some (.osl 1 true []), false⟩
theorem z8g : jT Tryz.prog 26 zeG := ⟨⟨Tryz.t26, by kernel_rfl, rfl, rfl, fun z h => by cases h; exact ⟨_, rfl, rfl, fun S h => xl _⟩⟩, Tryz.underlying26, by intro h; cases h⟩
def zeF : TI := ⟨.slice 87, 1, 24, some (.osl 3 true []), false⟩
theorem z8f : jT Tryz.prog 27 zeF := ⟨⟨Tryz.t27, by kernel_rfl, rfl, rfl, fun z h => by cases h; exact ⟨_, rfl, rfl, fun S h => xl _⟩⟩, Tryz.underlying27, by intro h; cases h⟩
def zeE : TI := ⟨.struct [(0, 1), (1, 1), (2, 1), (3, 1)], 4, 64, some (.agg [.atom (.int .i64 0), .atom (.int .i64 0), .osl 1 true [], .osl 3 true []]), false⟩
theorem z8e : jT Tryz.prog 29 zeE := ⟨⟨Tryz.t29, by kernel_rfl, rfl, rfl, fun z h => by cases h; exact ⟨_, rfl, rfl, fun S h => y7 (zk (zn rfl) (zk (zn rfl) (zk (xl _) (zk (xl _) (zM)))))⟩⟩, ⟨_, Tryz.underlying29, by kernel_rfl, by
  intro f hf
  simp only [List.mem_cons, List.not_mem_nil, or_false] at hf
  rcases hf with rfl | rfl | rfl | rfl
  ·exact ⟨Tryz.t3, by kernel_rfl⟩
  ·exact ⟨Tryz.t3, by kernel_rfl⟩
  ·exact ⟨Tryz.t26, by kernel_rfl⟩
  ·exact ⟨Tryz.t27, by kernel_rfl⟩⟩, by intro h; cases h⟩
def zeD : TI := ⟨.slice 39, 1, 24, some (.osl 2 true []), false⟩
theorem z8d : jT Tryz.prog 31 zeD := ⟨⟨Tryz.t31, by kernel_rfl, rfl, rfl, fun z h => by cases h; exact ⟨_, rfl, rfl, fun S h => xl _⟩⟩, Tryz.underlying31, by intro h; cases h⟩
def zeC : TI := ⟨.slice 45, 1, 24, some (.osl 1 true []), false⟩
theorem z8c : jT Tryz.prog 32 zeC := ⟨⟨Tryz.t32, by kernel_rfl, rfl, rfl, fun z h => by cases h; exact ⟨_, rfl, rfl, fun S h => xl _⟩⟩, Tryz.underlying32, by intro h; cases h⟩
def zeB : TI := ⟨.slice 65, 1, 24, some (.osl 4 true []), false⟩
theorem z8b : jT Tryz.prog 36 zeB := ⟨⟨Tryz.t36, by kernel_rfl, rfl, rfl, fun z h => by cases h; exact ⟨_, rfl, rfl, fun S h => xl _⟩⟩, Tryz.underlying36, by intro h; cases h⟩
def zeA : TI := ⟨.slice 26, 1, 24, some (.osl 1 true []), false⟩
theorem z8a : jT Tryz.prog 37 zeA := ⟨⟨Tryz.t37, by kernel_rfl, rfl, rfl, fun z h => by cases h; exact ⟨_, rfl, rfl, fun S h => xl _⟩⟩, Tryz.underlying37, by intro h; cases h⟩
def zez : TI := ⟨.struct [(0, 1), (1, 1)], 2, 48, some (.agg [.osl 1 true [], .osl 1 true []]), false⟩
theorem z89 : jT Tryz.prog 39 zez := ⟨⟨Tryz.t39, by kernel_rfl, rfl, rfl, fun z h => by cases h; exact ⟨_, rfl, rfl, fun S h => y7 (zk (xl _) (zk (xl _) (zM)))⟩⟩, ⟨_, Tryz.underlying39, by kernel_rfl, by
  intro f hf
  simp only [List.mem_cons, List.not_mem_nil, or_false] at hf
  rcases hf with rfl | rfl
  ·exact ⟨Tryz.t26, by kernel_rfl⟩
  ·exact ⟨Tryz.t37, by kernel_rfl⟩⟩, by intro h; cases h⟩
def zey : TI := ⟨.int .i64, 1, 8, some (.atom (.int .i64 0)), false⟩
theorem z88 : jT Tryz.prog 40 zey := ⟨⟨Tryz.t40, by kernel_rfl, rfl, rfl, fun z h => by cases h; exact ⟨_, rfl, rfl, fun S h => zn rfl⟩⟩, Tryz.underlying40, by intro h; cases h⟩
def zex : TI := ⟨.slice 36, 1, 24, some (.osl 1 true []), false⟩
theorem z87 : jT Tryz.prog 43 zex := ⟨⟨Tryz.t43, by kernel_rfl, rfl, rfl, fun z h => by cases h; exact ⟨_, rfl, rfl, fun S h => xl _⟩⟩, Tryz.underlying43, by intro h; cases h⟩
def zew : TI := ⟨.slice 100, 1, 24, some (.osl 5 true []), false⟩
theorem z86 : jT Tryz.prog 45 zew := ⟨⟨Tryz.t45, by kernel_rfl, rfl, rfl, fun z h => by cases h; exact ⟨_, rfl, rfl, fun S h => xl _⟩⟩, Tryz.underlying45, by intro h; cases h⟩
def zev : TI := ⟨.int .u64, 1, 8, some (.atom (.int .u64 0)), false⟩
theorem z85 : jT Tryz.prog 50 zev := ⟨⟨Tryz.t50, by kernel_rfl, rfl, rfl, fun z h => by cases h; exact ⟨_, rfl, rfl, fun S h => zn rfl⟩⟩, Tryz.underlying50, by intro h; cases h⟩
def zeu : TI := ⟨.slice 59, 1, 24, some (.osl 1 true []), false⟩
theorem z84 : jT Tryz.prog 51 zeu := ⟨⟨Tryz.t51, by kernel_rfl, rfl, rfl, fun z h => by cases h; exact ⟨_, rfl, rfl, fun S h => xl _⟩⟩, Tryz.underlying51, by intro h; cases h⟩
def zet : TI := ⟨.struct [(0, 1), (1, 1), (2, 1)], 3, 40, some (.agg [.atom (.int .i64 0), .atom (.int .i64 0), .osl 1 true []]), false⟩
theorem z83 : jT Tryz.prog 53 zet := ⟨⟨Tryz.t53, by kernel_rfl, rfl, rfl, fun z h => by cases h; exact ⟨_, rfl, rfl, fun S h => y7 (zk (zn rfl) (zk (zn rfl) (zk (xl _) (zM))))⟩⟩, ⟨_, Tryz.underlying53, by kernel_rfl, by
  intro f hf
  simp only [List.mem_cons, List.not_mem_nil, or_false] at hf
  rcases hf with rfl | rfl | rfl
  ·exact ⟨Tryz.t3, by kernel_rfl⟩
  ·exact ⟨Tryz.t3, by kernel_rfl⟩
  ·exact ⟨Tryz.t51, by kernel_rfl⟩⟩, by intro h; cases h⟩
def zes : TI := ⟨.slice 61, 1, 24, some (.osl 3 true []), false⟩
theorem z82 : jT Tryz.prog 59 zes := ⟨⟨Tryz.t59, by kernel_rfl, rfl, rfl, fun z h => by cases h; exact ⟨_, rfl, rfl, fun S h => xl _⟩⟩, Tryz.underlying59, by intro h; cases h⟩
def zer : TI := ⟨.struct [(0, 1), (1, 1), (2, 1)], 3, 24, some (.agg [.atom (.int .u8 0), .atom (.int .i64 0), .atom (.int .i64 0)]), true⟩
theorem z81 : jT Tryz.prog 61 zer := ⟨⟨Tryz.t61, by kernel_rfl, rfl, rfl, fun z h => by cases h; exact ⟨_, rfl, rfl, fun S h => y7 (zk (zn rfl) (zk (zn rfl) (zk (zn rfl) (zM))))⟩⟩, ⟨_, Tryz.underlying61, by kernel_rfl, by
  intro f hf
  simp only [List.mem_cons, List.not_mem_nil, or_false] at hf
  rcases hf with rfl | rfl | rfl
  ·exact ⟨Tryz.t5, by kernel_rfl⟩
  ·exact ⟨Tryz.t3, by kernel_rfl⟩
  ·exact ⟨Tryz.t3, by kernel_rfl⟩⟩, fun _ => ZA (Go.Ex.zaK.eqn rfl) rfl rfl rfl rfl⟩
def zeq : TI := ⟨.struct [(0, 1), (1, 1), (2, 1), (3, 1)], 4, 32, some (.agg [.atom (.int .i64 0), .atom (.int .i64 0), .atom (.int .i64 0), .atom (.int .i64 0)]), true⟩
theorem z80 : jT Tryz.prog 65 zeq := ⟨⟨Tryz.t65, by kernel_rfl, rfl, rfl, fun z h => by cases h; exact ⟨_, rfl, rfl, fun S h => y7 (zk (zn rfl) (zk (zn rfl) (zk (zn rfl) (zk (zn rfl) (zM)))))⟩⟩, ⟨_, Tryz.underlying65, by kernel_rfl, by
  intro f hf
  simp only [List.mem_cons, List.not_mem_nil, or_false] at hf
  rcases hf with rfl | rfl | rfl | rfl
  ·exact ⟨Tryz.t3, by kernel_rfl⟩
  ·exact ⟨Tryz.t3, by kernel_rfl⟩
  ·exact ⟨Tryz.t3, by kernel_rfl⟩
  ·exact ⟨Tryz.t3, by kernel_rfl⟩⟩, fun _ => ZA (Go.Ex.zaJ.eqn rfl) rfl rfl rfl rfl⟩
def zep : TI := ⟨.slice 73, 1, 24, some (.osl 6 true []), false⟩
theorem z7Z : jT Tryz.prog 68 zep := ⟨⟨Tryz.t68, by kernel_rfl, rfl, rfl, fun z h => by cases h; exact ⟨_, rfl, rfl, fun S h => xl _⟩⟩, Tryz.underlying68, by intro h; cases h⟩
def zeo : TI := ⟨.struct [(0, 4), (4, 2)], 6, 80, some (.agg [.agg [.atom (.int .i64 0), .atom (.int .i64 0), .atom (.int .i64 0), .atom (.int .i64 0)], .agg [.osl 1 true [], .osl 1 true []]]), false⟩
theorem z7Y : jT Tryz.prog 73 zeo := ⟨⟨Tryz.t73, by kernel_rfl, rfl, rfl, fun z h => by cases h; exact ⟨_, rfl, rfl, fun S h => y7 (zk (y7 (zk (zn rfl) (zk (zn rfl) (zk (zn rfl) (zk (zn rfl) (zM)))))) (zk (y7 (zk (xl _) (zk (xl _) (zM)))) (zM)))⟩⟩, ⟨_, Tryz.underlying73, by kernel_rfl, by
  intro f hf
  simp only [List.mem_cons, List.not_mem_nil, or_false] at hf
  rcases hf with rfl | rfl
  ·exact ⟨Tryz.t65, by kernel_rfl⟩
  ·exact ⟨Tryz.t39, by kernel_rfl⟩⟩, by intro h; cases h⟩
def zen : TI := ⟨.other, 1, 8, some (.atom .nilFunc), false⟩
theorem z7X : jT Tryz.prog 82 zen := ⟨⟨Tryz.t82, by kernel_rfl, rfl, rfl, fun z h => by cases h; exact ⟨_, rfl, rfl, fun S h => zn rfl⟩⟩, ⟨_, Tryz.underlying82, rfl⟩, by intro h; cases h⟩
def zem : TI := ⟨.slice 98, 1, 24, some (.osl 5 true []), false⟩
theorem z7W : jT Tryz.prog 85 zem := ⟨⟨Tryz.t85, by kernel_rfl, rfl, rfl, fun z h => by cases h; exact ⟨_, rfl, rfl, fun S h => xl _⟩⟩, Tryz.underlying85, by intro h; cases h⟩
def zel : TI := ⟨.struct [(0, 1), (1, 1), (2, 1)], 3, 56, some (.agg [.atom (.int .i64 0), .osl 5 true [], .osl 1 true []]), false⟩
theorem z7V : jT Tryz.prog 87 zel := ⟨⟨Tryz.t87, by kernel_rfl, rfl, rfl, fun z h => by cases h; exact ⟨_, rfl, rfl, fun S h => y7 (zk (zn rfl) (zk (xl _) (zk (xl _) (zM))))⟩⟩, ⟨_, Tryz.underlying87, by kernel_rfl, by
  intro f hf
  simp only [List.mem_cons, List.not_mem_nil, or_false] at hf
  rcases hf with rfl | rfl | rfl
  ·exact ⟨Tryz.t3, by kernel_rfl⟩
  ·exact ⟨Tryz.t85, by kernel_rfl⟩
  ·exact ⟨Tryz.t26, by kernel_rfl⟩⟩, by intro h; cases h⟩
def zek : TI := ⟨.slice 96, 1, 24, some (.osl 5 true []), false⟩
theorem z7U : jT Tryz.prog 93 zek := ⟨⟨Tryz.t93, by kernel_rfl, rfl, rfl, fun z h => by cases h; exact ⟨_, rfl, rfl, fun S h => xl _⟩⟩, Tryz.underlying93, by intro h; cases h⟩
def zej : TI := ⟨.struct [(0, 1), (1, 1), (2, 1)], 3, 32, some (.agg [.atom (.int .u8 0), .atom (.int .u8 0), .osl 5 true []]), false⟩
theorem z7T : jT Tryz.prog 95 zej := ⟨⟨Tryz.t95, by kernel_rfl, rfl, rfl, fun z h => by cases h; exact ⟨_, rfl, rfl, fun S h => y7 (zk (zn rfl) (zk (zn rfl) (zk (xl _) (zM))))⟩⟩, ⟨_, Tryz.underlying95, by kernel_rfl, by
  intro f hf
  simp only [List.mem_cons, List.not_mem_nil, or_false] at hf
  rcases hf with rfl | rfl | rfl
  ·exact ⟨Tryz.t5, by kernel_rfl⟩
  ·exact ⟨Tryz.t5, by kernel_rfl⟩
  ·exact ⟨Tryz.t93, by kernel_rfl⟩⟩, by intro h; cases h⟩
def zei : TI := ⟨.array 5 5, 5, 5, some (.agg [.atom (.int .u8 0), .atom (.int .u8 0), .atom (.int .u8 0), .atom (.int .u8 0), .atom (.int .u8 0)]), true⟩
theorem z7S : jT Tryz.prog 96 zei := ⟨⟨Tryz.t96, by kernel_rfl, rfl, rfl, fun z h => by cases h; exact ⟨_, rfl, rfl, fun S h => y7 (zk (zn rfl) (zk (zn rfl) (zk (zn rfl) (zk (zn rfl) (zk (zn rfl) (zM))))))⟩⟩, Tryz.underlying96, fun _ => ZA (Go.Ex.zaI.eqn rfl) rfl rfl rfl rfl⟩
def zeh : TI := ⟨.struct [(0, 1), (1, 1), (2, 1), (3, 1), (4, 1)], 5, 40, some (.agg [.atom (.int .i64 0), .atom (.int .u8 0), .atom (.int .i64 0), .atom (.int .i64 0), .atom (.int .i64 0)]), true⟩
theorem z7R : jT Tryz.prog 98 zeh := ⟨⟨Tryz.t98, by kernel_rfl, rfl, rfl, fun z h => by cases h; exact ⟨_, rfl, rfl, fun S h => y7 (zk (zn rfl) (zk (zn rfl) (zk (zn rfl) (zk (zn rfl) (zk (zn rfl) (zM))))))⟩⟩, ⟨_, Tryz.underlying98, by kernel_rfl, by
  intro f hf
  simp only [List.mem_cons, List.not_mem_nil, or_false] at hf
  rcases hf with rfl | rfl | rfl | rfl | rfl
  ·exact ⟨Tryz.t3, by kernel_rfl⟩
  ·exact ⟨Tryz.t5, by kernel_rfl⟩
  ·exact ⟨Tryz.t3, by kernel_rfl⟩
  ·exact ⟨Tryz.t3, by kernel_rfl⟩
  ·exact ⟨Tryz.t3, by kernel_rfl⟩⟩, fun _ => ZA (Go.Ex.zaH.eqn rfl) rfl rfl rfl rfl⟩
def zab : TI := ⟨.struct [(0, 4), (4, 1)], 5, 40, some (.agg [.agg [.atom (.int .i64 0), .atom (.int .i64 0), .atom (.int .i64 0), .atom (.int .i64 0)], .atom (.int .i64 0)]), true⟩
theorem z5S : jT Tryz.prog 100 zab := ⟨⟨Tryz.t100, by kernel_rfl, rfl, rfl, fun z h => by cases h; exact ⟨_, rfl, rfl, fun S h => y7 (zk (y7 (zk (zn rfl) (zk (zn rfl) (zk (zn rfl) (zk (zn rfl) (zM)))))) (zk (zn rfl) (zM)))⟩⟩, ⟨_, Tryz.underlying100, by kernel_rfl, by
  intro f hf
  simp only [List.mem_cons, List.not_mem_nil, or_false] at hf
  rcases hf with rfl | rfl
  ·exact ⟨Tryz.t65, by kernel_rfl⟩
  ·exact ⟨Tryz.t3, by kernel_rfl⟩⟩, fun _ => ZA (Go.Ex.z99.eqn rfl) rfl rfl rfl rfl⟩
def zaa : TI := ⟨.slice 115, 1, 24, some (.osl 24 true []), false⟩
theorem z5R : jT Tryz.prog 103 zaa := ⟨⟨Tryz.t103, by kernel_rfl, rfl, rfl, fun z h => by cases h; exact ⟨_, rfl, rfl, fun S h => xl _⟩⟩, Tryz.underlying103, by intro h; cases h⟩
def za9 : TI := ⟨.slice 108, 1, 24, some (.osl 5 true []), false⟩
theorem z5Q : jT Tryz.prog 106 za9 := ⟨⟨Tryz.t106, by kernel_rfl, rfl, rfl, fun z h => by cases h; exact ⟨_, rfl, rfl, fun S h => xl _⟩⟩, Tryz.underlying106, by intro h; cases h⟩
def za8 : TI := ⟨.struct [(0, 1), (1, 4)], 5, 40, some (.agg [.atom (.int .i64 0), .agg [.atom (.int .i64 0), .atom (.int .i64 0), .atom (.int .i64 0), .atom (.int .i64 0)]]), true⟩
theorem z5P : jT Tryz.prog 108 za8 := ⟨⟨Tryz.t108, by kernel_rfl, rfl, rfl, fun z h => by cases h; exact ⟨_, rfl, rfl, fun S h => y7 (zk (zn rfl) (zk (y7 (zk (zn rfl) (zk (zn rfl) (zk (zn rfl) (zk (zn rfl) (zM)))))) (zM)))⟩⟩, ⟨_, Tryz.underlying108, by kernel_rfl, by
  intro f hf
  simp only [List.mem_cons, List.not_mem_nil, or_false] at hf
  rcases hf with rfl | rfl
  ·exact ⟨Tryz.t3, by kernel_rfl⟩
  ·exact ⟨Tryz.t65, by kernel_rfl⟩⟩, fun _ => ZA (Go.Ex.z98.eqn rfl) rfl rfl rfl rfl⟩
def za7 : TI := ⟨.array 4 3, 4, 32, some (.agg [.atom (.int .i64 0), .atom (.int .i64 0), .atom (.int .i64 0), .atom (.int .i64 0)]), true⟩
theorem z5O : jT Tryz.prog 110 za7 := ⟨⟨Tryz.t110, by kernel_rfl, rfl, rfl, fun z h => by cases h; exact ⟨_, rfl, rfl, fun S h => y7 (zk (zn rfl) (zk (zn rfl) (zk (zn rfl) (zk (zn rfl) (zM)))))⟩⟩, Tryz.underlying110, fun _ => ZA (Go.Ex.z97.eqn rfl) rfl rfl rfl rfl⟩
def za6 : TI := ⟨.struct [(0, 1), (1, 4)], 5, 40, some (.agg [.atom (.int .i64 0), .agg [.atom (.int .i64 0), .atom (.int .i64 0), .atom (.int .i64 0), .atom (.int .i64 0)]]), true⟩
theorem z5N : jT Tryz.prog 112 za6 := ⟨⟨Tryz.t112, by kernel_rfl, rfl, rfl, fun z h => by cases h; exact ⟨_, rfl, rfl, fun S h => y7 (zk (zn rfl) (zk (y7 (zk (zn rfl) (zk (zn rfl) (zk (zn rfl) (zk (zn rfl) (zM)))))) (zM)))⟩⟩, ⟨_, Tryz.underlying112, by kernel_rfl, by
  intro f hf
  simp only [List.mem_cons, List.not_mem_nil, or_false] at hf
  rcases hf with rfl | rfl
  ·exact ⟨Tryz.t3, by kernel_rfl⟩
  ·exact ⟨Tryz.t110, by kernel_rfl⟩⟩, fun _ => ZA (Go.Ex.z96.eqn rfl) rfl rfl rfl rfl⟩
def za5 : TI := ⟨.array 4 112, 20, 160, some (.agg [.agg [.atom (.int .i64 0), .agg [.atom (.int .i64 0), .atom (.int .i64 0), .atom (.int .i64 0), .atom (.int .i64 0)]], .agg [.atom (.int .i64 0), .agg [.atom (.int .i64 0), .atom (.int .i64 0), .atom (.int .i64 0), .atom (.int .i64 0)]], .agg [.atom (.int .i64 0), .agg [.atom (.int .i64 0), .atom (.int .i64 0), .atom (.int .i64 0), .atom (.int .i64 0)]], .agg [.atom (.int .i64 0), .agg [.atom (.int .i64 0), .atom (.int .i64 0), .atom (.int .i64 0), .atom (.int .i64 0)]]]), true⟩
theorem z5M : jT Tryz.prog 113 za5 := ⟨⟨Tryz.t113, by kernel_rfl, rfl, rfl, fun z h => by cases h; exact ⟨_, rfl, rfl, fun S h => y7 (zk (y7 (zk (zn rfl) (zk (y7 (zk (zn rfl) (zk (zn rfl) (zk (zn rfl) (zk (zn rfl) (zM)))))) (zM)))) (zk (y7 (zk (zn rfl) (zk (y7 (zk (zn rfl) (zk (zn rfl) (zk (zn rfl) (zk (zn rfl) (zM)))))) (zM)))) (zk (y7 (zk (zn rfl) (zk (y7 (zk (zn rfl) (zk (zn rfl) (zk (zn rfl) (zk (zn rfl) (zM)))))) (zM)))) (zk (y7 (zk (zn rfl) (zk (y7 (zk (zn rfl) (zk (zn rfl) (zk (zn rfl) (zk (zn rfl) (zM)))))) (zM)))) (zM)))))⟩⟩, Tryz.underlying113, fun _ => ZA (Go.Ex.z95.eqn rfl) rfl rfl rfl rfl⟩
def za4 : TI := ⟨.struct [(0, 4), (4, 20)], 24, 192, some (.agg [.agg [.atom (.int .i64 0), .atom (.int .i64 0), .atom (.int .i64 0), .atom (.int .i64 0)], .agg [.agg [.atom (.int .i64 0), .agg [.atom (.int .i64 0), .atom (.int .i64 0), .atom (.int .i64 0), .atom (.int .i64 0)]], .agg [.atom (.int .i64 0), .agg [.atom (.int .i64 0), .atom (.int .i64 0), .atom (.int .i64 0), .atom (.int .i64 0)]], .agg [.atom (.int .i64 0), .agg [.atom (.int .i64 0), .atom (.int .i64 0), .atom (.int .i64 0), .atom (.int .i64 0)]], .agg [.atom (.int .i64 0), .agg [.atom (.int .i64 0), .atom (.int .i64 0), .atom (.int .i64 0), .atom (.int .i64 0)]]]]), true⟩
theorem z2x : jT Tryz.prog 115 za4 := ⟨⟨Tryz.t115, by kernel_rfl, rfl, rfl, fun z h => by cases h; exact ⟨_, rfl, rfl, fun S h => y7 (zk (y7 (zk (zn rfl) (zk (zn rfl) (zk (zn rfl) (zk (zn rfl) (zM)))))) (zk (y7 (zk (y7 (zk (zn rfl) (zk (y7 (zk (zn rfl) (zk (zn rfl) (zk (zn rfl) (zk (zn rfl) (zM)))))) (zM)))) (zk (y7 (zk (zn rfl) (zk (y7 (zk (zn rfl) (zk (zn rfl) (zk (zn rfl) (zk (zn rfl) (zM)))))) (zM)))) (zk (y7 (zk (zn rfl) (zk (y7 (zk (zn rfl) (zk (zn rfl) (zk (zn rfl) (zk (zn rfl) (zM)))))) (zM)))) (zk (y7 (zk (zn rfl) (zk (y7 (zk (zn rfl) (zk (zn rfl) (zk (zn rfl) (zk (zn rfl) (zM)))))) (zM)))) (zM)))))) (zM)))⟩⟩, ⟨_, Tryz.underlying115, by kernel_rfl, by
  intro f hf
  simp only [List.mem_cons, List.not_mem_nil, or_false] at hf
  rcases hf with rfl | rfl
  ·exact ⟨Tryz.t110, by kernel_rfl⟩
  ·exact ⟨Tryz.t113, by kernel_rfl⟩⟩, fun _ => ZA (Go.Ex.z4C.eqn rfl) rfl rfl rfl rfl⟩
def za3 : TI := ⟨.other, 1, 8, some (.atom .nilFunc), false⟩
theorem z5L : jT Tryz.prog 129 za3 := ⟨⟨Tryz.t129, by kernel_rfl, rfl, rfl, fun z h => by cases h; exact ⟨_, rfl, rfl, fun S h => zn rfl⟩⟩, ⟨_, Tryz.underlying129, rfl⟩, by intro h; cases h⟩
def za2 : TI := ⟨.other, 1, 8, some (.atom .nilFunc), false⟩
theorem z5K : jT Tryz.prog 130 za2 := ⟨⟨Tryz.t130, by kernel_rfl, rfl, rfl, fun z h => by cases h; exact ⟨_, rfl, rfl, fun S h => zn rfl⟩⟩, ⟨_, Tryz.underlying130, rfl⟩, by intro h; cases h⟩
def za1 : TI := ⟨.other, 1, 8, some (.atom .nilFunc), false⟩
theorem z5J : jT Tryz.prog 136 za1 := ⟨⟨Tryz.t136, by kernel_rfl, rfl, rfl, fun z h => by cases h; exact ⟨_, rfl, rfl, fun S h => zn rfl⟩⟩, ⟨_, Tryz.underlying136, rfl⟩, by intro h; cases h⟩
def za0 : TI := ⟨.other, 1, 8, some (.atom .nilFunc), false⟩
theorem z5I : jT Tryz.prog 139 za0 := ⟨⟨Tryz.t139, by kernel_rfl, rfl, rfl, fun z h => by cases h; exact ⟨_, rfl, rfl, fun S h => zn rfl⟩⟩, ⟨_, Tryz.underlying139, rfl⟩, by intro h; cases h⟩
def z9Z : TI := ⟨.other, 1, 8, some (.atom (.map none)), false⟩
theorem z5H : jT Tryz.prog 142 z9Z := ⟨⟨Tryz.t142, by kernel_rfl, rfl, rfl, fun z h => by cases h; exact ⟨_, rfl, rfl, fun S h => zn rfl⟩⟩, ⟨_, Tryz.underlying142, rfl⟩, by intro h; cases h⟩
def z9Y : TI := ⟨.other, 1, 8, some (.atom .nilFunc), false⟩
theorem z5G : jT Tryz.prog 149 z9Y := ⟨⟨Tryz.t149, by kernel_rfl, rfl, rfl, fun z h => by cases h; exact ⟨_, rfl, rfl, fun S h => zn rfl⟩⟩, ⟨_, Tryz.underlying149, rfl⟩, by intro h; cases h⟩
def z9X : TI := ⟨.other, 1, 8, some (.atom .nilFunc), false⟩
theorem z5F : jT Tryz.prog 150 z9X := ⟨⟨Tryz.t150, by kernel_rfl, rfl, rfl, fun z h => by cases h; exact ⟨_, rfl, rfl, fun S h => zn rfl⟩⟩, ⟨_, Tryz.underlying150, rfl⟩, by intro h; cases h⟩
def z9W : TI := ⟨.other, 1, 8, some (.atom .nilFunc), false⟩
theorem z5E : jT Tryz.prog 151 z9W := ⟨⟨Tryz.t151, by kernel_rfl, rfl, rfl, fun z h => by cases h; exact ⟨_, rfl, rfl, fun S h => zn rfl⟩⟩, ⟨_, Tryz.underlying151, rfl⟩, by intro h; cases h⟩
def z9V : TI := ⟨.other, 1, 16, some (.atom .nilIface), false⟩
theorem z5D : jT Tryz.prog 154 z9V := ⟨⟨Tryz.t154, by kernel_rfl, rfl, rfl, fun z h => by cases h; exact ⟨_, rfl, rfl, fun S h => zn rfl⟩⟩, ⟨_, Tryz.underlying154, rfl⟩, by intro h; cases h⟩
def z9U : TI := ⟨.other, 1, 8, some (.atom .nilFunc), false⟩
theorem z5C : jT Tryz.prog 160 z9U := ⟨⟨Tryz.t160, by kernel_rfl, rfl, rfl, fun z h => by cases h; exact ⟨_, rfl, rfl, fun S h => zn rfl⟩⟩, ⟨_, Tryz.underlying160, rfl⟩, by intro h; cases h⟩
def z9T : TI := ⟨.other, 1, 8, some (.atom .nilFunc), false⟩
theorem z5B : jT Tryz.prog 174 z9T := ⟨⟨Tryz.t174, by kernel_rfl, rfl, rfl, fun z h => by cases h; exact ⟨_, rfl, rfl, fun S h => zn rfl⟩⟩, ⟨_, Tryz.underlying174, rfl⟩, by intro h; cases h⟩
def tiL : List (Nat × TI) := [(1, ti1), (2, ti2), (3, ti3), (4, ti4), (5, ti5), (22, zeJ), (23, zeI), (25, zeH), (26, zeG), (27, zeF), (29, zeE), (31, zeD), (32, zeC), (36, zeB), (37, zeA), (39, zez), (40, zey), (43, zex), (45, zew), (50, zev), (51, zeu), (53, zet), (59, zes), (61, zer), (65, zeq), (68, zep), (73, zeo), (82, zen), (85, zem), (87, zel), (93, zek), (95, zej), (96, zei), (98, zeh), (100, zab), (103, zaa), (106, za9), (108, za8), (110, za7), (112, za6), (113, za5), (115, za4), (129, za3), (130, za2), (136, za1), (139, za0), (142, z9Z), (149, z9Y), (150, z9X), (151, z9W), (154, z9V), (160, z9U), (174, z9T)]
def xS : TT := fun t => (tiL.find? fun p => p.1 == t).map (·.2)
def z5p (P : Program) : List (Nat × TI) → Prop
 | [] => True
 | p :: l => jT P p.1 p.2 ∧ z5p P l
theorem z5p.mem {P : Program} : ∀ {l : List (Nat × TI)}, z5p P l → ∀ p ∈ l, jT P p.1 p.2
 | p :: _, h, q, hq => by
  rcases List.mem_cons.1 hq with rfl | hq
  ·exact h.1
  ·exact z5p.mem h.2 q hq
 | [], _, _, hq => by cases hq
theorem z9N : z5p Tryz.prog tiL := ⟨z9S, z9R, z9Q, z9P, z9O, z8j, z8i, z8h, z8g, z8f, z8e, z8d, z8c, z8b, z8a, z89, z88, z87, z86, z85, z84, z83, z82, z81, z80, z7Z, z7Y, z7X, z7W, z7V, z7U, z7T, z7S, z7R, z5S, z5R, z5Q, z5P, z5O, z5N, z5M, z2x, z5L, z5K, z5J, z5I, z5H, z5G, z5F, z5E, z5D, z5C, z5B, trivial⟩
theorem zZ : wN Tryz.prog xS := by
 intro t i h
 unfold xS at h
 rw [Option.map_eq_some_iff] at h
 obtain ⟨p, h1, rfl⟩ := h
 have h2 := List.find?_some h1
 have h3 := z9N.mem p (List.mem_of_find?_eq_some h1)
 rw [beq_iff_eq.1 h2] at h3
 exact h3
theorem zgg : xS 1 = some ⟨.other, 1, 8, some (.atom .nilFunc), false⟩ := rfl
theorem zgf : xS 2 = some ⟨.int .i64, 1, 8, some (.atom (.int .i64 0)), false⟩ := rfl
theorem zge : xS 3 = some ⟨.int .i64, 1, 8, some (.atom (.int .i64 0)), false⟩ := rfl
theorem zgd : xS 4 = some ⟨.bool, 1, 1, some (.atom (.bool false)), false⟩ := rfl
theorem zgc : xS 5 = some ⟨.int .u8, 1, 1, some (.atom (.int .u8 0)), false⟩ := rfl
theorem zdV : xS 22 = some ⟨.array 2 5, 2, 2, some (.agg [.atom (.int .u8 0), .atom (.int .u8 0)]), true⟩ := rfl
theorem zdU : xS 23 = some ⟨.slice 95, 1, 24, some (.osl 3 true []), false⟩ := rfl
theorem zdT : xS 25 = some ⟨.struct [(0, 2), (2, 1)], 3, 32, some (.agg [.agg [.atom (.int .u8 0), .atom (.int .u8 0)], .osl 3 true []]), false⟩ := rfl
theorem zdS : xS 26 = some ⟨.slice 3, 1, 24, some (.osl 1 true []), false⟩ := rfl
theorem zdR : xS 27 = some ⟨.slice 87, 1, 24, some (.osl 3 true []), false⟩ := rfl
theorem zdQ : xS 29 = some ⟨.struct [(0, 1), (1, 1), (2, 1), (3, 1)], 4, 64, some (.agg [.atom (.int .i64 0), .atom (.int .i64 0), .osl 1 true [], .osl 3 true []]), false⟩ := rfl
theorem zdP : xS 31 = some ⟨.slice 39, 1, 24, some (.osl 2 true []), false⟩ := rfl
theorem zdO : xS 32 = some ⟨.slice 45, 1, 24, some (.osl 1 true []), false⟩ := rfl
theorem zdN : xS 36 = some ⟨.slice 65, 1, 24, some (.osl 4 true []), false⟩ := rfl
theorem zdM : xS 37 = some ⟨.slice 26, 1, 24, some (.osl 1 true []), false⟩ := rfl
theorem zdL : xS 39 = some ⟨.struct [(0, 1), (1, 1)], 2, 48, some (.agg [.osl 1 true [], .osl 1 true []]), false⟩ := rfl
theorem zdK : xS 40 = some ⟨.int .i64, 1, 8, some (.atom (.int .i64 0)), false⟩ := rfl
theorem zdJ : xS 43 = some ⟨.slice 36, 1, 24, some (.osl 1 true []), false⟩ := rfl
theorem zdI : xS 45 = some ⟨.slice 100, 1, 24, some (.osl 5 true []), false⟩ := rfl
theorem zdH : xS 50 = some ⟨.int .u64, 1, 8, some (.atom (.int .u64 0)), false⟩ := rfl
theorem zdG : xS 51 = some ⟨.slice 59, 1, 24, some (.osl 1 true []), false⟩ := rfl
theorem zdF : xS 53 = some ⟨.struct [(0, 1), (1, 1), (2, 1)], 3, 40, some (.agg [.atom (.int .i64 0), .atom (.int .i64 0), .osl 1 true []]), false⟩ := rfl
theorem zdE : xS 59 = some ⟨.slice 61, 1, 24, some (.osl 3 true []), false⟩ := rfl
theorem zdD : xS 61 = some ⟨.struct [(0, 1), (1, 1), (2, 1)], 3, 24, some (.agg [.atom (.int .u8 0), .atom (.int .i64 0), .atom (.int .i64 0)]), true⟩ := rfl
theorem zdC : xS 65 = some ⟨.struct [(0, 1), (1, 1), (2, 1), (3, 1)], 4, 32, some (.agg [.atom (.int .i64 0), .atom (.int .i64 0), .atom (.int .i64 0), .atom (.int .i64 0)]), true⟩ := rfl
theorem zdB : xS 68 = some ⟨.slice 73, 1, 24, some (.osl 6 true []), false⟩ := rfl
theorem zdA : xS 73 = some ⟨.struct [(0, 4), (4, 2)], 6, 80, some (.agg [.agg [.atom (.int .i64 0), .atom (.int .i64 0), .atom (.int .i64 0), .atom (.int .i64 0)], .agg [.osl 1 true [], .osl 1 true []]]), false⟩ := rfl
theorem zdz : xS 82 = some ⟨.other, 1, 8, some (.atom .nilFunc), false⟩ := rfl
theorem zdy : xS 85 = some ⟨.slice 98, 1, 24, some (.osl 5 true []), false⟩ := rfl
theorem zdx : xS 87 = some ⟨.struct [(0, 1), (1, 1), (2, 1)], 3, 56, some (.agg [.atom (.int .i64 0), .osl 5 true [], .osl 1 true []]), false⟩ := rfl
theorem zdw : xS 93 = some ⟨.slice 96, 1, 24, some (.osl 5 true []), false⟩ := rfl
theorem zdv : xS 95 = some ⟨.struct [(0, 1), (1, 1), (2, 1)], 3, 32, some (.agg [.atom (.int .u8 0), .atom (.int .u8 0), .osl 5 true []]), false⟩ := rfl
theorem zdu : xS 96 = some ⟨.array 5 5, 5, 5, some (.agg [.atom (.int .u8 0), .atom (.int .u8 0), .atom (.int .u8 0), .atom (.int .u8 0), .atom (.int .u8 0)]), true⟩ := rfl
theorem zdt : xS 98 = some ⟨.struct [(0, 1), (1, 1), (2, 1), (3, 1), (4, 1)], 5, 40, some (.agg [.atom (.int .i64 0), .atom (.int .u8 0), .atom (.int .i64 0), .atom (.int .i64 0), .atom (.int .i64 0)]), true⟩ := rfl
theorem zbs : xS 100 = some ⟨.struct [(0, 4), (4, 1)], 5, 40, some (.agg [.agg [.atom (.int .i64 0), .atom (.int .i64 0), .atom (.int .i64 0), .atom (.int .i64 0)], .atom (.int .i64 0)]), true⟩ := rfl
theorem zbr : xS 103 = some ⟨.slice 115, 1, 24, some (.osl 24 true []), false⟩ := rfl
theorem zbq : xS 106 = some ⟨.slice 108, 1, 24, some (.osl 5 true []), false⟩ := rfl
theorem zbp : xS 108 = some ⟨.struct [(0, 1), (1, 4)], 5, 40, some (.agg [.atom (.int .i64 0), .agg [.atom (.int .i64 0), .atom (.int .i64 0), .atom (.int .i64 0), .atom (.int .i64 0)]]), true⟩ := rfl
theorem zbo : xS 110 = some ⟨.array 4 3, 4, 32, some (.agg [.atom (.int .i64 0), .atom (.int .i64 0), .atom (.int .i64 0), .atom (.int .i64 0)]), true⟩ := rfl
theorem zbn : xS 112 = some ⟨.struct [(0, 1), (1, 4)], 5, 40, some (.agg [.atom (.int .i64 0), .agg [.atom (.int .i64 0), .atom (.int .i64 0), .atom (.int .i64 0), .atom (.int .i64 0)]]), true⟩ := rfl
theorem zbm : xS 113 = some ⟨.array 4 112, 20, 160, some (.agg [.agg [.atom (.int .i64 0), .agg [.atom (.int .i64 0), .atom (.int .i64 0), .atom (.int .i64 0), .atom (.int .i64 0)]], .agg [.atom (.int .i64 0), .agg [.atom (.int .i64 0), .atom (.int .i64 0), .atom (.int .i64 0), .atom (.int .i64 0)]], .agg [.atom (.int .i64 0), .agg [.atom (.int .i64 0), .atom (.int .i64 0), .atom (.int .i64 0), .atom (.int .i64 0)]], .agg [.atom (.int .i64 0), .agg [.atom (.int .i64 0), .atom (.int .i64 0), .atom (.int .i64 0), .atom (.int .i64 0)]]]), true⟩ := rfl
theorem zbl : xS 115 = some ⟨.struct [(0, 4), (4, 20)], 24, 192, some (.agg [.agg [.atom (.int .i64 0), .atom (.int .i64 0), .atom (.int .i64 0), .atom (.int .i64 0)], .agg [.agg [.atom (.int .i64 0), .agg [.atom (.int .i64 0), .atom (.int .i64 0), .atom (.int .i64 0), .atom (.int .i64 0)]], .agg [.atom (.int .i64 0), .agg [.atom (.int .i64 0), .atom (.int .i64 0), .atom (.int .i64 0), .atom (.int .i64 0)]], .agg [.atom (.int .i64 0), .agg [.atom (.int .i64 0), .atom (.int .i64 0), .atom (.int .i64 0), .atom (.int .i64 0)]], .agg [.atom (.int .i64 0), .agg [.atom (.int .i64 0), .atom (.int .i64 0), .atom (.int .i64 0), .atom (.int .i64 0)]]]]), true⟩ := rfl
theorem zbk : xS 129 = some ⟨.other, 1, 8, some (.atom .nilFunc), false⟩ := rfl
theorem zbj : xS 130 = some ⟨.other, 1, 8, some (.atom .nilFunc), false⟩ := rfl
theorem zbi : xS 136 = some ⟨.other, 1, 8, some (.atom .nilFunc), false⟩ := rfl
theorem zbh : xS 139 = some ⟨.other, 1, 8, some (.atom .nilFunc), false⟩ := rfl
theorem zbg : xS 142 = some ⟨.other, 1, 8, some (.atom (.map none)), false⟩ := rfl
theorem zbf : xS 149 = some ⟨.other, 1, 8, some (.atom .nilFunc), false⟩ := rfl
theorem zbe : xS 150 = some ⟨.other, 1, 8, some (.atom .nilFunc), false⟩ := rfl
theorem zbd : xS 151 = some ⟨.other, 1, 8, some (.atom .nilFunc), false⟩ := rfl
theorem zbc : xS 154 = some ⟨.other, 1, 16, some (.atom .nilIface), false⟩ := rfl
theorem zbb : xS 160 = some ⟨.other, 1, 8, some (.atom .nilFunc), false⟩ := rfl
theorem zba : xS 174 = some ⟨.other, 1, 8, some (.atom .nilFunc), false⟩ := rfl
attribute [go_sem] zgg zgf zge zgd zgc zdV zdU zdT zdS zdR zdQ zdP zdO zdN zdM zdL zdK zdJ zdI zdH zdG zdF zdE zdD zdC zdB zdA zdz zdy zdx zdw zdv zdu zdt zbs zbr zbq zbp zbo zbn zbm zbl zbk zbj zbi zbh zbg zbf zbe zbd zbc zbb zba
end Go.Own

namespace Go.Proofs
open Go.RowKit Go.Extern.Stop Go.Stop Go.Extern
set_option maxRecDepth 100000
theorem Tryz.isTypeOf (v : Value) (w : World) : (Extern.ReflectliteType.typeOf #[.iface 201 v]).run Tryz.prog w = .ok (.iface 188 (.agg #[.pointer (some ⟨1, 201, none⟩)])) w := by kernel_rfl
theorem Tryz.isComparable (w : World) : (callFunc 132 #[.agg #[.pointer (some ⟨1, 201, none⟩)]]).run Tryz.prog w = .ok (.value (.bool true)) w := by
 rw [@run_callFunc_extern Tryz.prog 132 _ (Extern.ReflectliteType.method fun t => do Extern.Rtype.noPackHeld "Comparable" t; pure (.bool (← typeInfo t).comparable)) Tryz.func132 (by kernel_rfl) (by kernel_rfl) (by kernel_rfl) (by kernel_rfl)]
 kernel_rfl
theorem Tryz.isMethodComparable (v : Value) (w : World) : (Go.method 338 188 v "Comparable").run Tryz.prog w = .ok (132, v) w := by kernel_rfl
theorem Tryz.isComp : (Tryz.prog.info? 201).map (·.comparable) = some true := by kernel_rfl
theorem Tryz.isSize : (Tryz.prog.info? 226).map (·.size) = some 1 := by kernel_rfl
theorem Tryz.is_same (a : Addr) (w : World) :
  Calls Tryz.prog 85 #[.iface 201 (.pointer (some a)), .iface 201 (.pointer (some a))] w fun e w' => e = .returned (.bool true) ∧ w' = w := by
 obtain ⟨i, hi, hcmp⟩ := Option.map_eq_some_iff.1 Tryz.isComp
 obtain ⟨j, hj, hjs⟩ := Option.map_eq_some_iff.1 Tryz.isSize
 have h8 := @run_callFunc_extern Tryz.prog 105 _ Extern.ReflectliteType.typeOf Tryz.func105 (by kernel_rfl) (by kernel_rfl) (by kernel_rfl) (by kernel_rfl)
 have tT := Tryz.isTypeOf
 have cT := Tryz.isComparable
 have mR := Tryz.isMethodComparable
 have heq := run_eql_iface_ptr_same (P := Tryz.prog) w a Tryz.underlying154 Tryz.underlying201 hi hcmp hj
 go_enter Tryz.func85, Tryz.ntmps85
 go_wp2
 refine wp_loop_rounds 1 ?_
 rw [rounds_succ]
 go_wp2
 go_ret
 exact ⟨rfl, rfl⟩
theorem Tryz.is_nil (b : Addr) (w : World) :
  Calls Tryz.prog 85 #[.nilIface, .iface 201 (.pointer (some b))] w fun e w' => e = .returned (.bool false) ∧ w' = w := by
 have hn := run_eql_iface_nil_left (P := Tryz.prog) w 201 (.pointer (some b)) Tryz.underlying154
 go_enter Tryz.func85, Tryz.ntmps85
 go_wp2
 go_ret
 exact ⟨rfl, rfl⟩
end Go.Proofs
namespace Go.Own
open Go.Proofs
theorem z6J {S : zu} {h : Array Obj} {x y : A} {vs : List Value} {F : List Nat} (hx : x.isD = true) (hy : y.isD = true) (q : Ys S h [x, y] vs F) : ∃ u v, vs = [u, v] ∧ u3 S x u ∧ u3 S y v ∧ F = [] := by
 match vs, q with
 | [u, v], q =>
  obtain ⟨F1, F2, rfl, q1, F3, F4, rfl, q2, q3⟩ := q
  have e3 : F4 = [] := q3
  subst e3
  have d : ∀ {x : A} {u : Value} {F : List Nat}, x.isD = true → Has S h x u F → u3 S x u ∧ F = [] := by
   intro x u F hx q
   rcases q with ⟨q, rfl⟩ | ⟨cs, q1, q2, q3⟩
   ·exact ⟨q.rep1 hx, rfl⟩
   ·obtain ⟨r, rfl⟩ := q1.isD hx
    exact ⟨⟨cs, r, q3⟩, rfl⟩
  obtain ⟨r1, rfl⟩ := d hx q1
  obtain ⟨r2, rfl⟩ := d hy q2
  exact ⟨u, v, rfl, r1, r2, rfl⟩
theorem z8Y (e : Bool) : Xm Tryz.prog 85 [eEr 0 201 e, eEr 0 201 true] (eB e) := by
 refine ⟨⟨_, Tryz.func85, by kernel_rfl, by kernel_rfl⟩, ?_⟩
 intro S w vs F hS hq hF
 obtain ⟨u, v, rfl, r1, r2, rfl⟩ := z6J rfl rfl hq
 obtain ⟨g1, g2⟩ := z7A r1
 obtain ⟨⟨s1, a, rfl⟩, _⟩ : (S 0 0 = some v ∧ ∃ a, v = .iface 201 (.pointer (some a))) ∧ True := ⟨(z7A r2).1 rfl, trivial⟩
 have fin : ∀ (b : Bool) {e' : Ending} {w' : World}, e' = .returned (.bool b) ∧ w' = w → b = e → ∃ v S' F', e' = .returned v ∧ ZN (fun k => w.heap.size ≤ k ∨ k ∈ ([] : List Nat)) w w' ∧ (∀ b o u, S b o = some u → S' b o = some u) ∧ (∀ b o, b < w.heap.size → b ∉ ([] : List Nat) → S' b o = S b o) ∧ wJ S' w' ∧ Has S' w'.heap (eB e) v F' ∧ F'.Nodup ∧ ∀ k ∈ F', w.heap.size ≤ k ∨ k ∈ ([] : List Nat) := by
  rintro b e' w' ⟨rfl, rfl⟩ rfl
  exact ⟨_, S, [], rfl, ZN.refl _ _, fun _ _ _ h => h, fun _ _ _ _ => rfl, hS, .inl ⟨zA.2 ⟨rfl, rfl⟩, rfl⟩, by simp, by simp⟩
 cases e with
 | true =>
  obtain ⟨s2, b, rfl⟩ := g1 rfl
  rw [s1] at s2
  cases s2
  exact (Tryz.is_same _ w).mono fun e' w' h => fin true h rfl
 | false =>
  have := g2 rfl
  subst this
  exact (Tryz.is_nil _ w).mono fun e' w' h => fin false h rfl
structure z7i (α : Type) where
 e0 : α
 e1 : α
 deriving DecidableEq
section
variable {α : Type}
def K4 (f : α → A) (x : z7i α) : A := .agg [f x.e0, f x.e1]
instance (f g : α → A) [h : qN f g] : qN (K4 f) (K4 g) := ⟨fun x => by simp [K4, A.loose, A.looses, h.lo]⟩
instance (f : α → A) [h : wT f] : wT (K4 f) := ⟨fun x y q => by
 simp only [K4, A.agg.injEq, List.cons.injEq, and_true] at q
 cases x; cases y
 simp only [z7i.mk.injEq]
 exact ⟨h.inj _ _ q.1, h.inj _ _ q.2⟩⟩
end
structure y8 (α : Type) where
 e0 : α
 e1 : α
 e2 : α
 e3 : α
 deriving DecidableEq
instance {α : Type} [BEq α] : BEq (y8 α) := ⟨fun x y => (x.e0 == y.e0) && (x.e1 == y.e1) && (x.e2 == y.e2) && (x.e3 == y.e3)⟩
section
variable {α : Type}
def XY (f : α → A) (x : y8 α) : A := .agg [f x.e0, f x.e1, f x.e2, f x.e3]
instance (f : α → A) [h : XG f] : XG (XY f) := ⟨fun x => by simp [XY, A.isD, A.areD, h.isD]⟩
instance (f g : α → A) [h : qN f g] : qN (XY f) (XY g) := ⟨fun x => by simp [XY, A.loose, A.looses, h.lo]⟩
instance (f g : α → A) [h : Xl f g] : Xl (XY f) (XY g) := ⟨fun x => by simp [XY, A.live, A.lives, h.live], fun x => by simp [XY, A.shut, A.shuts, h.sh]⟩
instance (f : α → A) [h : wT f] : wT (XY f) := ⟨fun x y q => by
 simp only [XY, A.agg.injEq, List.cons.injEq, and_true] at q
 cases x; cases y
 simp only [y8.mk.injEq]
 exact ⟨h.inj _ _ q.1, h.inj _ _ q.2.1, h.inj _ _ q.2.2.1, h.inj _ _ q.2.2.2⟩⟩
end
section
variable {α : Type}
def y8.toL (x : y8 α) : List α := [x.e0, x.e1, x.e2, x.e3]
def y8.ofL : List α → y8 α → y8 α
 | [x0, x1, x2, x3], _ => ⟨x0, x1, x2, x3⟩
 | _, d => d
theorem y8.toL_ofL (l : List α) (d : y8 α) (h : l.length = 4) : (y8.ofL l d).toL = l := by
 match l, h with
 | [x0, x1, x2, x3], _ => rfl
def y8.setI (x : y8 α) (i : Int) (v : α) : y8 α := y8.ofL (x.toL.set i.toNat v) x
theorem y8.setL (f : α → A) (x : y8 α) (i : Int) (v : α) : (x.toL.map f).set i.toNat (f v) = ((y8.setI x i v).toL).map f := by
 unfold y8.setI
 rw [y8.toL_ofL _ _ (by simp [y8.toL]), List.map_set]
end
structure z3C (α : Type) where
 e0 : α
 e1 : α
 e2 : α
 e3 : α
 e4 : α
 deriving DecidableEq
section
variable {α : Type}
def Xu (f : α → A) (x : z3C α) : A := .agg [f x.e0, f x.e1, f x.e2, f x.e3, f x.e4]
instance (f g : α → A) [h : qN f g] : qN (Xu f) (Xu g) := ⟨fun x => by simp [Xu, A.loose, A.looses, h.lo]⟩
instance (f : α → A) [h : wT f] : wT (Xu f) := ⟨fun x y q => by
 simp only [Xu, A.agg.injEq, List.cons.injEq, and_true] at q
 cases x; cases y
 simp only [z3C.mk.injEq]
 exact ⟨h.inj _ _ q.1, h.inj _ _ q.2.1, h.inj _ _ q.2.2.1, h.inj _ _ q.2.2.2.1, h.inj _ _ q.2.2.2.2⟩⟩
end
structure xz where
 States : Int
 Final : Int
 Arcs : List (z3C Int)
def uE (f0 : Int → A) (f1 : Int → A) (f2 : List (z3C Int) → A) (x : xz) : A := .agg [f0 x.States, f1 x.Final, f2 x.Arcs]
instance (f0 : Int → A) (f1 : Int → A) (f2 : List (z3C Int) → A) (g0 : Int → A) (g1 : Int → A) (g2 : List (z3C Int) → A) [h0 : qN f0 g0] [h1 : qN f1 g1] [h2 : qN f2 g2] : qN (uE f0 f1 f2) (uE g0 g1 g2) := ⟨fun x => by simp [uE, A.loose, A.looses, h0.lo, h1.lo, h2.lo]⟩
instance (f0 : Int → A) (f1 : Int → A) (f2 : List (z3C Int) → A) [h0 : wT f0] [h1 : wT f1] [h2 : wT f2] : wT (uE f0 f1 f2) := ⟨fun x y h => by
 simp only [uE, A.agg.injEq, List.cons.injEq, and_true] at h
 cases x; cases y
 simp only [xz.mk.injEq]
 exact ⟨h0.inj _ _ h.1, h1.inj _ _ h.2.1, h2.inj _ _ h.2.2⟩⟩
structure yf where
 Channels : z7i Int
 Parts : List xz
def kx (f0 : z7i Int → A) (f1 : List xz → A) (x : yf) : A := .agg [f0 x.Channels, f1 x.Parts]
instance (f0 : z7i Int → A) (f1 : List xz → A) (g0 : z7i Int → A) (g1 : List xz → A) [h0 : qN f0 g0] [h1 : qN f1 g1] : qN (kx f0 f1) (kx g0 g1) := ⟨fun x => by simp [kx, A.loose, A.looses, h0.lo, h1.lo]⟩
instance (f0 : z7i Int → A) (f1 : List xz → A) [h0 : wT f0] [h1 : wT f1] : wT (kx f0 f1) := ⟨fun x y h => by
 simp only [kx, A.agg.injEq, List.cons.injEq, and_true] at h
 cases x; cases y
 simp only [yf.mk.injEq]
 exact ⟨h0.inj _ _ h.1, h1.inj _ _ h.2⟩⟩
structure ze where
 From : Int
 Kind : Int
 Channel : Int
 Message : Int
 To : Int
def xA (f0 : Int → A) (f1 : Int → A) (f2 : Int → A) (f3 : Int → A) (f4 : Int → A) (x : ze) : A := .agg [f0 x.From, f1 x.Kind, f2 x.Channel, f3 x.Message, f4 x.To]
instance (f0 : Int → A) (f1 : Int → A) (f2 : Int → A) (f3 : Int → A) (f4 : Int → A) [h0 : XG f0] [h1 : XG f1] [h2 : XG f2] [h3 : XG f3] [h4 : XG f4] : XG (xA f0 f1 f2 f3 f4) := ⟨fun x => by simp [xA, A.isD, A.areD, h0.isD, h1.isD, h2.isD, h3.isD, h4.isD]⟩
instance (f0 : Int → A) (f1 : Int → A) (f2 : Int → A) (f3 : Int → A) (f4 : Int → A) (g0 : Int → A) (g1 : Int → A) (g2 : Int → A) (g3 : Int → A) (g4 : Int → A) [h0 : qN f0 g0] [h1 : qN f1 g1] [h2 : qN f2 g2] [h3 : qN f3 g3] [h4 : qN f4 g4] : qN (xA f0 f1 f2 f3 f4) (xA g0 g1 g2 g3 g4) := ⟨fun x => by simp [xA, A.loose, A.looses, h0.lo, h1.lo, h2.lo, h3.lo, h4.lo]⟩
instance (f0 : Int → A) (f1 : Int → A) (f2 : Int → A) (f3 : Int → A) (f4 : Int → A) (g0 : Int → A) (g1 : Int → A) (g2 : Int → A) (g3 : Int → A) (g4 : Int → A) [h0 : Xl f0 g0] [h1 : Xl f1 g1] [h2 : Xl f2 g2] [h3 : Xl f3 g3] [h4 : Xl f4 g4] : Xl (xA f0 f1 f2 f3 f4) (xA g0 g1 g2 g3 g4) := ⟨fun x => by simp [xA, A.live, A.lives, h0.live, h1.live, h2.live, h3.live, h4.live], fun x => by simp [xA, A.shut, A.shuts, h0.sh, h1.sh, h2.sh, h3.sh, h4.sh]⟩
instance (f0 : Int → A) (f1 : Int → A) (f2 : Int → A) (f3 : Int → A) (f4 : Int → A) [h0 : wT f0] [h1 : wT f1] [h2 : wT f2] [h3 : wT f3] [h4 : wT f4] : wT (xA f0 f1 f2 f3 f4) := ⟨fun x y h => by
 simp only [xA, A.agg.injEq, List.cons.injEq, and_true] at h
 cases x; cases y
 simp only [ze.mk.injEq]
 exact ⟨h0.inj _ _ h.1, h1.inj _ _ h.2.1, h2.inj _ _ h.2.2.1, h3.inj _ _ h.2.2.2.1, h4.inj _ _ h.2.2.2.2⟩⟩
structure zh where
 States : Int
 Arcs : List ze
 Final : List Int
def yP (f0 : Int → A) (f1 : List ze → A) (f2 : List Int → A) (x : zh) : A := .agg [f0 x.States, f1 x.Arcs, f2 x.Final]
instance (f0 : Int → A) (f1 : List ze → A) (f2 : List Int → A) [h : zcx f2] : zcx (yP f0 f1 f2) := ⟨fun x => by simp [yP, A.isD, A.areD, h.no]⟩
instance (f0 : Int → A) (f1 : List ze → A) (f2 : List Int → A) (g0 : Int → A) (g1 : List ze → A) (g2 : List Int → A) [h0 : qN f0 g0] [h1 : qN f1 g1] [h2 : qN f2 g2] : qN (yP f0 f1 f2) (yP g0 g1 g2) := ⟨fun x => by simp [yP, A.loose, A.looses, h0.lo, h1.lo, h2.lo]⟩
instance (f0 : Int → A) (f1 : List ze → A) (f2 : List Int → A) (g0 : Int → A) (g1 : List ze → A) (g2 : List Int → A) [h0 : Xl f0 g0] [h1 : Xl f1 g1] [h2 : Xl f2 g2] : Xl (yP f0 f1 f2) (yP g0 g1 g2) := ⟨fun x => by simp [yP, A.live, A.lives, h0.live, h1.live, h2.live], fun x => by simp [yP, A.shut, A.shuts, h0.sh, h1.sh, h2.sh]⟩
instance (f0 : Int → A) (f1 : List ze → A) (f2 : List Int → A) [h0 : wT f0] [h1 : wT f1] [h2 : wT f2] : wT (yP f0 f1 f2) := ⟨fun x y h => by
 simp only [yP, A.agg.injEq, List.cons.injEq, and_true] at h
 cases x; cases y
 simp only [zh.mk.injEq]
 exact ⟨h0.inj _ _ h.1, h1.inj _ _ h.2.1, h2.inj _ _ h.2.2⟩⟩
structure za where
 Messages : Int
 Labels : Int
 Channels : List Int
 Parts : List zh
def w8 (f0 : Int → A) (f1 : Int → A) (f2 : List Int → A) (f3 : List zh → A) (x : za) : A := .agg [f0 x.Messages, f1 x.Labels, f2 x.Channels, f3 x.Parts]
instance (f0 : Int → A) (f1 : Int → A) (f2 : List Int → A) (f3 : List zh → A) (g0 : Int → A) (g1 : Int → A) (g2 : List Int → A) (g3 : List zh → A) [h0 : qN f0 g0] [h1 : qN f1 g1] [h2 : qN f2 g2] [h3 : qN f3 g3] : qN (w8 f0 f1 f2 f3) (w8 g0 g1 g2 g3) := ⟨fun x => by simp [w8, A.loose, A.looses, h0.lo, h1.lo, h2.lo, h3.lo]⟩
instance (f0 : Int → A) (f1 : Int → A) (f2 : List Int → A) (f3 : List zh → A) [h0 : wT f0] [h1 : wT f1] [h2 : wT f2] [h3 : wT f3] : wT (w8 f0 f1 f2 f3) := ⟨fun x y h => by
 simp only [w8, A.agg.injEq, List.cons.injEq, and_true] at h
 cases x; cases y
 simp only [za.mk.injEq]
 exact ⟨h0.inj _ _ h.1, h1.inj _ _ h.2.1, h2.inj _ _ h.2.2.1, h3.inj _ _ h.2.2.2⟩⟩
structure z7 where
 States : List Int
 Queues : List (List Int)
def zI (f0 : List Int → A) (f1 : List (List Int) → A) (x : z7) : A := .agg [f0 x.States, f1 x.Queues]
instance (f0 : List Int → A) (f1 : List (List Int) → A) [h0 : XG f0] [h1 : XG f1] : XG (zI f0 f1) := ⟨fun x => by simp [zI, A.isD, A.areD, h0.isD, h1.isD]⟩
instance (f0 : List Int → A) (f1 : List (List Int) → A) (g0 : List Int → A) (g1 : List (List Int) → A) [h0 : qN f0 g0] [h1 : qN f1 g1] : qN (zI f0 f1) (zI g0 g1) := ⟨fun x => by simp [zI, A.loose, A.looses, h0.lo, h1.lo]⟩
instance (f0 : List Int → A) (f1 : List (List Int) → A) (g0 : List Int → A) (g1 : List (List Int) → A) [h0 : Xl f0 g0] [h1 : Xl f1 g1] : Xl (zI f0 f1) (zI g0 g1) := ⟨fun x => by simp [zI, A.live, A.lives, h0.live, h1.live], fun x => by simp [zI, A.shut, A.shuts, h0.sh, h1.sh]⟩
instance (f0 : List Int → A) (f1 : List (List Int) → A) [h0 : wT f0] [h1 : wT f1] : wT (zI f0 f1) := ⟨fun x y h => by
 simp only [zI, A.agg.injEq, List.cons.injEq, and_true] at h
 cases x; cases y
 simp only [z7.mk.injEq]
 exact ⟨h0.inj _ _ h.1, h1.inj _ _ h.2⟩⟩
instance (f0 : List Int → A) (f1 : List (List Int) → A) (g0 : List Int → A) (g1 : List (List Int) → A) (x : z7) [∀ y, LeA (f0 y) (g0 y)] [∀ y, LeA (f1 y) (g1 y)] [∀ y, SzA (f0 y) (g0 y)] [∀ y, SzA (f1 y) (g1 y)] : LeA (zI f0 f1 x) (zI g0 g1 x) := by unfold zI; infer_instance
instance (f0 : List Int → A) (f1 : List (List Int) → A) (g0 : List Int → A) (g1 : List (List Int) → A) (x y : z7) [∀ y z, SzA (f0 y) (g0 z)] [∀ y z, SzA (f1 y) (g1 z)] : SzA (zI f0 f1 x) (zI g0 g1 y) := by unfold zI; infer_instance
structure z8 where
 Part : Int
 Arc : Int
 Other : Int
 With : Int
def xh (f0 : Int → A) (f1 : Int → A) (f2 : Int → A) (f3 : Int → A) (x : z8) : A := .agg [f0 x.Part, f1 x.Arc, f2 x.Other, f3 x.With]
instance (f0 : Int → A) (f1 : Int → A) (f2 : Int → A) (f3 : Int → A) [h0 : XG f0] [h1 : XG f1] [h2 : XG f2] [h3 : XG f3] : XG (xh f0 f1 f2 f3) := ⟨fun x => by simp [xh, A.isD, A.areD, h0.isD, h1.isD, h2.isD, h3.isD]⟩
instance (f0 : Int → A) (f1 : Int → A) (f2 : Int → A) (f3 : Int → A) (g0 : Int → A) (g1 : Int → A) (g2 : Int → A) (g3 : Int → A) [h0 : qN f0 g0] [h1 : qN f1 g1] [h2 : qN f2 g2] [h3 : qN f3 g3] : qN (xh f0 f1 f2 f3) (xh g0 g1 g2 g3) := ⟨fun x => by simp [xh, A.loose, A.looses, h0.lo, h1.lo, h2.lo, h3.lo]⟩
instance (f0 : Int → A) (f1 : Int → A) (f2 : Int → A) (f3 : Int → A) (g0 : Int → A) (g1 : Int → A) (g2 : Int → A) (g3 : Int → A) [h0 : Xl f0 g0] [h1 : Xl f1 g1] [h2 : Xl f2 g2] [h3 : Xl f3 g3] : Xl (xh f0 f1 f2 f3) (xh g0 g1 g2 g3) := ⟨fun x => by simp [xh, A.live, A.lives, h0.live, h1.live, h2.live, h3.live], fun x => by simp [xh, A.shut, A.shuts, h0.sh, h1.sh, h2.sh, h3.sh]⟩
instance (f0 : Int → A) (f1 : Int → A) (f2 : Int → A) (f3 : Int → A) [h0 : wT f0] [h1 : wT f1] [h2 : wT f2] [h3 : wT f3] : wT (xh f0 f1 f2 f3) := ⟨fun x y h => by
 simp only [xh, A.agg.injEq, List.cons.injEq, and_true] at h
 cases x; cases y
 simp only [z8.mk.injEq]
 exact ⟨h0.inj _ _ h.1, h1.inj _ _ h.2.1, h2.inj _ _ h.2.2.1, h3.inj _ _ h.2.2.2⟩⟩
structure zg where
 Move : z8
 To : z7
def XX (f0 : z8 → A) (f1 : z7 → A) (x : zg) : A := .agg [f0 x.Move, f1 x.To]
instance (f0 : z8 → A) (f1 : z7 → A) [h0 : XG f0] [h1 : XG f1] : XG (XX f0 f1) := ⟨fun x => by simp [XX, A.isD, A.areD, h0.isD, h1.isD]⟩
structure z6 where
 Move : z8
 To : Int
def xg (f0 : z8 → A) (f1 : Int → A) (x : z6) : A := .agg [f0 x.Move, f1 x.To]
instance (f0 : z8 → A) (f1 : Int → A) [h0 : XG f0] [h1 : XG f1] : XG (xg f0 f1) := ⟨fun x => by simp [xg, A.isD, A.areD, h0.isD, h1.isD]⟩
instance (f0 : z8 → A) (f1 : Int → A) (g0 : z8 → A) (g1 : Int → A) [h0 : qN f0 g0] [h1 : qN f1 g1] : qN (xg f0 f1) (xg g0 g1) := ⟨fun x => by simp [xg, A.loose, A.looses, h0.lo, h1.lo]⟩
instance (f0 : z8 → A) (f1 : Int → A) (g0 : z8 → A) (g1 : Int → A) [h0 : Xl f0 g0] [h1 : Xl f1 g1] : Xl (xg f0 f1) (xg g0 g1) := ⟨fun x => by simp [xg, A.live, A.lives, h0.live, h1.live], fun x => by simp [xg, A.shut, A.shuts, h0.sh, h1.sh]⟩
instance (f0 : z8 → A) (f1 : Int → A) [h0 : wT f0] [h1 : wT f1] : wT (xg f0 f1) := ⟨fun x y h => by
 simp only [xg, A.agg.injEq, List.cons.injEq, and_true] at h
 cases x; cases y
 simp only [z6.mk.injEq]
 exact ⟨h0.inj _ _ h.1, h1.inj _ _ h.2⟩⟩
structure zi where
 many_ : Int
 l_ : y8 Int
instance : BEq zi := ⟨fun x y => (x.many_ == y.many_) && (x.l_ == y.l_)⟩
def yq (f0 : Int → A) (f1 : y8 Int → A) (x : zi) : A := .agg [f0 x.many_, f1 x.l_]
instance (f0 : Int → A) (f1 : y8 Int → A) [h0 : XG f0] [h1 : XG f1] : XG (yq f0 f1) := ⟨fun x => by simp [yq, A.isD, A.areD, h0.isD, h1.isD]⟩
instance (f0 : Int → A) (f1 : y8 Int → A) (g0 : Int → A) (g1 : y8 Int → A) [h0 : qN f0 g0] [h1 : qN f1 g1] : qN (yq f0 f1) (yq g0 g1) := ⟨fun x => by simp [yq, A.loose, A.looses, h0.lo, h1.lo]⟩
instance (f0 : Int → A) (f1 : y8 Int → A) (g0 : Int → A) (g1 : y8 Int → A) [h0 : Xl f0 g0] [h1 : Xl f1 g1] : Xl (yq f0 f1) (yq g0 g1) := ⟨fun x => by simp [yq, A.live, A.lives, h0.live, h1.live], fun x => by simp [yq, A.shut, A.shuts, h0.sh, h1.sh]⟩
instance (f0 : Int → A) (f1 : y8 Int → A) [h0 : wT f0] [h1 : wT f1] : wT (yq f0 f1) := ⟨fun x y h => by
 simp only [yq, A.agg.injEq, List.cons.injEq, and_true] at h
 cases x; cases y
 simp only [zi.mk.injEq]
 exact ⟨h0.inj _ _ h.1, h1.inj _ _ h.2⟩⟩
structure zb where
 states_ : y8 Int
 queues_ : y8 zi
instance : BEq zb := ⟨fun x y => (x.states_ == y.states_) && (x.queues_ == y.queues_)⟩
def yN (f0 : y8 Int → A) (f1 : y8 zi → A) (x : zb) : A := .agg [f0 x.states_, f1 x.queues_]
instance (f0 : y8 Int → A) (f1 : y8 zi → A) [h0 : XG f0] [h1 : XG f1] : XG (yN f0 f1) := ⟨fun x => by simp [yN, A.isD, A.areD, h0.isD, h1.isD]⟩
instance (f0 : y8 Int → A) (f1 : y8 zi → A) (g0 : y8 Int → A) (g1 : y8 zi → A) [h0 : qN f0 g0] [h1 : qN f1 g1] : qN (yN f0 f1) (yN g0 g1) := ⟨fun x => by simp [yN, A.loose, A.looses, h0.lo, h1.lo]⟩
instance (f0 : y8 Int → A) (f1 : y8 zi → A) (g0 : y8 Int → A) (g1 : y8 zi → A) [h0 : Xl f0 g0] [h1 : Xl f1 g1] : Xl (yN f0 f1) (yN g0 g1) := ⟨fun x => by simp [yN, A.live, A.lives, h0.live, h1.live], fun x => by simp [yN, A.shut, A.shuts, h0.sh, h1.sh]⟩
instance (f0 : y8 Int → A) (f1 : y8 zi → A) [h0 : wT f0] [h1 : wT f1] : wT (yN f0 f1) := ⟨fun x y h => by
 simp only [yN, A.agg.injEq, List.cons.injEq, and_true] at h
 cases x; cases y
 simp only [zb.mk.injEq]
 exact ⟨h0.inj _ _ h.1, h1.inj _ _ h.2⟩⟩
structure zf where
 Kind : Int
 Label : Int
 To : Int
 deriving DecidableEq
def wI (f0 : Int → A) (f1 : Int → A) (f2 : Int → A) (x : zf) : A := .agg [f0 x.Kind, f1 x.Label, f2 x.To]
instance (f0 : Int → A) (f1 : Int → A) (f2 : Int → A) [h0 : XG f0] [h1 : XG f1] [h2 : XG f2] : XG (wI f0 f1 f2) := ⟨fun x => by simp [wI, A.isD, A.areD, h0.isD, h1.isD, h2.isD]⟩
instance (f0 : Int → A) (f1 : Int → A) (f2 : Int → A) (g0 : Int → A) (g1 : Int → A) (g2 : Int → A) [h0 : qN f0 g0] [h1 : qN f1 g1] [h2 : qN f2 g2] : qN (wI f0 f1 f2) (wI g0 g1 g2) := ⟨fun x => by simp [wI, A.loose, A.looses, h0.lo, h1.lo, h2.lo]⟩
instance (f0 : Int → A) (f1 : Int → A) (f2 : Int → A) (g0 : Int → A) (g1 : Int → A) (g2 : Int → A) [h0 : Xl f0 g0] [h1 : Xl f1 g1] [h2 : Xl f2 g2] : Xl (wI f0 f1 f2) (wI g0 g1 g2) := ⟨fun x => by simp [wI, A.live, A.lives, h0.live, h1.live, h2.live], fun x => by simp [wI, A.shut, A.shuts, h0.sh, h1.sh, h2.sh]⟩
instance (f0 : Int → A) (f1 : Int → A) (f2 : Int → A) [h0 : wT f0] [h1 : wT f1] [h2 : wT f2] : wT (wI f0 f1 f2) := ⟨fun x y h => by
 simp only [wI, A.agg.injEq, List.cons.injEq, and_true] at h
 cases x; cases y
 simp only [zf.mk.injEq]
 exact ⟨h0.inj _ _ h.1, h1.inj _ _ h.2.1, h2.inj _ _ h.2.2⟩⟩
structure zG where
 Inputs : Int
 Outputs : Int
 Rows : List (List zf)
def wY (f0 : Int → A) (f1 : Int → A) (f2 : List (List zf) → A) (x : zG) : A := .agg [f0 x.Inputs, f1 x.Outputs, f2 x.Rows]
instance (f0 : Int → A) (f1 : Int → A) (f2 : List (List zf) → A) (g0 : Int → A) (g1 : Int → A) (g2 : List (List zf) → A) [h0 : qN f0 g0] [h1 : qN f1 g1] [h2 : qN f2 g2] : qN (wY f0 f1 f2) (wY g0 g1 g2) := ⟨fun x => by simp [wY, A.loose, A.looses, h0.lo, h1.lo, h2.lo]⟩
instance (f0 : Int → A) (f1 : Int → A) (f2 : List (List zf) → A) [h0 : wT f0] [h1 : wT f1] [h2 : wT f2] : wT (wY f0 f1 f2) := ⟨fun x y h => by
 simp only [wY, A.agg.injEq, List.cons.injEq, and_true] at h
 cases x; cases y
 simp only [zG.mk.injEq]
 exact ⟨h0.inj _ _ h.1, h1.inj _ _ h.2.1, h2.inj _ _ h.2.2⟩⟩
structure zl where
 from_ : Int
 move_ : z8
def Q4 (f0 : Int → A) (f1 : z8 → A) (x : zl) : A := .agg [f0 x.from_, f1 x.move_]
instance : zfn (K := zb) (yN (XY (eI .i64)) (XY (yq (eI .i64) (XY (eI .i64))))) := ⟨fun x y => by
 obtain ⟨⟨_, _, _, _⟩, ⟨⟨_, ⟨_, _, _, _⟩⟩, ⟨_, ⟨_, _, _, _⟩⟩, ⟨_, ⟨_, _, _, _⟩⟩, ⟨_, ⟨_, _, _, _⟩⟩⟩⟩ := x
 obtain ⟨⟨_, _, _, _⟩, ⟨⟨_, ⟨_, _, _, _⟩⟩, ⟨_, ⟨_, _, _, _⟩⟩, ⟨_, ⟨_, _, _, _⟩⟩, ⟨_, ⟨_, _, _, _⟩⟩⟩⟩ := y
 simp only [XY, yq, yN, eI, Q3, Kq, Kq.keyLs, ye, BEq.beq, Option.map_some, Option.some.injEq, Value.agg.injEq, List.cons_append, List.nil_append, List.append_nil, Array.mk.injEq, List.cons.injEq, Value.int.injEq, true_and, and_true, Bool.and_eq_true, decide_eq_true_eq, and_assoc]⟩
def X3 (x_ : yf) (out_Parts : List zh) : Option za :=
 some (za.mk 2 2 ([w64 (Int.tmod x_.Channels.e0 3), w64 (Int.tmod x_.Channels.e1 3)]) out_Parts)
def Za (i_ : Int) (out_Parts2 : List zh) : Option (LR (List zh × Int) (List zh)) :=
 some (.next (out_Parts2, w64 (i_ + 1)))
def qE (out_Parts1 : List zh) (i_ : Int) (p_States : Int) (p_Arcs : List ze) (p_Final : List Int) : Option (LR (List zh × Int) (List zh)) :=
 gd (out_Parts1.length + ([(zh.mk p_States p_Arcs p_Final)] : List zh).length ≤ 4294967296) <|
 Za i_ (out_Parts1 ++ ([(zh.mk p_States p_Arcs p_Final)] : List zh))
def qD (Part_e : xz) (p_Arcs1 : List ze) (k_ : Int) (Arc_e : z3C Int) (arc_Channel : Int) : Option (LR (List ze × Int) ((Int × List ze × List Int))) :=
 gd (p_Arcs1.length + ([(ze.mk (Int.tmod (w64 (Arc_e.e0)) (w64 (1 + (w64 (Int.tmod Part_e.States 3))))) (Int.tmod Arc_e.e1 3) arc_Channel (w64 (Int.tmod Arc_e.e3 2)) (Int.tmod (w64 (Arc_e.e4)) (w64 (1 + (w64 (Int.tmod Part_e.States 3))))))] : List ze).length ≤ 4294967296) <|
 some (.next ((p_Arcs1 ++ ([(ze.mk (Int.tmod (w64 (Arc_e.e0)) (w64 (1 + (w64 (Int.tmod Part_e.States 3))))) (Int.tmod Arc_e.e1 3) arc_Channel (w64 (Int.tmod Arc_e.e3 2)) (Int.tmod (w64 (Arc_e.e4)) (w64 (1 + (w64 (Int.tmod Part_e.States 3))))))] : List ze)), w64 (k_ + 1)))
def jN (Part_e : xz) (p_Final1 : List Int) (p_Arcs1 : List ze) (k_ : Int) : Option (LR (List ze × Int) ((Int × List ze × List Int))) :=
 bif decide (k_ < ((Part_e.Arcs.length : Nat) : Int)) then (
  bif decide (k_ < 6) then (
   Option.bind (idx Part_e.Arcs k_) fun Arc_e =>
   gd (((w64 (1 + (w64 (Int.tmod Part_e.States 3)))) : Int) ≠ 0) <|
   gd ((3 : Int) ≠ 0) <|
   gd ((2 : Int) ≠ 0) <|
   gd ((2 : Int) ≠ 0) <|
   gd (((w64 (1 + (w64 (Int.tmod Part_e.States 3)))) : Int) ≠ 0) <|
   bif (Int.tmod Arc_e.e1 3) == 0 then (
    qD Part_e p_Arcs1 k_ Arc_e 0)
   else (
    qD Part_e p_Arcs1 k_ Arc_e (w64 (Int.tmod Arc_e.e2 2))))
  else (
   some (.done (w64 (1 + (w64 (Int.tmod Part_e.States 3))), p_Arcs1, p_Final1))))
 else (
  some (.done (w64 (1 + (w64 (Int.tmod Part_e.States 3))), p_Arcs1, p_Final1)))
def kZ (out_Parts1 : List zh) (i_ : Int) (Part_e : xz) (p_Final1 : List Int) : Option (LR (List zh × Int) (List zh)) :=
 Option.bind (loop (fun s => jN Part_e p_Final1 s.1 s.2) (([] : List ze), 0)) fun t7 =>
 qE out_Parts1 i_ t7.1 t7.2.1 t7.2.2
def qY (s_ : Int) (p_Final3 : List Int) : Option (LR (List Int × Int) (List Int)) :=
 some (.next (p_Final3, w64 (s_ + 1)))
def jM (Part_e : xz) (p_Final2 : List Int) (s_ : Int) : Option (LR (List Int × Int) (List Int)) :=
 bif decide (s_ < (w64 (1 + (w64 (Int.tmod Part_e.States 3))))) then (
  gd ((0 : Int) ≤ IntKind.u64.wrap (s_)) <|
  bif (zcs .u8 (Int.fdiv Part_e.Final (2 ^ (min (IntKind.u64.wrap (s_)).toNat 8))) 1) == 1 then (
   gd (p_Final2.length + ([s_] : List Int).length ≤ 4294967296) <|
   qY s_ (p_Final2 ++ ([s_] : List Int)))
  else (
   qY s_ p_Final2))
 else (
  some (.done p_Final2))
def up (x_ : yf) (out_Parts1 : List zh) (i_ : Int) (x34 : Bool) : Option (LR (List zh × Int) (List zh)) :=
 bif decide (i_ < ((x_.Parts.length : Nat) : Int)) then (
  Option.bind (idx x_.Parts i_) fun Part_e =>
  gd ((3 : Int) ≠ 0) <|
  Option.bind (loop (fun s => jM Part_e s.1 s.2) (([] : List Int), 0)) fun t9 =>
  kZ out_Parts1 i_ Part_e t9)
 else (
  qE out_Parts1 i_ 1 ([] : List ze) ([] : List Int))
def jO (x_ : yf) (out_Parts1 : List zh) (i_ : Int) : Option (LR (List zh × Int) (List zh)) :=
 bif decide (i_ < 3) then (
  bif decide (i_ < ((x_.Parts.length : Nat) : Int)) then (
   up x_ out_Parts1 i_ true)
  else (
   bif i_ == 0 then (
    up x_ out_Parts1 i_ (i_ == 0))
   else (
    some (.done out_Parts1))))
 else (
  some (.done out_Parts1))
def YB (x_ : yf) : Option za :=
 gd ((3 : Int) ≠ 0) <|
 gd ((3 : Int) ≠ 0) <|
 Option.bind (loop (fun s => jO x_ s.1 s.2) (([] : List zh), 0)) fun t2 =>
 X3 x_ t2
def Zt (x_ : za) : Option z7 :=
 gd ((0 : Int) ≤ ((x_.Parts.length : Nat) : Int) ∧ (((x_.Parts.length : Nat) : Int) : Int) ≤ 4294967296) <|
 gd ((0 : Int) ≤ ((x_.Channels.length : Nat) : Int) ∧ (((x_.Channels.length : Nat) : Int) : Int) ≤ 4294967296) <|
 some (z7.mk (List.replicate ((x_.Parts.length : Nat) : Int).toNat (0 : Int)) (List.replicate ((x_.Channels.length : Nat) : Int).toNat ([] : List Int)))
def YV (out_States : List Int) (out_Queues : List (List Int)) : Option z7 :=
 some (z7.mk out_States out_Queues)
def jJ (out_Queues1 : List (List Int)) (i_ : Int) (q_ : List Int) : Option (LR (List (List Int) × Int) (List (List Int))) :=
 gd (out_Queues1.length + ([q_] : List (List Int)).length ≤ 4294967296) <|
 some (.next ((out_Queues1 ++ ([q_] : List (List Int))), w64 (i_ + 1)))
def qw (c_ : z7) (channel : Int) (queue : List Int) (out_Queues1 : List (List Int)) (i_ : Int) : Option (LR (List (List Int) × Int) (List (List Int))) :=
 bif decide (i_ < ((c_.Queues.length : Nat) : Int)) then (
  Option.bind (idx c_.Queues i_) fun Queue_e =>
  bif i_ == channel then (
   jJ out_Queues1 i_ queue)
  else (
   jJ out_Queues1 i_ Queue_e))
 else (
  some (.done out_Queues1))
def kV (c_ : z7) (channel : Int) (queue : List Int) (out_States : List Int) : Option z7 :=
 Option.bind (loop (fun s => qw c_ channel queue s.1 s.2) (([] : List (List Int)), 0)) fun t3 =>
 YV out_States t3
def jI (out_States1 : List Int) (i_1 : Int) (n_ : Int) : Option (LR (List Int × Int) (List Int)) :=
 gd (out_States1.length + ([n_] : List Int).length ≤ 4294967296) <|
 some (.next ((out_States1 ++ ([n_] : List Int)), w64 (i_1 + 1)))
def qt (c_ : z7) (part : Int) (state : Int) (out_States1 : List Int) (i_1 : Int) : Option (LR (List Int × Int) (List Int)) :=
 bif decide (i_1 < ((c_.States.length : Nat) : Int)) then (
  Option.bind (idx c_.States i_1) fun State_e =>
  bif i_1 == part then (
   jI out_States1 i_1 state)
  else (
   jI out_States1 i_1 State_e))
 else (
  some (.done out_States1))
def qA (c_ : z7) (part : Int) (state : Int) (channel : Int) (queue : List Int) : Option z7 :=
 Option.bind (loop (fun s => qt c_ part state s.1 s.2) (([] : List Int), 0)) fun t5 =>
 kV c_ channel queue t5
def Yd (out : List zg) : Option (List zg) :=
 some out
def kh (p_ : Int) (out2 : List zg) : Option (LR (List zg × Int) (List zg)) :=
 some (.next (out2, w64 (p_ + 1)))
def vE (i_ : Int) (out4 : List zg) : Option (LR (List zg × Int) (List zg)) :=
 some (.next (out4, w64 (i_ + 1)))
def kg (o_ : Int) (out8 : List zg) : Option (LR (List zg × Int) (List zg)) :=
 some (.next (out8, w64 (o_ + 1)))
def wv (k_ : Int) (out10 : List zg) : Option (LR (List zg × Int) (List zg)) :=
 some (.next (out10, w64 (k_ + 1)))
def wu (x_ : za) (c_ : z7) (p_ : Int) (i_ : Int) (Arc_e : ze) (o_ : Int) (out9 : List zg) (k_ : Int) : Option (LR (List zg × Int) (List zg)) :=
 Option.bind (idx x_.Parts o_) fun Part_e2 =>
 bif decide (k_ < ((Part_e2.Arcs.length : Nat) : Int)) then (
  bif o_ != p_ then (
   Option.bind (idx x_.Parts o_) fun Part_e3 =>
   Option.bind (idx Part_e3.Arcs k_) fun Arc_e1 =>
   bif Arc_e1.Kind == 2 then (
    Option.bind (idx c_.States o_) fun State_e1 =>
    bif Arc_e1.From == State_e1 then (
     bif Arc_e1.Channel == Arc_e.Channel then (
      bif Arc_e1.Message == Arc_e.Message then (
       Option.bind (qA c_ p_ Arc_e.To (-1) []) fun r_1 =>
       Option.bind (qA r_1 o_ Arc_e1.To (-1) []) fun r_2 =>
       gd (out9.length + ([(zg.mk (z8.mk p_ i_ o_ k_) r_2)] : List zg).length ≤ 4294967296) <|
       wv k_ (out9 ++ ([(zg.mk (z8.mk p_ i_ o_ k_) r_2)] : List zg)))
      else (
       wv k_ out9))
     else (
      wv k_ out9))
    else (
     wv k_ out9))
   else (
    wv k_ out9))
  else (
   some (.done out9)))
 else (
  some (.done out9))
def wo (x_ : za) (c_ : z7) (p_ : Int) (i_ : Int) (Arc_e : ze) (Channel_e : Int) (out7 : List zg) (o_ : Int) : Option (LR (List zg × Int) (List zg)) :=
 bif decide (o_ < ((x_.Parts.length : Nat) : Int)) then (
  bif Arc_e.Kind == 1 then (
   bif Channel_e == 0 then (
    Option.bind (loop (fun s => wu x_ c_ p_ i_ Arc_e o_ s.1 s.2) (out7, 0)) fun t10 =>
    kg o_ t10)
   else (
    some (.done out7)))
  else (
   some (.done out7)))
 else (
  some (.done out7))
def wp (x_ : za) (c_ : z7) (p_ : Int) (i_ : Int) (Arc_e : ze) (Channel_e : Int) (out6 : List zg) : Option (LR (List zg × Int) (List zg)) :=
 Option.bind (loop (fun s => wo x_ c_ p_ i_ Arc_e Channel_e s.1 s.2) (out6, 0)) fun t8 =>
 vE i_ t8
def wS (x_ : za) (c_ : z7) (p_ : Int) (i_ : Int) (Arc_e : ze) (Queue_e : List Int) (Channel_e : Int) (out5 : List zg) : Option (LR (List zg × Int) (List zg)) :=
 bif Arc_e.Kind == 2 then (
  bif decide (((Queue_e.length : Nat) : Int) > 0) then (
   Option.bind (idx Queue_e 0) fun Queue_e_e =>
   bif Queue_e_e == Arc_e.Message then (
    gd ((0 : Int) ≤ 1 ∧ (1 : Int) ≤ ((Queue_e.length : Nat) : Int) ∧ (((Queue_e.length : Nat) : Int) : Int) ≤ ((Queue_e.length : Nat) : Int)) <|
    Option.bind (qA c_ p_ Arc_e.To Arc_e.Channel (Queue_e.drop (1 : Int).toNat)) fun r_3 =>
    gd (out5.length + ([(zg.mk (z8.mk p_ i_ (-1) (-1)) r_3)] : List zg).length ≤ 4294967296) <|
    wp x_ c_ p_ i_ Arc_e Channel_e (out5 ++ ([(zg.mk (z8.mk p_ i_ (-1) (-1)) r_3)] : List zg)))
   else (
    wp x_ c_ p_ i_ Arc_e Channel_e out5))
  else (
   wp x_ c_ p_ i_ Arc_e Channel_e out5))
 else (
  wp x_ c_ p_ i_ Arc_e Channel_e out5)
def uJ (x_ : za) (c_ : z7) (p_ : Int) (out3 : List zg) (i_ : Int) : Option (LR (List zg × Int) (List zg)) :=
 Option.bind (idx x_.Parts p_) fun Part_e =>
 bif decide (i_ < ((Part_e.Arcs.length : Nat) : Int)) then (
  Option.bind (idx x_.Parts p_) fun Part_e1 =>
  Option.bind (idx Part_e1.Arcs i_) fun Arc_e =>
  Option.bind (idx c_.States p_) fun State_e =>
  bif Arc_e.From != State_e then (
   vE i_ out3)
  else (
   bif Arc_e.Kind == 0 then (
    Option.bind (qA c_ p_ Arc_e.To (-1) []) fun r_ =>
    gd (out3.length + ([(zg.mk (z8.mk p_ i_ (-1) (-1)) r_)] : List zg).length ≤ 4294967296) <|
    vE i_ (out3 ++ ([(zg.mk (z8.mk p_ i_ (-1) (-1)) r_)] : List zg)))
   else (
    Option.bind (idx c_.Queues Arc_e.Channel) fun Queue_e =>
    Option.bind (idx x_.Channels Arc_e.Channel) fun Channel_e =>
    bif Arc_e.Kind == 1 then (
     bif decide (((Queue_e.length : Nat) : Int) < Channel_e) then (
      gd (([] : List Int).length + Queue_e.length ≤ 4294967296) <|
      gd (Queue_e.length + ([Arc_e.Message] : List Int).length ≤ 4294967296) <|
      Option.bind (qA c_ p_ Arc_e.To Arc_e.Channel (Queue_e ++ ([Arc_e.Message] : List Int))) fun r_4 =>
      gd (out3.length + ([(zg.mk (z8.mk p_ i_ (-1) (-1)) r_4)] : List zg).length ≤ 4294967296) <|
      wS x_ c_ p_ i_ Arc_e Queue_e Channel_e (out3 ++ ([(zg.mk (z8.mk p_ i_ (-1) (-1)) r_4)] : List zg)))
     else (
      wS x_ c_ p_ i_ Arc_e Queue_e Channel_e out3))
    else (
     wS x_ c_ p_ i_ Arc_e Queue_e Channel_e out3))))
 else (
  some (.done out3))
def uK (x_ : za) (c_ : z7) (out1 : List zg) (p_ : Int) : Option (LR (List zg × Int) (List zg)) :=
 bif decide (p_ < ((x_.Parts.length : Nat) : Int)) then (
  Option.bind (loop (fun s => uJ x_ c_ p_ s.1 s.2) (out1, 0)) fun t4 =>
  kh p_ t4)
 else (
  some (.done out1))
def Zr (x_ : za) (c_ : z7) : Option (List zg) :=
 Option.bind (loop (fun s => uK x_ c_ s.1 s.2) (([] : List zg), 0)) fun t2 =>
 Yd t2
def Zu : Option Int :=
 some 0
def qj (a_ : List Int) (b_ : List Int) (i_ : Int) : Option (LR Int (Unit ⊕ Int)) :=
 bif decide (i_ < ((a_.length : Nat) : Int)) then (
  Option.bind (idx a_ i_) fun a__e =>
  Option.bind (idx b_ i_) fun b__e =>
  bif a__e != b__e then (
   Option.bind (idx a_ i_) fun a__e1 =>
   Option.bind (idx b_ i_) fun b__e1 =>
   bif decide (a__e1 < b__e1) then (
    some (.done (.inr 1)))
   else (
    some (.done (.inr 0))))
  else (
   some (.next (w64 (i_ + 1)))))
 else (
  some (.done (.inl ())))
def jf (a_ : List Int) (b_ : List Int) : Option Int :=
 bif ((a_.length : Nat) : Int) != ((b_.length : Nat) : Int) then (
  bif decide (((a_.length : Nat) : Int) < ((b_.length : Nat) : Int)) then (
   some 1)
  else (
   some 0))
 else (
  Option.bind (loop (fun s => qj a_ b_ s) 0) fun t2 =>
  match t2 with
  | .inl p => Zu
  | .inr p => some p)
def Zi (a_ : List Int) (b_ : List Int) : Option Int :=
 bif ((a_.length : Nat) : Int) != ((b_.length : Nat) : Int) then (
  some 0)
 else (
  Option.bind (jf a_ b_) fun r_ =>
  bif r_ == 1 then (
   some 0)
  else (
   Option.bind (jf b_ a_) fun r_1 =>
   bif r_1 == 1 then (
    some 0)
   else (
    some 1)))
def YW : Option Int :=
 some 1
def jK (a_ : z7) (b_ : z7) (i_ : Int) : Option (LR Int (Unit ⊕ Int)) :=
 bif decide (i_ < ((a_.Queues.length : Nat) : Int)) then (
  Option.bind (idx a_.Queues i_) fun Queue_e =>
  Option.bind (idx b_.Queues i_) fun Queue_e1 =>
  Option.bind (Zi Queue_e Queue_e1) fun r_1 =>
  bif r_1 == 0 then (
   some (.done (.inr 0)))
  else (
   some (.next (w64 (i_ + 1)))))
 else (
  some (.done (.inl ())))
def uI (a_ : z7) (b_ : z7) : Option Int :=
 Option.bind (Zi a_.States b_.States) fun r_ =>
 bif r_ == 0 then (
  some 0)
 else (
  bif ((a_.Queues.length : Nat) : Int) != ((b_.Queues.length : Nat) : Int) then (
   some 0)
  else (
   Option.bind (loop (fun s => jK a_ b_ s) 0) fun t2 =>
   match t2 with
   | .inl p => YW
   | .inr p => some p))
def Ye (list : List z7) (steps : List (List z6)) : Option (List z7 × List (List z6)) :=
 some (list, steps)
def km (n_ : Int) (list2 : List z7) (steps2 : List (List z6)) : Option (LR (List z7 × List (List z6) × Int) ((List z7 × List (List z6)))) :=
 some (.next (list2, steps2, w64 (n_ + 1)))
def kl (steps1 : List (List z6)) (n_ : Int) (list3 : List z7) (l_ : List z6) : Option (LR (List z7 × List (List z6) × Int) ((List z7 × List (List z6)))) :=
 gd (steps1.length + ([l_] : List (List z6)).length ≤ 4294967296) <|
 km n_ list3 (steps1 ++ ([l_] : List (List z6)))
def kj (i_ : Int) (list5 : List z7) (l_2 : List z6) : Option (LR (List z7 × List z6 × Int) ((List z7 × List z6))) :=
 some (.next (list5, l_2, w64 (i_ + 1)))
def qV (r_1 : List zg) (l_1 : List z6) (i_ : Int) (k_ : Int) (list6 : List z7) : Option (LR (List z7 × List z6 × Int) ((List z7 × List z6))) :=
 Option.bind (idx r_1 i_) fun r__e =>
 gd (l_1.length + ([(z6.mk r__e.Move k_)] : List z6).length ≤ 4294967296) <|
 kj i_ list6 (l_1 ++ ([(z6.mk r__e.Move k_)] : List z6))
def ki (r_1 : List zg) (list4 : List z7) (l_1 : List z6) (i_ : Int) (k_ : Int) : Option (LR (List z7 × List z6 × Int) ((List z7 × List z6))) :=
 bif k_ == ((list4.length : Nat) : Int) then (
  Option.bind (idx r_1 i_) fun r__e1 =>
  gd (list4.length + ([r__e1.To] : List z7).length ≤ 4294967296) <|
  qV r_1 l_1 i_ k_ (list4 ++ ([r__e1.To] : List z7)))
 else (
  qV r_1 l_1 i_ k_ list4)
def uL (r_1 : List zg) (list4 : List z7) (i_ : Int) (k_1 : Int) : Option (LR Int Int) :=
 bif decide (k_1 < ((list4.length : Nat) : Int)) then (
  Option.bind (idx list4 k_1) fun list_e1 =>
  Option.bind (idx r_1 i_) fun r__e2 =>
  Option.bind (uI list_e1 r__e2.To) fun r_2 =>
  bif r_2 == 0 then (
   some (.next (w64 (k_1 + 1))))
  else (
   some (.done k_1)))
 else (
  some (.done k_1))
def uM (r_1 : List zg) (list4 : List z7) (l_1 : List z6) (i_ : Int) : Option (LR (List z7 × List z6 × Int) ((List z7 × List z6))) :=
 bif decide (i_ < ((r_1.length : Nat) : Int)) then (
  Option.bind (loop (fun s => uL r_1 list4 i_ s) 0) fun t9 =>
  ki r_1 list4 l_1 i_ t9)
 else (
  some (.done (list4, l_1)))
def qU (x_ : za) (most : Int) (list1 : List z7) (steps1 : List (List z6)) (n_ : Int) : Option (LR (List z7 × List (List z6) × Int) ((List z7 × List (List z6)))) :=
 bif decide (n_ < ((list1.length : Nat) : Int)) then (
  bif decide (((list1.length : Nat) : Int) ≤ most) then (
   Option.bind (idx list1 n_) fun list_e =>
   Option.bind (Zr x_ list_e) fun r_1 =>
   Option.bind (loop (fun s => uM r_1 s.1 s.2.1 s.2.2) (list1, ([] : List z6), 0)) fun t5 =>
   kl steps1 n_ t5.1 t5.2)
  else (
   some (.done (list1, steps1))))
 else (
  some (.done (list1, steps1)))
def Zs (x_ : za) (most : Int) : Option (List z7 × List (List z6)) :=
 Option.bind (Zt x_) fun r_ =>
 Option.bind (loop (fun s => qU x_ most s.1 s.2.1 s.2.2) (([r_] : List z7), ([] : List (List z6)), 0)) fun t2 =>
 Ye t2.1 t2.2
def YA (capacity : Int) (arcs : List ze) : Option za :=
 some (za.mk 1 1 ([capacity]) ([(zh.mk 2 ([(ze.mk 0 1 0 0 1), (ze.mk 1 0 0 0 0)]) []), (zh.mk 1 arcs [])]))
def jt (n_ : Int) : Option Bool :=
 some (decide (n_ > 4))
def wi : Option Int :=
 some (-1)
def yH (s_ : List Int) (x8 : Int) : Option (LR Int (Unit ⊕ Int)) :=
 bif decide (x8 < ((s_.length : Nat) : Int)) then (
  Option.bind (idx s_ x8) fun s__e =>
  Option.bind (jt s__e) fun r_ =>
  bif r_ then (
   some (.done (.inr x8)))
  else (
   some (.next (w64 (x8 + 1)))))
 else (
  some (.done (.inl ())))
def xL (s_ : List Int) (f_ : Unit) : Option Int :=
 Option.bind (loop (fun s => yH s_ s) 0) fun t2 =>
 match t2 with
 | .inl p => wi
 | .inr p => some p
def yK (s_ : List Int) (f_ : Unit) : Option Bool :=
 Option.bind (xL s_ ()) fun r_ =>
 some (decide (r_ ≥ 0))
def js (p_ : zh) : Option Bool :=
 bif decide (p_.States > 64) then (
  some true)
 else (
  some (decide (((p_.Arcs.length : Nat) : Int) > 256)))
def yD : Option Int :=
 some (-1)
def zO (s_ : List zh) (x8 : Int) : Option (LR Int (Unit ⊕ Int)) :=
 bif decide (x8 < ((s_.length : Nat) : Int)) then (
  Option.bind (idx s_ x8) fun s__e =>
  Option.bind (js s__e) fun r_ =>
  bif r_ then (
   some (.done (.inr x8)))
  else (
   some (.next (w64 (x8 + 1)))))
 else (
  some (.done (.inl ())))
def yh (s_ : List zh) (f_ : Unit) : Option Int :=
 Option.bind (loop (fun s => zO s_ s) 0) fun t2 =>
 match t2 with
 | .inl p => yD
 | .inr p => some p
def zP (s_ : List zh) (f_ : Unit) : Option Bool :=
 Option.bind (yh s_ ()) fun r_ =>
 some (decide (r_ ≥ 0))
def ju (x_ : za) : Option Bool :=
 bif decide (x_.Messages > 16) then (
  some true)
 else (
  bif decide (x_.Labels > 16) then (
   some true)
  else (
   bif decide (((x_.Channels.length : Nat) : Int) > 4) then (
    some true)
   else (
    bif decide (((x_.Parts.length : Nat) : Int) > 4) then (
     some true)
    else (
     Option.bind (yK x_.Channels ()) fun r_ =>
     bif r_ then (
      some true)
     else (
      Option.bind (zP x_.Parts ()) fun r_1 =>
      some r_1)))))
def jC (n_ : Int) : Option Bool :=
 some (decide (n_ < 0))
def wh : Option Int :=
 some (-1)
def yG (s_ : List Int) (x8 : Int) : Option (LR Int (Unit ⊕ Int)) :=
 bif decide (x8 < ((s_.length : Nat) : Int)) then (
  Option.bind (idx s_ x8) fun s__e =>
  Option.bind (jC s__e) fun r_ =>
  bif r_ then (
   some (.done (.inr x8)))
  else (
   some (.next (w64 (x8 + 1)))))
 else (
  some (.done (.inl ())))
def xK (s_ : List Int) (f_ : Unit) : Option Int :=
 Option.bind (loop (fun s => yG s_ s) 0) fun t2 =>
 match t2 with
 | .inl p => wh
 | .inr p => some p
def yI (s_ : List Int) (f_ : Unit) : Option Bool :=
 Option.bind (xK s_ ()) fun r_ =>
 some (decide (r_ ≥ 0))
def uH (n_ : Int) (many : Int) : Option Bool :=
 bif decide (n_ ≥ 0) then (
  some (decide (n_ < many)))
 else (
  some false)
def jX : Option Bool :=
 some true
def qn (x9 : Int) (x29 : Bool) : Option (LR Int (Unit ⊕ Bool)) :=
 some (.next (w64 (x9 + 1)))
def vP (l_ : List Int) (many : Int) (x9 : Int) : Option (LR Int (Unit ⊕ Bool)) :=
 bif decide (x9 < ((l_.length : Nat) : Int)) then (
  Option.bind (idx l_ x9) fun l__e =>
  Option.bind (uH l__e many) fun r_ =>
  bif !r_ then (
   some (.done (.inr false)))
  else (
   bif decide (x9 > 0) then (
    Option.bind (idx l_ (w64 (x9 - 1))) fun l__e1 =>
    bif decide (l__e ≤ l__e1) then (
     some (.done (.inr false)))
    else (
     qn x9 (decide (l__e ≤ l__e1))))
   else (
    qn x9 false)))
 else (
  some (.done (.inl ())))
def uG (l_ : List Int) (many : Int) : Option Bool :=
 Option.bind (loop (fun s => vP l_ many s) 0) fun t2 =>
 match t2 with
 | .inl p => jX
 | .inr p => some p
def wK (x_ : za) (p_ : zh) (a_ : ze) : Option Bool :=
 Option.bind (uH a_.From p_.States) fun r_ =>
 bif !r_ then (
  some false)
 else (
  Option.bind (uH a_.To p_.States) fun r_1 =>
  bif !r_1 then (
   some false)
  else (
   bif decide (a_.Kind > 2) then (
    some false)
   else (
    bif a_.Kind == 0 then (
     bif a_.Channel == 0 then (
      Option.bind (uH a_.Message x_.Labels) fun r_2 =>
      some r_2)
     else (
      some false))
    else (
     Option.bind (uH a_.Channel ((x_.Channels.length : Nat) : Int)) fun r_3 =>
     bif r_3 then (
      Option.bind (uH a_.Message x_.Messages) fun r_4 =>
      some r_4)
     else (
      some false)))))
def jB (a_ : ze) (x1 : za) (x2 : zh) : Option Bool :=
 Option.bind (wK x1 x2 a_) fun r_ =>
 some (!r_)
def yT : Option Int :=
 some (-1)
def zT (s_ : List ze) (f_ : za × zh) (x8 : Int) : Option (LR Int (Unit ⊕ Int)) :=
 bif decide (x8 < ((s_.length : Nat) : Int)) then (
  Option.bind (idx s_ x8) fun s__e =>
  Option.bind (jB s__e f_.1 f_.2) fun r_ =>
  bif r_ then (
   some (.done (.inr x8)))
  else (
   some (.next (w64 (x8 + 1)))))
 else (
  some (.done (.inl ())))
def yl (s_ : List ze) (f_ : za × zh) : Option Int :=
 Option.bind (loop (fun s => zT s_ f_ s) 0) fun t2 =>
 match t2 with
 | .inl p => yT
 | .inr p => some p
def zU (s_ : List ze) (f_ : za × zh) : Option Bool :=
 Option.bind (yl s_ (f_.1, f_.2)) fun r_ =>
 some (decide (r_ ≥ 0))
def kE : Option Int :=
 some 0
def uw (x_ : za) (x29 : Int) : Option (LR Int (Unit ⊕ Int)) :=
 bif decide (x29 < ((x_.Parts.length : Nat) : Int)) then (
  Option.bind (idx x_.Parts x29) fun Part_e =>
  bif decide (Part_e.States < 1) then (
   some (.done (.inr 1)))
  else (
   Option.bind (uG Part_e.Final Part_e.States) fun r_2 =>
   bif !r_2 then (
    some (.done (.inr 1)))
   else (
    Option.bind (zU Part_e.Arcs (x_, Part_e)) fun r_3 =>
    bif r_3 then (
     some (.done (.inr 1)))
    else (
     some (.next (w64 (x29 + 1)))))))
 else (
  some (.done (.inl ())))
def uh (x_ : za) : Option Int :=
 Option.bind (ju x_) fun r_ =>
 bif r_ then (
  some 3)
 else (
  bif decide (x_.Messages < 0) then (
   some 1)
  else (
   bif decide (x_.Labels < 0) then (
    some 1)
   else (
    bif decide (((x_.Parts.length : Nat) : Int) < 1) then (
     some 1)
    else (
     Option.bind (yI x_.Channels ()) fun r_1 =>
     bif r_1 then (
      some 1)
     else (
      Option.bind (loop (fun s => uw x_ s) 0) fun t2 =>
      match t2 with
      | .inl p => kE
      | .inr p => some p)))))
def vK (x_ : za) (s_ : zb) : Option (za × zb) :=
 some (x_, s_)
def wc (x_ : za) (s_ : zb) (part : Int) : Option (za × Int × zb) :=
 some (x_, part, s_)
def wC {σ : Type} (x14 : Int) (sg2 : σ) : Option (LR (σ × Int) σ) :=
 some (.next (sg2, w64 (x14 + 1)))
def xG {σ : Type} (x1 : Int) (x2 : zb) (yy : σ → (Int × ze) → Option (σ × Bool)) (Part_e : zh) (sg1 : σ) (x14 : Int) : Option (LR (σ × Int) σ) :=
 bif decide (x14 < ((Part_e.Arcs.length : Nat) : Int)) then (
  Option.bind (idx Part_e.Arcs x14) fun Arc_e =>
  Option.bind (idx (y8.toL x2.states_) x1) fun cell =>
  bif Arc_e.From == cell then (
   Option.bind (yy sg1 (x14, Arc_e)) fun yr =>
   bif !yr.2 then (
    some (.done yr.1))
   else (
    wC x14 yr.1))
  else (
   wC x14 sg1))
 else (
  some (.done sg1))
def yn (x0 : za) (x1 : Int) (x2 : zb) {σ : Type} (yy : σ → (Int × ze) → Option (σ × Bool)) (sg : σ) : Option σ :=
 Option.bind (idx x0.Parts x1) fun Part_e =>
 Option.bind (loop (fun s => xG x1 x2 yy Part_e s.1 s.2) (sg, 0)) fun t1 =>
 some t1
def qp (q_ : zi) (m_ : Int) : Option zi :=
 Option.bind (idx (y8.toL q_.l_) q_.many_) fun cell =>
 Option.bind (some (y8.setI q_.l_ q_.many_ m_)) fun arr =>
 some (zi.mk (w64 (q_.many_ + 1)) arr)
def uS (q_ : zi) : Option zi :=
 Option.bind (some (y8.ofL (cpA (y8.toL q_.l_) 0 ((y8.toL q_.l_).drop 1)) q_.l_)) fun arr =>
 some (zi.mk (w64 (q_.many_ - 1)) (y8.mk arr.e0 arr.e1 arr.e2 0))
def wZ (arr : y8 Int) (s_queues : y8 zi) : Option (zb × Bool) :=
 some ((zb.mk arr s_queues), false)
def zR (s_ : zb) (a_ : ze) (arr : y8 Int) (cell1 : zi) (x33 : Bool) : Option (zb × Bool) :=
 bif x33 then (
  some ((zb.mk arr s_.queues_), true))
 else (
  bif a_.Kind == 1 then (
   Option.bind (qp cell1 a_.Message) fun r_ =>
   Option.bind (idx (y8.toL s_.queues_) a_.Channel) fun cell2 =>
   Option.bind (some (y8.setI s_.queues_ a_.Channel r_)) fun arr1 =>
   wZ arr arr1)
  else (
   Option.bind (uS cell1) fun r_1 =>
   Option.bind (idx (y8.toL s_.queues_) a_.Channel) fun cell3 =>
   Option.bind (some (y8.setI s_.queues_ a_.Channel r_1)) fun arr2 =>
   wZ arr arr2))
def xD (x_ : za) (s_ : zb) (part : Int) (a_ : ze) : Option (zb × Bool) :=
 Option.bind (idx (y8.toL s_.states_) part) fun cell =>
 Option.bind (some (y8.setI s_.states_ part a_.To)) fun arr =>
 Option.bind (idx (y8.toL s_.queues_) (mn a_.Channel 3)) fun cell1 =>
 bif a_.Kind == 0 then (
  some ((zb.mk arr s_.queues_), false))
 else (
  Option.bind (idx x_.Channels a_.Channel) fun Channel_e =>
  bif Channel_e == 0 then (
   zR s_ a_ arr cell1 (Channel_e == 0))
  else (
   bif a_.Kind == 1 then (
    Option.bind (idx x_.Channels a_.Channel) fun Channel_e1 =>
    bif cell1.many_ == Channel_e1 then (
     zR s_ a_ arr cell1 (cell1.many_ == Channel_e1))
    else (
     bif a_.Kind == 2 then (
      bif cell1.many_ == 0 then (
       zR s_ a_ arr cell1 true)
      else (
       zR s_ a_ arr cell1 (cell1.l_.e0 != a_.Message)))
     else (
      zR s_ a_ arr cell1 false)))
   else (
    bif a_.Kind == 2 then (
     bif cell1.many_ == 0 then (
      zR s_ a_ arr cell1 true)
     else (
      zR s_ a_ arr cell1 (cell1.l_.e0 != a_.Message)))
    else (
     zR s_ a_ arr cell1 false))))
def JG (e t : Bool) : Option Bool := bif t then some e else none
def vD {σ : Type} (x16 : Int) (sg2 : σ) : Option (LR (σ × Int) σ) :=
 some (.next (sg2, w64 (x16 + 1)))
def wn {σ : Type} (x59 : Int) (sg5 : σ) : Option (LR (σ × Int) (σ ⊕ σ)) :=
 some (.next (sg5, w64 (x59 + 1)))
def yX {σ : Type} (x1 : zb) (yy : σ → (z8 × zb) → Option (σ × Bool)) (x16 : Int) (x23 : Int) (x24 : ze) (x59 : Int) (sg6 : σ) (x69 : Int) (x70 : ze) : Option (LR σ σ) :=
 bif x70.Kind != 2 then (
  some (.next sg6))
 else (
  bif x70.Channel != x24.Channel then (
   some (.next sg6))
  else (
   bif x70.Message != x24.Message then (
    some (.next sg6))
   else (
    Option.bind (idx (y8.toL x1.states_) x16) fun cell =>
    Option.bind (some (y8.setI x1.states_ x16 x24.To)) fun arr =>
    Option.bind (idx (y8.toL arr) x59) fun cell1 =>
    Option.bind (some (y8.setI arr x59 x70.To)) fun arr1 =>
    Option.bind (yy sg6 ((z8.mk x16 x23 x59 x69), (zb.mk arr1 x1.queues_))) fun yr1 =>
    bif !yr1.2 then (
     some (.done yr1.1))
    else (
     some (.next yr1.1)))))
def yW {σ : Type} (x0 : za) (x1 : zb) (yy : σ → (z8 × zb) → Option (σ × Bool)) (x16 : Int) (x23 : Int) (x24 : ze) (sg4 : σ) (x59 : Int) : Option (LR (σ × Int) (σ ⊕ σ)) :=
 bif decide (x59 < ((x0.Parts.length : Nat) : Int)) then (
  bif x59 == x16 then (
   wn x59 sg4)
  else (
   Option.bind (wc x0 x1 x59) fun r_3 =>
   Option.bind (yn r_3.1 r_3.2.1 r_3.2.2 (yOf (fun s x => yX x1 yy x16 x23 x24 x59 s x.1 x.2)) (.next sg4)) fun t6 =>
   match t6 with
   | .next sg6 => (
    wn x59 sg6)
   | .done sg6 => (
    some (.done (.inr sg6)))))
 else (
  some (.done (.inl sg4)))
def yY {σ : Type} (x0 : za) (x1 : zb) (yy : σ → (z8 × zb) → Option (σ × Bool)) (x16 : Int) (sg3 : σ) (x23 : Int) (x24 : ze) : Option (LR σ σ) :=
 Option.bind (xD x0 x1 x16 x24) fun r_1 =>
 Option.bind (JG r_1.2 true) fun r_2 =>
 bif !r_2 then (
  Option.bind (yy sg3 ((z8.mk x16 x23 (-1) (-1)), r_1.1)) fun yr =>
  bif !yr.2 then (
   some (.done yr.1))
  else (
   some (.next yr.1)))
 else (
  bif x24.Kind != 1 then (
   some (.next sg3))
  else (
   Option.bind (idx x0.Channels x24.Channel) fun Channel_e =>
   bif decide (Channel_e > 0) then (
    some (.next sg3))
   else (
    Option.bind (loop (fun s => yW x0 x1 yy x16 x23 x24 s.1 s.2) (sg3, 0)) fun t4 =>
    match t4 with
    | .inl p => some (.next p)
    | .inr p => some (.done p))))
def xw {σ : Type} (x0 : za) (x1 : zb) (yy : σ → (z8 × zb) → Option (σ × Bool)) (sg1 : σ) (x16 : Int) : Option (LR (σ × Int) σ) :=
 bif decide (x16 < ((x0.Parts.length : Nat) : Int)) then (
  Option.bind (wc x0 x1 x16) fun r_ =>
  Option.bind (yn r_.1 r_.2.1 r_.2.2 (yOf (fun s x => yY x0 x1 yy x16 s x.1 x.2)) (.next sg1)) fun t3 =>
  match t3 with
  | .next sg3 => (
   vD x16 sg3)
  | .done sg3 => (
   some (.done sg3)))
 else (
  some (.done sg1))
def xv (x0 : za) (x1 : zb) {σ : Type} (yy : σ → (z8 × zb) → Option (σ × Bool)) (sg : σ) : Option σ :=
 Option.bind (loop (fun s => xw x0 x1 yy s.1 s.2) (sg, 0)) fun t1 =>
 some t1
def yb (s_ : List z6) : Option (List z6) :=
 gd ((0 : Int) ≤ 0 ∧ (0 : Int) ≤ ((s_.length : Nat) : Int) ∧ (((s_.length : Nat) : Int) : Int) ≤ ((s_.length : Nat) : Int) ∧ (((s_.length : Nat) : Int) : Int) ≤ ((s_.length : Nat) : Int)) <|
 some ((s_.drop 0).take (((s_.length : Nat) : Int).toNat - 0))
def yi (s_ : List (List z6)) : Option (List (List z6)) :=
 some s_
def ud (x4 : Int) (list : List zb) (steps : List (List z6)) : Option (List zb × List (List z6) × Int) :=
 Option.bind (yi steps) fun r_ =>
 some (list, r_, 0)
def wP (i_ : Int) (x42 : Int) (list2 : List zb) (at_1 : List (zb × Int)) (steps2 : List (List z6)) : Option (LR (Int × List zb × (List (zb × Int)) × List (List z6) × Int) ((Int × List zb × List (List z6)) ⊕ (List zb × List (List z6) × Int))) :=
 some (.next (x42, list2, at_1, steps2, w64 (i_ + 1)))
def xW (steps1 : List (List z6)) (i_ : Int) (x43 : Int) (list3 : List zb) (at_2 : List (zb × Int)) (l_ : List z6) : Option (LR (Int × List zb × (List (zb × Int)) × List (List z6) × Int) ((Int × List zb × List (List z6)) ⊕ (List zb × List (List z6) × Int))) :=
 Option.bind (yb l_) fun r_1 =>
 gd (steps1.length + ([r_1] : List (List z6)).length ≤ 4294967296) <|
 wP i_ x43 list3 at_2 (steps1 ++ ([r_1] : List (List z6)))
def xk (x44 : Int) (l_1 : List z6) (x31 : z8) (list5 : List zb) (at_4 : List (zb × Int)) (n_ : Int) : Option (LR (Int × List zb × (List (zb × Int)) × List z6) ((Int × List zb × (List (zb × Int)) × List z6))) :=
 gd (l_1.length + ([(z6.mk x31 n_)] : List z6).length ≤ 4294967296) <|
 some (.next (x44, list5, at_4, (l_1 ++ ([(z6.mk x31 n_)] : List z6))))
def zL (x44 : Int) (list4 : List zb) (at_3 : List (zb × Int)) (l_1 : List z6) (x31 : z8) (x32 : zb) : Option (LR (Int × List zb × (List (zb × Int)) × List z6) ((Int × List zb × (List (zb × Int)) × List z6))) :=
 Option.bind (some ((JV at_3 x32).getD 0)) fun val =>
 bif !((JV at_3 x32).isSome) then (
  bif ((list4.length : Nat) : Int) == 1024 then (
   some (.done (3, list4, at_3, l_1)))
  else (
   gd (list4.length + ([x32] : List zb).length ≤ 4294967296) <|
   xk x44 l_1 x31 (list4 ++ ([x32] : List zb)) (JU at_3 x32 ((list4.length : Nat) : Int)) ((list4.length : Nat) : Int)))
 else (
  xk x44 l_1 x31 list4 at_3 val)
def xV (x_ : za) (x41 : Int) (list1 : List zb) (at_ : List (zb × Int)) (steps1 : List (List z6)) (i_ : Int) : Option (LR (Int × List zb × (List (zb × Int)) × List (List z6) × Int) ((Int × List zb × List (List z6)) ⊕ (List zb × List (List z6) × Int))) :=
 bif decide (i_ < ((list1.length : Nat) : Int)) then (
  Option.bind (idx list1 i_) fun list_e =>
  Option.bind (vK x_ list_e) fun r_2 =>
  Option.bind (xv r_2.1 r_2.2 (yOf (fun s x => zL s.1 s.2.1 s.2.2.1 s.2.2.2 x.1 x.2)) (.next (x41, list1, at_, ([] : List z6)))) fun t5 =>
  match t5 with
  | .next (x44, list4, at_3, l_1) => (
   xW steps1 i_ x44 list4 at_3 l_1)
  | .done (x44, list4, at_3, l_1) => (
   some (.done (.inr (([] : List zb), ([] : List (List z6)), x44)))))
 else (
  some (.done (.inl (x41, list1, steps1))))
def yj (x_ : za) : Option (List zb × List (List z6) × Int) :=
 Option.bind (loop (fun s => xV x_ s.1 s.2.1 s.2.2.1 s.2.2.2.1 s.2.2.2.2) (0, ([(zb.mk (y8.mk 0 0 0 0) (y8.mk (zi.mk 0 (y8.mk 0 0 0 0)) (zi.mk 0 (y8.mk 0 0 0 0)) (zi.mk 0 (y8.mk 0 0 0 0)) (zi.mk 0 (y8.mk 0 0 0 0))))] : List zb), (JU ([] : List (zb × Int)) (zb.mk (y8.mk 0 0 0 0) (y8.mk (zi.mk 0 (y8.mk 0 0 0 0)) (zi.mk 0 (y8.mk 0 0 0 0)) (zi.mk 0 (y8.mk 0 0 0 0)) (zi.mk 0 (y8.mk 0 0 0 0)))) 0), ([] : List (List z6)), 0)) fun t2 =>
 match t2 with
 | .inl p => ud p.1 p.2.1 p.2.2
 | .inr p => some p
def w7 (s_ : List Int) : Option (List Int) :=
 gd (([] : List Int).length + s_.length ≤ 4294967296) <|
 some s_
def wk (s_ : List Int) : Option (List Int) :=
 gd ((0 : Int) ≤ 0 ∧ (0 : Int) ≤ ((s_.length : Nat) : Int) ∧ (((s_.length : Nat) : Int) : Int) ≤ ((s_.length : Nat) : Int) ∧ (((s_.length : Nat) : Int) : Int) ≤ ((s_.length : Nat) : Int)) <|
 some ((s_.drop 0).take (((s_.length : Nat) : Int).toNat - 0))
def vQ (r_1 : List Int) (c_Queues : List (List Int)) : Option z7 :=
 some (z7.mk r_1 c_Queues)
def xc (x_ : za) (s_ : zb) (c_Queues1 : List (List Int)) (x23 : Int) : Option (LR (List (List Int) × Int) (List (List Int))) :=
 bif decide (x23 < (((List.replicate ((x_.Channels.length : Nat) : Int).toNat ([] : List Int)).length : Nat) : Int)) then (
  Option.bind (idx (y8.toL s_.queues_) x23) fun cell =>
  gd ((0 : Int) ≤ cell.many_ ∧ (cell.many_ : Int) ≤ (([cell.l_.e0, cell.l_.e1, cell.l_.e2, cell.l_.e3].length : Nat) : Int)) <|
  Option.bind (w7 ([cell.l_.e0, cell.l_.e1, cell.l_.e2, cell.l_.e3].take cell.many_.toNat)) fun r_2 =>
  Option.bind (wk r_2) fun r_3 =>
  Option.bind (idx c_Queues1 x23) fun c_Queue_e =>
  some (.next ((c_Queues1.set x23.toNat r_3), w64 (x23 + 1))))
 else (
  some (.done c_Queues1))
def xe (x_ : za) (s_ : zb) : Option z7 :=
 gd ((0 : Int) ≤ ((x_.Parts.length : Nat) : Int) ∧ (((x_.Parts.length : Nat) : Int) : Int) ≤ (([s_.states_.e0, s_.states_.e1, s_.states_.e2, s_.states_.e3].length : Nat) : Int)) <|
 Option.bind (w7 ([s_.states_.e0, s_.states_.e1, s_.states_.e2, s_.states_.e3].take ((x_.Parts.length : Nat) : Int).toNat)) fun r_ =>
 Option.bind (wk r_) fun r_1 =>
 gd ((0 : Int) ≤ ((x_.Channels.length : Nat) : Int) ∧ (((x_.Channels.length : Nat) : Int) : Int) ≤ 4294967296) <|
 Option.bind (loop (fun s => xc x_ s_ s.1 s.2) ((List.replicate ((x_.Channels.length : Nat) : Int).toNat ([] : List Int)), 0)) fun t2 =>
 vQ r_1 t2
def x5 (s_ : List z7) : Option (List z7) :=
 gd ((0 : Int) ≤ 0 ∧ (0 : Int) ≤ ((s_.length : Nat) : Int) ∧ (((s_.length : Nat) : Int) : Int) ≤ ((s_.length : Nat) : Int) ∧ (((s_.length : Nat) : Int) : Int) ≤ ((s_.length : Nat) : Int)) <|
 some ((s_.drop 0).take (((s_.length : Nat) : Int).toNat - 0))
def kD (r_1 : List zb × List (List z6) × Int) (out : List z7) : Option (List z7 × List (List z6) × Int) :=
 Option.bind (x5 out) fun r_2 =>
 some (r_2, r_1.2.1, 0)
def kC (x_ : za) (r_1 : List zb × List (List z6) × Int) (out1 : List z7) (x28 : Int) : Option (LR (List z7 × Int) (List z7)) :=
 bif decide (x28 < ((r_1.1.length : Nat) : Int)) then (
  Option.bind (idx r_1.1 x28) fun u_ =>
  Option.bind (xe x_ u_) fun r_3 =>
  gd (out1.length + ([r_3] : List z7).length ≤ 4294967296) <|
  some (.next ((out1 ++ ([r_3] : List z7)), w64 (x28 + 1))))
 else (
  some (.done out1))
def kT (x_ : za) : Option (List z7 × List (List z6) × Int) :=
 Option.bind (uh x_) fun r_ =>
 bif r_ != 0 then (
  some (([] : List z7), ([] : List (List z6)), r_))
 else (
  Option.bind (yj x_) fun r_1 =>
  bif r_1.2.2 != 0 then (
   some (([] : List z7), ([] : List (List z6)), r_1.2.2))
  else (
   Option.bind (loop (fun s => kC x_ r_1 s.1 s.2) (([] : List z7), 0)) fun t2 =>
   kD r_1 t2))
def vq (a_ : Int) (b_ : Int) (queue : List Int) : Option z7 :=
 some (z7.mk ([a_, b_]) ([queue]))
def uN (part : Int) (arc : Int) : Option z8 :=
 some (z8.mk part arc (-1) (-1))
def Yl : Option Int :=
 some 1
def Yk (i_ : Int) (x74 : List z6) (x75 : List z6) (x76 : Int) (x79 : List z6) (x80 : List z6) (x81 : Int) (x82 : Bool) : Option (LR Int (Unit ⊕ Int)) :=
 some (.next (w64 (i_ + 1)))
def Yi (s_ : List (List z6)) (steps : List (List z6)) (i_ : Int) (s__e1 : List z6) (s__e2 : List z6) (k_ : Int) : Option (LR Int ((List z6 × List z6 × Int × List z6 × List z6 × Int × Bool) ⊕ Int)) :=
 Option.bind (idx s_ i_) fun s__e3 =>
 bif decide (k_ < ((s__e3.length : Nat) : Int)) then (
  Option.bind (idx s_ i_) fun s__e4 =>
  Option.bind (idx s__e4 k_) fun s__e_e =>
  Option.bind (idx steps i_) fun step_e1 =>
  Option.bind (idx step_e1 k_) fun step_e_e =>
  bif !((s__e_e.Move.Part == step_e_e.Move.Part) && ((s__e_e.Move.Arc == step_e_e.Move.Arc) && ((s__e_e.Move.Other == step_e_e.Move.Other) && ((s__e_e.Move.With == step_e_e.Move.With) && ((s__e_e.To == step_e_e.To) && true))))) then (
   some (.done (.inr 0)))
  else (
   some (.next (w64 (k_ + 1)))))
 else (
  some (.done (.inl (s__e1, s__e1, ((s__e1.length : Nat) : Int), s__e2, s__e2, ((s__e2.length : Nat) : Int), ((s__e1.length : Nat) : Int) != ((s__e2.length : Nat) : Int)))))
def Yj (s_ : List (List z6)) (steps : List (List z6)) (i_ : Int) : Option (LR Int (Unit ⊕ Int)) :=
 bif decide (i_ < ((s_.length : Nat) : Int)) then (
  Option.bind (idx s_ i_) fun s__e =>
  Option.bind (idx steps i_) fun step_e =>
  bif ((s__e.length : Nat) : Int) != ((step_e.length : Nat) : Int) then (
   some (.done (.inr 0)))
  else (
   Option.bind (idx s_ i_) fun s__e1 =>
   Option.bind (idx s_ i_) fun s__e2 =>
   bif ((s__e1.length : Nat) : Int) != ((s__e2.length : Nat) : Int) then (
    some (.done (.inr 0)))
   else (
    Option.bind (loop (fun s => Yi s_ steps i_ s__e1 s__e2 s) 0) fun t5 =>
    match t5 with
    | .inl p => Yk i_ p.1 p.2.1 p.2.2.1 p.2.2.2.1 p.2.2.2.2.1 p.2.2.2.2.2.1 p.2.2.2.2.2.2
    | .inr p => some (.done (.inr p)))))
 else (
  some (.done (.inl ())))
def Ym (s_ : List (List z6)) (steps : List (List z6)) : Option Int :=
 Option.bind (loop (fun s => Yj s_ steps s) 0) fun t3 =>
 match t3 with
 | .inl p => Yl
 | .inr p => some p
def Yh (c_ : List z7) (list : List z7) (i_1 : Int) : Option (LR Int (Unit ⊕ Int)) :=
 bif decide (i_1 < ((c_.length : Nat) : Int)) then (
  Option.bind (idx c_ i_1) fun c__e =>
  Option.bind (idx list i_1) fun list_e =>
  Option.bind (uI c__e list_e) fun r_ =>
  bif r_ == 0 then (
   some (.done (.inr 0)))
  else (
   some (.next (w64 (i_1 + 1)))))
 else (
  some (.done (.inl ())))
def X2 (c_ : List z7) (s_ : List (List z6)) (list : List z7) (steps : List (List z6)) : Option Int :=
 bif ((c_.length : Nat) : Int) != ((list.length : Nat) : Int) then (
  some 0)
 else (
  bif ((s_.length : Nat) : Int) != ((steps.length : Nat) : Int) then (
   some 0)
  else (
   bif ((c_.length : Nat) : Int) != ((c_.length : Nat) : Int) then (
    some 0)
   else (
    bif ((s_.length : Nat) : Int) != ((s_.length : Nat) : Int) then (
     some 0)
    else (
     Option.bind (loop (fun s => Yh c_ list s) 0) fun t6 =>
     match t6 with
     | .inl p => Ym s_ steps
     | .inr p => some p))))
def qG (x_ : Int) : Option Bool :=
 some (x_ != x_)
def XZ (x_ : Int) (y_ : Int) : Option Bool :=
 Option.bind (qG x_) fun r_ =>
 bif r_ then (
  Option.bind (qG y_) fun r_1 =>
  bif !r_1 then (
   some true)
  else (
   some (decide (x_ < y_))))
 else (
  some (decide (x_ < y_)))
def j4 (x_ : Int) : Option Bool :=
 some (x_ != x_)
def wt (x_ : List Int) (target : Int) (i_ : Int) : Option (Int × Bool) :=
 bif decide (i_ < ((x_.length : Nat) : Int)) then (
  Option.bind (idx x_ i_) fun x__e =>
  bif x__e == target then (
   some (i_, true))
  else (
   Option.bind (idx x_ i_) fun x__e1 =>
   Option.bind (j4 x__e1) fun r_ =>
   bif r_ then (
    Option.bind (j4 target) fun r_1 =>
    some (i_, r_1))
   else (
    some (i_, false))))
 else (
  some (i_, false))
def ws (x_ : List Int) (target : Int) (i_1 : Int) (j_ : Int) : Option (LR (Int × Int) Int) :=
 bif decide (i_1 < j_) then (
  Option.bind (idx x_ (w64 (Int.fdiv (IntKind.u64.wrap (w64 (i_1 + j_))) (2 ^ 1)))) fun x__e2 =>
  Option.bind (XZ x__e2 target) fun r_2 =>
  bif r_2 then (
   some (.next (w64 ((w64 (Int.fdiv (IntKind.u64.wrap (w64 (i_1 + j_))) (2 ^ 1))) + 1), j_)))
  else (
   some (.next (i_1, w64 (Int.fdiv (IntKind.u64.wrap (w64 (i_1 + j_))) (2 ^ 1))))))
 else (
  some (.done i_1))
def wW (x_ : List Int) (target : Int) : Option (Int × Bool) :=
 Option.bind (loop (fun s => ws x_ target s.1 s.2) (0, ((x_.length : Nat) : Int))) fun t2 =>
 wt x_ target t2
def jP (x_ : Int) : Option Bool :=
 some (x_ != x_)
def k9 (x_ : Int) (y_ : Int) : Option Int :=
 Option.bind (jP x_) fun r_ =>
 Option.bind (jP y_) fun r_1 =>
 bif r_ then (
  bif r_1 then (
   some 0)
  else (
   some (-1)))
 else (
  bif r_1 then (
   some 1)
  else (
   bif decide (x_ < y_) then (
    some (-1))
   else (
    bif decide (x_ > y_) then (
     some 1)
    else (
     some 0))))
def jQ (x_ : Int) (y_ : Int) : Option Int :=
 Option.bind (qG x_) fun r_ =>
 Option.bind (qG y_) fun r_1 =>
 bif r_ then (
  bif r_1 then (
   some 0)
  else (
   some (-1)))
 else (
  bif r_1 then (
   some 1)
  else (
   bif decide (x_ < y_) then (
    some (-1))
   else (
    bif decide (x_ > y_) then (
     some 1)
    else (
     some 0))))
def X9 : Option Int :=
 some 0
def X8 (vals : List Int) (x8 : Int) : Option (LR Int (Unit ⊕ Int)) :=
 bif decide (x8 < ((vals.length : Nat) : Int)) then (
  Option.bind (idx vals x8) fun val_e =>
  bif val_e != 0 then (
   some (.done (.inr val_e)))
  else (
   some (.next (w64 (x8 + 1)))))
 else (
  some (.done (.inl ())))
def VZ (vals : List Int) : Option Int :=
 Option.bind (loop (fun s => X8 vals s) 0) fun t2 =>
 match t2 with
 | .inl p => X9
 | .inr p => some p
def jY (a_ : zf) (b_ : zf) : Option Int :=
 Option.bind (k9 a_.Kind b_.Kind) fun r_ =>
 Option.bind (jQ a_.Label b_.Label) fun r_1 =>
 Option.bind (jQ a_.To b_.To) fun r_2 =>
 Option.bind (VZ ([r_, r_1, r_2])) fun r_3 =>
 some r_3
def xu (s_ : List zf) : Option (List zf) :=
 some s_
def xr (k_ : Int) : Option (LR Int (Unit ⊕ List zf)) :=
 some (.next (w64 (k_ + 1)))
def xq (s_1 : List zf) (k_1 : Int) : Option (LR Int (Unit ⊕ List zf)) :=
 gd ((0 : Int) ≤ k_1 ∧ (k_1 : Int) ≤ ((s_1.length : Nat) : Int)) <|
 gd ((0 : Int) ≤ k_1 ∧ (k_1 : Int) ≤ ((s_1.length : Nat) : Int)) <|
 gd ((0 : Int) ≤ k_1 ∧ (k_1 : Int) ≤ (((s_1.take k_1.toNat ++ List.replicate (s_1.length - k_1.toNat) (zf.mk 0 0 0)).length : Nat) : Int)) <|
 some (.done (.inr ((s_1.take k_1.toNat ++ List.replicate (s_1.length - k_1.toNat) (zf.mk 0 0 0)).take k_1.toNat)))
def yz (k2 : Int) (s_3 : List zf) (k_3 : Int) : Option (LR (List zf × Int × Int) ((List zf × Int))) :=
 some (.next (s_3, k_3, w64 (k2 + 1)))
def xo (k_ : Int) (s_2 : List zf) (k_2 : Int) (k2 : Int) : Option (LR (List zf × Int × Int) ((List zf × Int))) :=
 bif decide (k2 < ((s_2.length - k_.toNat : Nat) : Int)) then (
  gd ((0 : Int) ≤ k_ ∧ (0 : Int) ≤ k2) <|
  Option.bind (idx s_2 (k_ + k2)) fun s__e2 =>
  gd ((0 : Int) ≤ k_ ∧ (0 : Int) ≤ w64 (k2 - 1)) <|
  Option.bind (idx s_2 (k_ + (w64 (k2 - 1)))) fun s__e3 =>
  bif !((s__e2.Kind == s__e3.Kind) && ((s__e2.Label == s__e3.Label) && ((s__e2.To == s__e3.To) && true))) then (
   gd ((0 : Int) ≤ k_ ∧ (0 : Int) ≤ k2) <|
   Option.bind (idx s_2 (k_ + k2)) fun s__e4 =>
   Option.bind (idx s_2 k_2) fun s__e5 =>
   yz k2 (s_2.set k_2.toNat s__e4) (w64 (k_2 + 1)))
  else (
   yz k2 s_2 k_2))
 else (
  some (.done (s_2, k_2)))
def xp (s_ : List zf) (k_ : Int) : Option (LR Int (Unit ⊕ List zf)) :=
 bif decide (k_ < ((s_.length : Nat) : Int)) then (
  Option.bind (idx s_ k_) fun s__e =>
  Option.bind (idx s_ (w64 (k_ - 1))) fun s__e1 =>
  bif (s__e.Kind == s__e1.Kind) && ((s__e.Label == s__e1.Label) && ((s__e.To == s__e1.To) && true)) then (
   gd ((0 : Int) ≤ k_ ∧ (k_ : Int) ≤ ((s_.length : Nat) : Int)) <|
   Option.bind (loop (fun s => xo k_ s.1 s.2.1 s.2.2) (s_, k_, 1)) fun t5 =>
   xq t5.1 t5.2)
  else (
   xr k_))
 else (
  some (.done (.inl ())))
def xO (s_ : List zf) : Option (List zf) :=
 bif decide (((s_.length : Nat) : Int) < 2) then (
  some s_)
 else (
  Option.bind (loop (fun s => xp s_ s) 1) fun t2 =>
  match t2 with
  | .inl p => xu s_
  | .inr p => some p)
def wj (s_ : List zf) : Option (List zf) :=
 gd ((0 : Int) ≤ 0 ∧ (0 : Int) ≤ ((s_.length : Nat) : Int) ∧ (((s_.length : Nat) : Int) : Int) ≤ ((s_.length : Nat) : Int) ∧ (((s_.length : Nat) : Int) : Int) ≤ ((s_.length : Nat) : Int)) <|
 some ((s_.drop 0).take (((s_.length : Nat) : Int).toNat - 0))
def w9 (s_ : List (List zf)) : Option (List (List zf)) :=
 gd ((0 : Int) ≤ 0 ∧ (0 : Int) ≤ ((s_.length : Nat) : Int) ∧ (((s_.length : Nat) : Int) : Int) ≤ ((s_.length : Nat) : Int) ∧ (((s_.length : Nat) : Int) : Int) ≤ ((s_.length : Nat) : Int)) <|
 some ((s_.drop 0).take (((s_.length : Nat) : Int).toNat - 0))
def jz (x_ : za) (out_Rows : List (List zf)) : Option (zG × Int) :=
 Option.bind (w9 out_Rows) fun r_3 =>
 some ((zG.mk 0 x_.Labels r_3), 0)
def jy (x51 : Int) (out_Rows2 : List (List zf)) : Option (LR (List (List zf) × Int) (List (List zf) ⊕ (zG × Int))) :=
 some (.next (out_Rows2, w64 (x51 + 1)))
def jx (out_Rows1 : List (List zf)) (x51 : Int) (row : List zf) : Option (LR (List (List zf) × Int) (List (List zf) ⊕ (zG × Int))) :=
 Option.bind (z8q (fun x y => jY x y) row) fun sorted =>
 Option.bind (xO sorted) fun r_4 =>
 Option.bind (wj r_4) fun r_5 =>
 bif decide (((r_5.length : Nat) : Int) > 256) then (
  some (.done (.inr ((zG.mk 0 0 []), 3))))
 else (
  gd (out_Rows1.length + ([r_5] : List (List zf)).length ≤ 4294967296) <|
  jy x51 (out_Rows1 ++ ([r_5] : List (List zf))))
def vm (row1 : List zf) (x57 : Int) (u__e : z6) (arc_Kind : Int) (arc_Label : Int) : Option (LR (List zf × Int) (List zf)) :=
 gd (row1.length + ([(zf.mk arc_Kind arc_Label u__e.To)] : List zf).length ≤ 4294967296) <|
 some (.next ((row1 ++ ([(zf.mk arc_Kind arc_Label u__e.To)] : List zf)), w64 (x57 + 1)))
def jv (x_ : za) (hidden : List Int) (u_ : List z6) (row1 : List zf) (x57 : Int) : Option (LR (List zf × Int) (List zf)) :=
 bif decide (x57 < ((u_.length : Nat) : Int)) then (
  Option.bind (idx u_ x57) fun u__e =>
  Option.bind (idx x_.Parts u__e.Move.Part) fun Part_e =>
  Option.bind (idx Part_e.Arcs u__e.Move.Arc) fun Arc_e =>
  Option.bind (wW hidden Arc_e.Message) fun r_6 =>
  bif Arc_e.Kind == 0 then (
   bif !r_6.2 then (
    vm row1 x57 u__e 2 Arc_e.Message)
   else (
    vm row1 x57 u__e 0 0))
  else (
   vm row1 x57 u__e 0 0))
 else (
  some (.done row1))
def jw (x_ : za) (hidden : List Int) (r_2 : List zb × List (List z6) × Int) (out_Rows1 : List (List zf)) (x51 : Int) : Option (LR (List (List zf) × Int) (List (List zf) ⊕ (zG × Int))) :=
 bif decide (x51 < ((r_2.2.1.length : Nat) : Int)) then (
  Option.bind (idx r_2.2.1 x51) fun u_ =>
  Option.bind (loop (fun s => jv x_ hidden u_ s.1 s.2) (([] : List zf), 0)) fun t5 =>
  jx out_Rows1 x51 t5)
 else (
  some (.done (.inl out_Rows1)))
def jA (x_ : za) (hidden : List Int) : Option (zG × Int) :=
 Option.bind (uh x_) fun r_ =>
 bif r_ != 0 then (
  some ((zG.mk 0 0 []), r_))
 else (
  Option.bind (uG hidden x_.Labels) fun r_1 =>
  bif !r_1 then (
   some ((zG.mk 0 0 []), 1))
  else (
   Option.bind (yj x_) fun r_2 =>
   bif r_2.2.2 != 0 then (
    some ((zG.mk 0 0 []), r_2.2.2))
   else (
    bif decide (((r_2.1.length : Nat) : Int) > 64) then (
     some ((zG.mk 0 0 []), 3))
    else (
     Option.bind (loop (fun s => jw x_ hidden r_2 s.1 s.2) (([] : List (List zf)), 0)) fun t2 =>
     match t2 with
     | .inl p => jz x_ p
     | .inr p => some p))))
def kL : Option Int :=
 some 1
def kK (i_ : Int) : Option (LR Int (Unit ⊕ Int)) :=
 some (.next (w64 (i_ + 1)))
def kI (a_ : zG) (b_ : zG) (i_ : Int) (k_ : Int) : Option (LR Int (Unit ⊕ Int)) :=
 Option.bind (idx a_.Rows i_) fun Row_e2 =>
 bif decide (k_ < ((Row_e2.length : Nat) : Int)) then (
  Option.bind (idx a_.Rows i_) fun Row_e3 =>
  Option.bind (idx Row_e3 k_) fun Row_e_e =>
  Option.bind (idx b_.Rows i_) fun Row_e4 =>
  Option.bind (idx Row_e4 k_) fun Row_e_e1 =>
  bif !((Row_e_e.Kind == Row_e_e1.Kind) && ((Row_e_e.Label == Row_e_e1.Label) && ((Row_e_e.To == Row_e_e1.To) && true))) then (
   some (.done (.inr 0)))
  else (
   some (.next (w64 (k_ + 1)))))
 else (
  some (.done (.inl ())))
def kJ (a_ : zG) (b_ : zG) (i_ : Int) : Option (LR Int (Unit ⊕ Int)) :=
 bif decide (i_ < ((a_.Rows.length : Nat) : Int)) then (
  Option.bind (idx a_.Rows i_) fun Row_e =>
  Option.bind (idx b_.Rows i_) fun Row_e1 =>
  bif ((Row_e.length : Nat) : Int) != ((Row_e1.length : Nat) : Int) then (
   some (.done (.inr 0)))
  else (
   Option.bind (loop (fun s => kI a_ b_ i_ s) 0) fun t4 =>
   match t4 with
   | .inl p => kK i_
   | .inr p => some (.done (.inr p))))
 else (
  some (.done (.inl ())))
def kY (a_ : zG) (b_ : zG) : Option Int :=
 bif a_.Inputs != b_.Inputs then (
  some 0)
 else (
  bif a_.Outputs != b_.Outputs then (
   some 0)
  else (
   bif ((a_.Rows.length : Nat) : Int) != ((b_.Rows.length : Nat) : Int) then (
    some 0)
   else (
    Option.bind (loop (fun s => kJ a_ b_ s) 0) fun t2 =>
    match t2 with
    | .inl p => kL
    | .inr p => some p)))
def uo : Option Int :=
 some (-1)
def xY (s_ : List Int) (v_ : Int) (x8 : Int) : Option (LR Int (Unit ⊕ Int)) :=
 bif decide (x8 < ((s_.length : Nat) : Int)) then (
  Option.bind (idx s_ x8) fun s__e =>
  bif v_ == s__e then (
   some (.done (.inr x8)))
  else (
   some (.next (w64 (x8 + 1)))))
 else (
  some (.done (.inl ())))
def vL (s_ : List Int) (v_ : Int) : Option Int :=
 Option.bind (loop (fun s => xY s_ v_ s) 0) fun t2 =>
 match t2 with
 | .inl p => uo
 | .inr p => some p
def xZ (s_ : List Int) (v_ : Int) : Option Bool :=
 Option.bind (vL s_ v_) fun r_ =>
 some (decide (r_ ≥ 0))
def xU (s_ : zb) : Option Bool :=
 some ((s_.queues_.e0.many_ == 0) && ((s_.queues_.e0.l_.e0 == 0) && ((s_.queues_.e0.l_.e1 == 0) && ((s_.queues_.e0.l_.e2 == 0) && ((s_.queues_.e0.l_.e3 == 0) && ((s_.queues_.e1.many_ == 0) && ((s_.queues_.e1.l_.e0 == 0) && ((s_.queues_.e1.l_.e1 == 0) && ((s_.queues_.e1.l_.e2 == 0) && ((s_.queues_.e1.l_.e3 == 0) && ((s_.queues_.e2.many_ == 0) && ((s_.queues_.e2.l_.e0 == 0) && ((s_.queues_.e2.l_.e1 == 0) && ((s_.queues_.e2.l_.e2 == 0) && ((s_.queues_.e2.l_.e3 == 0) && ((s_.queues_.e3.many_ == 0) && ((s_.queues_.e3.l_.e0 == 0) && ((s_.queues_.e3.l_.e1 == 0) && ((s_.queues_.e3.l_.e2 == 0) && ((s_.queues_.e3.l_.e3 == 0) && true))))))))))))))))))))
def xT (x_ : za) (s_ : zb) (x10 : Int) : Option (LR Int (Unit ⊕ Bool)) :=
 bif decide (x10 < ((x_.Parts.length : Nat) : Int)) then (
  Option.bind (idx x_.Parts x10) fun Part_e =>
  Option.bind (idx (y8.toL s_.states_) x10) fun cell =>
  Option.bind (xZ Part_e.Final cell) fun r_ =>
  bif !r_ then (
   some (.done (.inr false)))
  else (
   some (.next (w64 (x10 + 1)))))
 else (
  some (.done (.inl ())))
def wL (x_ : za) (s_ : zb) : Option Bool :=
 Option.bind (loop (fun s => xT x_ s_ s) 0) fun t2 =>
 match t2 with
 | .inl p => xU s_
 | .inr p => some p
def zS (s_1 : List z8) (i_ : Int) (j_ : Int) : Option (LR (List z8 × Int × Int) (List z8)) :=
 bif decide (i_ < j_) then (
  Option.bind (idx s_1 j_) fun s__e =>
  Option.bind (idx s_1 i_) fun s__e1 =>
  Option.bind (idx s_1 i_) fun s__e2 =>
  Option.bind (idx (s_1.set i_.toNat s__e) j_) fun u_e =>
  some (.next (((s_1.set i_.toNat s__e).set j_.toNat s__e1), w64 (i_ + 1), w64 (j_ - 1))))
 else (
  some (.done s_1))
def y5 (s_ : List z8) : Option (List z8) :=
 Option.bind (loop (fun s => zS s.1 s.2.1 s.2.2) (s_, 0, w64 (((s_.length : Nat) : Int) - 1))) fun t1 =>
 some t1
def yc (s_ : List z8) : Option (List z8) :=
 gd ((0 : Int) ≤ 0 ∧ (0 : Int) ≤ ((s_.length : Nat) : Int) ∧ (((s_.length : Nat) : Int) : Int) ≤ ((s_.length : Nat) : Int) ∧ (((s_.length : Nat) : Int) : Int) ≤ ((s_.length : Nat) : Int)) <|
 some ((s_.drop 0).take (((s_.length : Nat) : Int).toNat - 0))
def j9 : Option (List z8 × z7 × Int) :=
 some (([] : List z8), (z7.mk [] []), 7)
def wV (x69 : Int) : Option (LR Int (Unit ⊕ (List z8 × z7 × Int))) :=
 some (.next (w64 (x69 + 1)))
def uf (x_ : za) (r_1 : List zb × List (List z6) × Int) (x69 : Int) (run : List z8) : Option (LR Int (Unit ⊕ (List z8 × z7 × Int))) :=
 Option.bind (y5 run) fun r_3 =>
 Option.bind (yc r_3) fun r_4 =>
 Option.bind (idx r_1.1 x69) fun u_2 =>
 Option.bind (xe x_ u_2) fun r_5 =>
 some (.done (.inr (r_4, r_5, 0)))
def wg (by_ : List zl) (run1 : List z8) (n_ : Int) : Option (LR (List z8 × Int) (List z8)) :=
 bif decide (n_ > 0) then (
  Option.bind (idx by_ n_) fun by__e =>
  gd (run1.length + ([by__e.move_] : List z8).length ≤ 4294967296) <|
  Option.bind (idx by_ n_) fun by__e1 =>
  some (.next ((run1 ++ ([by__e.move_] : List z8)), by__e1.from_)))
 else (
  some (.done run1))
def wU (x_ : za) (r_1 : List zb × List (List z6) × Int) (by_ : List zl) (x69 : Int) : Option (LR Int (Unit ⊕ (List z8 × z7 × Int))) :=
 bif decide (x69 < ((r_1.2.1.length : Nat) : Int)) then (
  Option.bind (idx r_1.2.1 x69) fun u_ =>
  bif decide (((u_.length : Nat) : Int) > 0) then (
   wV x69)
  else (
   Option.bind (idx r_1.1 x69) fun u_1 =>
   Option.bind (wL x_ u_1) fun r_2 =>
   bif r_2 then (
    wV x69)
   else (
    Option.bind (loop (fun s => wg by_ s.1 s.2) (([] : List z8), x69)) fun t6 =>
    uf x_ r_1 x69 t6)))
 else (
  some (.done (.inl ())))
def ug (x_ : za) (r_1 : List zb × List (List z6) × Int) (by_ : List zl) : Option (List z8 × z7 × Int) :=
 Option.bind (loop (fun s => wU x_ r_1 by_ s) 0) fun t3 =>
 match t3 with
 | .inl p => j9
 | .inr p => some p
def ue (x40 : Int) (by_2 : List zl) (seen1 : Int) : Option (LR (List zl × Int × Int) (List zl)) :=
 some (.next (by_2, seen1, w64 (x40 + 1)))
def wM (x47 : Int) (by_4 : List zl) (seen3 : Int) : Option (LR (List zl × Int × Int) ((List zl × Int))) :=
 some (.next (by_4, seen3, w64 (x47 + 1)))
def wd (x40 : Int) (u_3 : List z6) (by_3 : List zl) (seen2 : Int) (x47 : Int) : Option (LR (List zl × Int × Int) ((List zl × Int))) :=
 bif decide (x47 < ((u_3.length : Nat) : Int)) then (
  Option.bind (idx u_3 x47) fun u__e =>
  bif u__e.To == seen2 then (
   Option.bind (idx by_3 u__e.To) fun by__e2 =>
   wM x47 (by_3.set u__e.To.toNat (zl.mk x40 u__e.Move)) (w64 (seen2 + 1)))
  else (
   wM x47 by_3 seen2))
 else (
  some (.done (by_3, seen2)))
def we (r_1 : List zb × List (List z6) × Int) (by_1 : List zl) (seen : Int) (x40 : Int) : Option (LR (List zl × Int × Int) (List zl)) :=
 bif decide (x40 < ((r_1.2.1.length : Nat) : Int)) then (
  Option.bind (idx r_1.2.1 x40) fun u_3 =>
  Option.bind (loop (fun s => wd x40 u_3 s.1 s.2.1 s.2.2) (by_1, seen, 0)) fun t9 =>
  ue x40 t9.1 t9.2)
 else (
  some (.done by_1))
def wG (x_ : za) : Option (List z8 × z7 × Int) :=
 Option.bind (uh x_) fun r_ =>
 bif r_ != 0 then (
  some (([] : List z8), (z7.mk [] []), r_))
 else (
  Option.bind (yj x_) fun r_1 =>
  bif r_1.2.2 != 0 then (
   some (([] : List z8), (z7.mk [] []), r_1.2.2))
  else (
   gd ((0 : Int) ≤ ((r_1.1.length : Nat) : Int) ∧ (((r_1.1.length : Nat) : Int) : Int) ≤ 4294967296) <|
   Option.bind (loop (fun s => we r_1 s.1 s.2.1 s.2.2) ((List.replicate ((r_1.1.length : Nat) : Int).toNat (zl.mk 0 (z8.mk 0 0 0 0))), 1, 0)) fun t7 =>
   ug x_ r_1 t7))
def Yg : Option Int :=
 some 1
def qX (a_ : List z8) (b_ : List z8) (i_ : Int) : Option (LR Int (Unit ⊕ Int)) :=
 bif decide (i_ < ((a_.length : Nat) : Int)) then (
  Option.bind (idx a_ i_) fun a__e =>
  Option.bind (idx b_ i_) fun b__e =>
  bif !((a__e.Part == b__e.Part) && ((a__e.Arc == b__e.Arc) && ((a__e.Other == b__e.Other) && ((a__e.With == b__e.With) && true)))) then (
   some (.done (.inr 0)))
  else (
   some (.next (w64 (i_ + 1)))))
 else (
  some (.done (.inl ())))
def jd (a_ : List z8) (b_ : List z8) : Option Int :=
 bif ((a_.length : Nat) : Int) != ((b_.length : Nat) : Int) then (
  some 0)
 else (
  bif ((a_.length : Nat) : Int) != ((a_.length : Nat) : Int) then (
   some 0)
  else (
   Option.bind (loop (fun s => qX a_ b_ s) 0) fun t2 =>
   match t2 with
   | .inl p => Yg
   | .inr p => some p))
def k7 : Option Bool :=
 Option.bind (YA 1 ([(ze.mk 0 2 0 0 0)])) fun r_ =>
 Option.bind (kT r_) fun r_1 =>
 Option.bind (vq 0 0 []) fun r_2 =>
 Option.bind (vq 1 0 ([0])) fun r_3 =>
 Option.bind (vq 0 0 ([0])) fun r_4 =>
 Option.bind (vq 1 0 []) fun r_5 =>
 Option.bind (uN 0 0) fun r_6 =>
 Option.bind (uN 0 1) fun r_7 =>
 Option.bind (uN 1 0) fun r_8 =>
 Option.bind (uN 1 0) fun r_9 =>
 Option.bind (uN 0 1) fun r_10 =>
 bif r_1.2.2 != 0 then (
  some false)
 else (
  Option.bind (X2 r_1.1 r_1.2.1 ([r_2, r_3, r_4, r_5]) ([[(z6.mk r_6 1)], [(z6.mk r_7 2), (z6.mk r_8 3)], [(z6.mk r_9 0)], [(z6.mk r_10 0)]])) fun r_11 =>
  bif r_11 == 0 then (
   some false)
  else (
   Option.bind (jA r_ []) fun r_12 =>
   Option.bind (jA r_ ([0])) fun r_13 =>
   bif r_12.2 != 0 then (
    some false)
   else (
    bif r_13.2 != 0 then (
     some false)
    else (
     Option.bind (kY r_12.1 (zG.mk 0 1 ([[(zf.mk 0 0 1)], [(zf.mk 0 0 3), (zf.mk 2 0 2)], [(zf.mk 0 0 0)], [(zf.mk 2 0 0)]]))) fun r_14 =>
     Option.bind (kY r_13.1 (zG.mk 0 1 ([[(zf.mk 0 0 1)], [(zf.mk 0 0 2), (zf.mk 0 0 3)], [(zf.mk 0 0 0)], [(zf.mk 0 0 0)]]))) fun r_15 =>
     bif (w64 (r_14 * r_15)) == 0 then (
      some false)
     else (
      Option.bind (wG r_) fun r_16 =>
      Option.bind (YA 1 []) fun r_17 =>
      Option.bind (wG r_17) fun r_18 =>
      Option.bind (YA 0 ([(ze.mk 0 2 0 0 0)])) fun r_19 =>
      Option.bind (kT r_19) fun r_20 =>
      bif r_16.2.2 != 7 then (
       some false)
      else (
       bif r_18.2.2 != 0 then (
        some false)
       else (
        Option.bind (uN 0 0) fun r_21 =>
        Option.bind (uN 0 1) fun r_22 =>
        Option.bind (jd r_18.1 ([r_21, r_22])) fun r_23 =>
        bif r_23 == 0 then (
         some false)
        else (
         Option.bind (vq 0 0 ([0])) fun r_24 =>
         Option.bind (uI r_18.2.1 r_24) fun r_25 =>
         bif r_25 == 0 then (
          some false)
         else (
          bif r_20.2.2 != 0 then (
           some false)
          else (
           Option.bind (vq 0 0 []) fun r_26 =>
           Option.bind (vq 1 0 []) fun r_27 =>
           Option.bind (uN 0 1) fun r_28 =>
           Option.bind (X2 r_20.1 r_20.2.1 ([r_26, r_27]) ([[(z6.mk (z8.mk 0 0 1 0) 1)], [(z6.mk r_28 0)]])) fun r_29 =>
           some (r_29 == 1)))))))))))
def YX (out : List (List z8)) : Option (List (List z8)) :=
 some out
def kW (n_ : Int) (out2 : List (List z8)) : Option (LR (List (List z8) × Int) (List (List z8))) :=
 some (.next (out2, w64 (n_ + 1)))
def jL (i_ : Int) (out4 : List (List z8)) : Option (LR (List (List z8) × Int) (List (List z8))) :=
 some (.next (out4, w64 (i_ + 1)))
def qB (steps : List (List z6)) (n_ : Int) (out3 : List (List z8)) (i_ : Int) : Option (LR (List (List z8) × Int) (List (List z8))) :=
 Option.bind (idx steps n_) fun step_e =>
 bif decide (i_ < ((step_e.length : Nat) : Int)) then (
  Option.bind (idx steps n_) fun step_e1 =>
  Option.bind (idx step_e1 i_) fun step_e_e =>
  bif step_e_e.To == ((out3.length : Nat) : Int) then (
   Option.bind (idx out3 n_) fun out_e =>
   gd (([] : List z8).length + out_e.length ≤ 4294967296) <|
   Option.bind (idx steps n_) fun step_e2 =>
   Option.bind (idx step_e2 i_) fun step_e_e1 =>
   gd (out_e.length + ([step_e_e1.Move] : List z8).length ≤ 4294967296) <|
   gd (out3.length + ([(out_e ++ ([step_e_e1.Move] : List z8))] : List (List z8)).length ≤ 4294967296) <|
   jL i_ (out3 ++ ([(out_e ++ ([step_e_e1.Move] : List z8))] : List (List z8))))
  else (
   jL i_ out3))
 else (
  some (.done out3))
def qC (steps : List (List z6)) (out1 : List (List z8)) (n_ : Int) : Option (LR (List (List z8) × Int) (List (List z8))) :=
 bif decide (n_ < ((steps.length : Nat) : Int)) then (
  bif decide (n_ < ((out1.length : Nat) : Int)) then (
   Option.bind (loop (fun s => qB steps n_ s.1 s.2) (out1, 0)) fun t4 =>
   kW n_ t4)
  else (
   some (.done out1)))
 else (
  some (.done out1))
def Yv (steps : List (List z6)) : Option (List (List z8)) :=
 Option.bind (loop (fun s => qC steps s.1 s.2) (([[]] : List (List z8)), 0)) fun t2 =>
 YX t2
def XO : Option Int :=
 some 0
def kr (l_ : List Int) (n_ : Int) (i_ : Int) : Option (LR Int (Unit ⊕ Int)) :=
 bif decide (i_ < ((l_.length : Nat) : Int)) then (
  Option.bind (idx l_ i_) fun l__e =>
  bif l__e == n_ then (
   some (.done (.inr 1)))
  else (
   some (.next (w64 (i_ + 1)))))
 else (
  some (.done (.inl ())))
def XP (l_ : List Int) (n_ : Int) : Option Int :=
 Option.bind (loop (fun s => kr l_ n_ s) 0) fun t2 =>
 match t2 with
 | .inl p => XO
 | .inr p => some p
def Yc : Option Int :=
 some 1
def qR (c_ : z7) (i_ : Int) : Option (LR Int (Unit ⊕ Int)) :=
 bif decide (i_ < ((c_.Queues.length : Nat) : Int)) then (
  Option.bind (idx c_.Queues i_) fun Queue_e =>
  bif decide (((Queue_e.length : Nat) : Int) > 0) then (
   some (.done (.inr 0)))
  else (
   some (.next (w64 (i_ + 1)))))
 else (
  some (.done (.inl ())))
def qS (c_ : z7) : Option Int :=
 Option.bind (loop (fun s => qR c_ s) 0) fun t3 =>
 match t3 with
 | .inl p => Yc
 | .inr p => some p
def qQ (x_ : za) (c_ : z7) (i_1 : Int) : Option (LR Int (Unit ⊕ Int)) :=
 bif decide (i_1 < ((x_.Parts.length : Nat) : Int)) then (
  Option.bind (idx x_.Parts i_1) fun Part_e =>
  Option.bind (idx c_.States i_1) fun State_e =>
  Option.bind (XP Part_e.Final State_e) fun r_ =>
  bif r_ == 0 then (
   some (.done (.inr 0)))
  else (
   some (.next (w64 (i_1 + 1)))))
 else (
  some (.done (.inl ())))
def Zq (x_ : za) (c_ : z7) : Option Int :=
 Option.bind (loop (fun s => qQ x_ c_ s) 0) fun t4 =>
 match t4 with
 | .inl p => qS c_
 | .inr p => some p
def vV (r_3 : List z8 × z7 × Int) : Option Bool :=
 bif r_3.2.2 == 7 then (
  bif (w64 ((w64 (((r_3.1.length : Nat) : Int) + ((r_3.2.1.States.length : Nat) : Int))) + ((r_3.2.1.Queues.length : Nat) : Int))) == 0 then (
   Option.bind (k7) fun r_5 =>
   some r_5)
  else (
   some false))
 else (
  some false)
def xJ (n_ : Int) : Option (LR Int (Unit ⊕ Bool)) :=
 some (.next (w64 (n_ + 1)))
def xI (r_ : za) (r_1 : List z7 × List (List z6)) (r_3 : List z8 × z7 × Int) (r_4 : List (List z8)) (n_ : Int) : Option (LR Int (Unit ⊕ Bool)) :=
 bif decide (n_ < ((r_1.1.length : Nat) : Int)) then (
  Option.bind (idx r_1.2 n_) fun u_ =>
  bif ((u_.length : Nat) : Int) == 0 then (
   Option.bind (idx r_1.1 n_) fun u_1 =>
   Option.bind (Zq r_ u_1) fun r_6 =>
   bif r_6 == 0 then (
    bif r_3.2.2 == 0 then (
     Option.bind (idx r_4 n_) fun r__e =>
     Option.bind (jd r_3.1 r__e) fun r_7 =>
     bif r_7 == 1 then (
      Option.bind (idx r_1.1 n_) fun u_2 =>
      Option.bind (uI r_3.2.1 u_2) fun r_8 =>
      bif r_8 == 1 then (
       Option.bind (k7) fun r_9 =>
       some (.done (.inr r_9)))
      else (
       some (.done (.inr false))))
     else (
      some (.done (.inr false))))
    else (
     some (.done (.inr false))))
   else (
    xJ n_))
  else (
   xJ n_))
 else (
  some (.done (.inl ())))
def vt (x_ : yf) : Option Bool :=
 Option.bind (YB (yf.mk x_.Channels x_.Parts)) fun r_ =>
 Option.bind (Zs r_ 200) fun r_1 =>
 bif decide (((r_1.1.length : Nat) : Int) > 200) then (
  Option.bind (k7) fun r_2 =>
  some r_2)
 else (
  Option.bind (wG r_) fun r_3 =>
  Option.bind (Yv r_1.2) fun r_4 =>
  Option.bind (loop (fun s => xI r_ r_1 r_3 r_4 s) 0) fun t2 =>
  match t2 with
  | .inl p => vV r_3
  | .inr p => some p)
abbrev F0_ := XY (eI .i64)
abbrev F1_ := eSl 1 true (eI .i64)
abbrev F2_ := eSl 1 false (eI .i64)
abbrev F3_ := eOs 1 false (eI .i64)
abbrev F4_ := eSl 5 false (Xu (eI .u8))
abbrev F5_ := eSl 1 true F1_
abbrev F6_ := eSl 1 true F2_
abbrev F7_ := eSl 1 false F2_
abbrev F8_ := wI (eI .u8) (eI .i64) (eI .i64)
abbrev F9_ := yq (eI .i64) F0_
abbrev z9v := XY F9_
abbrev Vy := eSl 3 true F8_
abbrev wB := xh (eI .i64) (eI .i64) (eI .i64) (eI .i64)
abbrev Yt := eSl 3 false F8_
abbrev V4 := uE (eI .u8) (eI .u8) F4_
abbrev vN := xA (eI .i64) (eI .u8) (eI .i64) (eI .i64) (eI .i64)
abbrev zcw := eSl 1 true Yt
abbrev z3B := eSl 4 true wB
abbrev zfm := eSl 1 false Yt
abbrev z3d := eSl 4 false wB
abbrev KE := eOs 4 false wB
abbrev zgj := eSl 3 false V4
abbrev Qx := zI F1_ F5_
abbrev z3c := eSl 5 true vN
abbrev z9u := eSl 5 false vN
abbrev zgi := eOs 5 false vN
abbrev z7M := zI F1_ F6_
abbrev xM := zI F2_ F7_
abbrev uR := xg wB (eI .i64)
abbrev UY := Q4 (eI .i64) wB
abbrev yV := yN F0_ z9v
abbrev zcv := eSl 2 true z7M
abbrev z5o := eSl 2 true xM
abbrev z9t := eSl 2 false xM
abbrev wz := eSl 5 true uR
abbrev ko := eSl 5 false uR
abbrev K7 := eOs 5 false uR
abbrev JT := kx (K4 (eI .u8)) zgj
abbrev z3I := wY (eI .i64) (eI .i64) zfm
abbrev z2v := eSl 1 true wz
abbrev z7L := eSl 1 false ko
abbrev z9G := yP (eI .i64) z3c F1_
abbrev vb := yP (eI .i64) z9u F2_
abbrev Qw := yP (eI .i64) zgi F3_
abbrev z7K := eSp vb
abbrev zgh := eSl 3 true z9G
abbrev z7J := eSl 3 false vb
abbrev jp := XX wB xM
abbrev z7I := w8 (eI .i64) (eI .i64) F1_ zgh
abbrev z7H := w8 (eI .i64) (eI .i64) F1_ z7J
abbrev xj := w8 (eI .i64) (eI .i64) F2_ z7J
abbrev z5w := eSp xj
def rpN {α : Type _} (n : Nat) (a : α) (l : List α) : List α := Nat.rec l (fun _ r => a :: r) n
end Go.Own

namespace Go.Proofs
open Go.Shelf
def Tryz.so48_ren : Go.Shelf.Ren := ⟨fun | 6 => 48 | 15 => 79 | 14 => 78 | 28 => 101 | 29 => 102 | 20 => 93 | 21 => 94 | 22 => 95 | 23 => 96 | 24 => 97 | 25 => 98 | 26 => 99 | 27 => 100 | 46 => 108 | 47 => 109 | 48 => 110 | 49 => 111 | 50 => 112 | 57 => 113 | n => n, fun | 22 => 59 | 24 => 61 | 25 => 126 | 3 => 3 | 39 => 50 | 0 => 0 | 53 => 171 | 55 => 173 | 4 => 4 | 46 => 165 | 45 => 164 | 50 => 120 | 5 => 5 | 9 => 9 | 66 => 181 | 70 => 185 | 76 => 198 | 77 => 199 | n => n, fun | n => n⟩
theorem Tryz.so48 : Go.Proofs.SlLaysF0.n6 Tryz.prog Tryz.so48_ren := {
 mixed := by kernel_rfl
 f6 := ⟨Tryz.f48.name, by decide, Tryz.func48.trans (congrArg some (by kernel_rfl))⟩
 f14 := ⟨Tryz.f78.name, by decide, Tryz.func78.trans (congrArg some (by kernel_rfl))⟩
 f15 := Tryz.func79.trans (congrArg some (by kernel_rfl))
 f20 := ⟨Tryz.f93.name, by decide, Tryz.func93.trans (congrArg some (by kernel_rfl))⟩
 f21 := ⟨Tryz.f94.name, by decide, Tryz.func94.trans (congrArg some (by kernel_rfl))⟩
 f22 := ⟨Tryz.f95.name, by decide, Tryz.func95.trans (congrArg some (by kernel_rfl))⟩
 f23 := ⟨Tryz.f96.name, by decide, Tryz.func96.trans (congrArg some (by kernel_rfl))⟩
 f24 := ⟨Tryz.f97.name, by decide, Tryz.func97.trans (congrArg some (by kernel_rfl))⟩
 f25 := ⟨Tryz.f98.name, by decide, Tryz.func98.trans (congrArg some (by kernel_rfl))⟩
 f26 := ⟨Tryz.f99.name, by decide, Tryz.func99.trans (congrArg some (by kernel_rfl))⟩
 f27 := ⟨Tryz.f100.name, by decide, Tryz.func100.trans (congrArg some (by kernel_rfl))⟩
 f28 := Tryz.func101.trans (congrArg some (by kernel_rfl))
 f29 := Tryz.func102.trans (congrArg some (by kernel_rfl))
 f46 := ⟨Tryz.f108.name, by decide, Tryz.func108.trans (congrArg some (by kernel_rfl))⟩
 f47 := Tryz.func109.trans (congrArg some (by kernel_rfl))
 f48 := Tryz.func110.trans (congrArg some (by kernel_rfl))
 f49 := ⟨Tryz.f111.name, by decide, Tryz.func111.trans (congrArg some (by kernel_rfl))⟩
 f50 := ⟨Tryz.f112.name, by decide, Tryz.func112.trans (congrArg some (by kernel_rfl))⟩
 f57 := ⟨Tryz.f113.name, by decide, Tryz.func113.trans (congrArg some (by kernel_rfl))⟩
 t0 := Tryz.underlying0
 a0 := Tryz.isAgg0
 z0 := Tryz.sizeOf0
 v0 := Tryz.zeroValue0
 t3 := Tryz.underlying3
 a3 := Tryz.isAgg3
 z3 := Tryz.sizeOf3
 v3 := Tryz.zeroValue3
 t4 := Tryz.underlying4
 a4 := Tryz.isAgg4
 z4 := Tryz.sizeOf4
 v4 := Tryz.zeroValue4
 t5 := Tryz.underlying5
 a5 := Tryz.isAgg5
 z5 := Tryz.sizeOf5
 v5 := Tryz.zeroValue5
 t9 := Tryz.underlying9
 a9 := Tryz.isAgg9
 z9 := Tryz.sizeOf9
 v9 := Tryz.zeroValue9
 t22 := Tryz.underlying59
 a22 := Tryz.isAgg59
 z22 := Tryz.sizeOf59
 v22 := Tryz.zeroValue59
 t25 := Tryz.underlying126
 a25 := Tryz.isAgg126
 z25 := Tryz.sizeOf126
 v25 := Tryz.zeroValue126
 t39 := Tryz.underlying50
 a39 := Tryz.isAgg50
 z39 := Tryz.sizeOf50
 v39 := Tryz.zeroValue50
 t45 := Tryz.underlying164
 a45 := Tryz.isAgg164
 z45 := Tryz.sizeOf164
 v45 := Tryz.zeroValue164
 t46 := Tryz.underlying165
 a46 := Tryz.isAgg165
 z46 := Tryz.sizeOf165
 v46 := Tryz.zeroValue165
 t50 := Tryz.underlying120
 a50 := Tryz.isAgg120
 z50 := Tryz.sizeOf120
 v50 := Tryz.zeroValue120
 t53 := Tryz.underlying171
 a53 := Tryz.isAgg171
 z53 := Tryz.sizeOf171
 v53 := Tryz.zeroValue171
 t55 := Tryz.underlying173
 a55 := Tryz.isAgg173
 z55 := Tryz.sizeOf173
 v55 := Tryz.zeroValue173
 t66 := Tryz.underlying181
 a66 := Tryz.isAgg181
 z66 := Tryz.sizeOf181
 v66 := Tryz.zeroValue181
 t70 := Tryz.underlying185
 a70 := Tryz.isAgg185
 z70 := Tryz.sizeOf185
 v70 := Tryz.zeroValue185
 t76 := Tryz.underlying198
 a76 := Tryz.isAgg198
 z76 := Tryz.sizeOf198
 v76 := Tryz.zeroValue198
 t77 := Tryz.underlying199
 a77 := Tryz.isAgg199
 z77 := Tryz.sizeOf199
 v77 := Tryz.zeroValue199 }
end Go.Proofs
