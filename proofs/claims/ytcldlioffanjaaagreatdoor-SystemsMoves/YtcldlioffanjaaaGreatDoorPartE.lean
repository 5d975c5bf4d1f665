/- -/
import Derived.Test.YtcldlioffanjaaaGreatDoorPartB
import Derived.Test.YtcldlioffanjaaaGreatDoorProg
import Derived.Test.YtcldlioffanjaaaGreatDoorChecked
import Derived.Test.YtcldlioffanjaaaGreatDoorPartD
import Derived.LaidEql
import Derived.Stop.Asserts
import Derived.RowKitTokens
import Derived.Test.YtcldlioffanjaaaGreatDoorPartC
import Derived.Shelf.SlSortCmp.NoneTotal
import Derived.Ground.SlsfProg
set_option linter.unusedVariables false
set_option linter.unusedSimpArgs false
namespace Go.Ex
open Go.Proofs
theorem q5 : EqP Tryz.prog 5 [.int .u8 0] false 1 := z32 (k := .int .u8) Tryz.underlying5 ⟨_, (by kernel_rfl : Tryz.prog.info? 5 = some Tryz.t5), rfl⟩ rfl
theorem q22 : EqP Tryz.prog 22 (z3v 2 [.int .u8 0]) true 2 := VN Tryz.underlying22 q5 ⟨_, (by kernel_rfl : Tryz.prog.info? 22 = some Tryz.t22), rfl⟩
def i22 : EI := ⟨.array 2 5, 2, 2, some [.int .u8 0, .int .u8 0], true⟩
theorem zaq : z0A Tryz.prog 22 i22 := ⟨⟨Tryz.t22, by kernel_rfl, rfl, rfl, fun z h => by cases h; exact ⟨_, rfl, rfl, ky rfl, rfl, ⟨_, rfl⟩⟩⟩, Tryz.underlying22, fun _ => uZ q22 rfl rfl (Nat.le_of_ble_eq_true (by kernel_rfl)) (by decide)⟩
theorem q3 : EqP Tryz.prog 3 [.int .i64 0] false 1 := z32 (k := .int .i64) Tryz.underlying3 ⟨_, (by kernel_rfl : Tryz.prog.info? 3 = some Tryz.t3), rfl⟩ rfl
theorem q60 : EqP Tryz.prog 60 (ku [([.int .u8 0], false), ([.int .i64 0], false), ([.int .i64 0], false)]) true 2 := wG Tryz.underlying60 (by kernel_rfl) ⟨_, (by kernel_rfl : Tryz.prog.info? 60 = some Tryz.t60), rfl⟩ (by decide) (zC.cons (by decide) rfl (q5.mono (by decide)) (zC.cons (by decide) rfl (q3.mono (by decide)) (zC.cons (by decide) rfl (q3.mono (by decide)) (zC.nil))))
def i60 : EI := ⟨.struct [(0, 5), (1, 3), (2, 3)], 3, 24, some [.int .u8 0, .int .i64 0, .int .i64 0], true⟩
theorem zeK : z0A Tryz.prog 60 i60 := ⟨⟨Tryz.t60, by kernel_rfl, rfl, rfl, fun z h => by cases h; exact ⟨_, rfl, rfl, ky rfl, rfl, ⟨_, rfl⟩⟩⟩, ⟨_, Tryz.underlying60, by kernel_rfl, by
  intro f hf
  simp only [List.mem_cons, List.not_mem_nil, or_false] at hf
  rcases hf with rfl | rfl | rfl
  ·exact ⟨Tryz.t5, by kernel_rfl⟩
  ·exact ⟨Tryz.t3, by kernel_rfl⟩
  ·exact ⟨Tryz.t3, by kernel_rfl⟩⟩, fun _ => uZ q60 rfl rfl (Nat.le_of_ble_eq_true (by kernel_rfl)) (by decide)⟩
theorem q61 : EqP Tryz.prog 61 (ku [([.int .u8 0], false), ([.int .i64 0], false), ([.int .i64 0], false)]) true 2 := wG Tryz.underlying61 (by kernel_rfl) ⟨_, (by kernel_rfl : Tryz.prog.info? 61 = some Tryz.t61), rfl⟩ (by decide) (zC.cons (by decide) rfl (q5.mono (by decide)) (zC.cons (by decide) rfl (q3.mono (by decide)) (zC.cons (by decide) rfl (q3.mono (by decide)) (zC.nil))))
def i61 : EI := ⟨.struct [(0, 5), (1, 3), (2, 3)], 3, 24, some [.int .u8 0, .int .i64 0, .int .i64 0], true⟩
theorem zap : z0A Tryz.prog 61 i61 := ⟨⟨Tryz.t61, by kernel_rfl, rfl, rfl, fun z h => by cases h; exact ⟨_, rfl, rfl, ky rfl, rfl, ⟨_, rfl⟩⟩⟩, ⟨_, Tryz.underlying61, by kernel_rfl, by
  intro f hf
  simp only [List.mem_cons, List.not_mem_nil, or_false] at hf
  rcases hf with rfl | rfl | rfl
  ·exact ⟨Tryz.t5, by kernel_rfl⟩
  ·exact ⟨Tryz.t3, by kernel_rfl⟩
  ·exact ⟨Tryz.t3, by kernel_rfl⟩⟩, fun _ => uZ q61 rfl rfl (Nat.le_of_ble_eq_true (by kernel_rfl)) (by decide)⟩
theorem q64 : EqP Tryz.prog 64 (ku [([.int .i64 0], false), ([.int .i64 0], false), ([.int .i64 0], false), ([.int .i64 0], false)]) true 2 := wG Tryz.underlying64 (by kernel_rfl) ⟨_, (by kernel_rfl : Tryz.prog.info? 64 = some Tryz.t64), rfl⟩ (by decide) (zC.cons (by decide) rfl (q3.mono (by decide)) (zC.cons (by decide) rfl (q3.mono (by decide)) (zC.cons (by decide) rfl (q3.mono (by decide)) (zC.cons (by decide) rfl (q3.mono (by decide)) (zC.nil)))))
def i64 : EI := ⟨.struct [(0, 3), (1, 3), (2, 3), (3, 3)], 4, 32, some [.int .i64 0, .int .i64 0, .int .i64 0, .int .i64 0], true⟩
theorem zeJ : z0A Tryz.prog 64 i64 := ⟨⟨Tryz.t64, by kernel_rfl, rfl, rfl, fun z h => by cases h; exact ⟨_, rfl, rfl, ky rfl, rfl, ⟨_, rfl⟩⟩⟩, ⟨_, Tryz.underlying64, by kernel_rfl, by
  intro f hf
  simp only [List.mem_cons, List.not_mem_nil, or_false] at hf
  rcases hf with rfl | rfl | rfl | rfl
  ·exact ⟨Tryz.t3, by kernel_rfl⟩
  ·exact ⟨Tryz.t3, by kernel_rfl⟩
  ·exact ⟨Tryz.t3, by kernel_rfl⟩
  ·exact ⟨Tryz.t3, by kernel_rfl⟩⟩, fun _ => uZ q64 rfl rfl (Nat.le_of_ble_eq_true (by kernel_rfl)) (by decide)⟩
theorem q65 : EqP Tryz.prog 65 (ku [([.int .i64 0], false), ([.int .i64 0], false), ([.int .i64 0], false), ([.int .i64 0], false)]) true 2 := wG Tryz.underlying65 (by kernel_rfl) ⟨_, (by kernel_rfl : Tryz.prog.info? 65 = some Tryz.t65), rfl⟩ (by decide) (zC.cons (by decide) rfl (q3.mono (by decide)) (zC.cons (by decide) rfl (q3.mono (by decide)) (zC.cons (by decide) rfl (q3.mono (by decide)) (zC.cons (by decide) rfl (q3.mono (by decide)) (zC.nil)))))
def i65 : EI := ⟨.struct [(0, 3), (1, 3), (2, 3), (3, 3)], 4, 32, some [.int .i64 0, .int .i64 0, .int .i64 0, .int .i64 0], true⟩
theorem zao : z0A Tryz.prog 65 i65 := ⟨⟨Tryz.t65, by kernel_rfl, rfl, rfl, fun z h => by cases h; exact ⟨_, rfl, rfl, ky rfl, rfl, ⟨_, rfl⟩⟩⟩, ⟨_, Tryz.underlying65, by kernel_rfl, by
  intro f hf
  simp only [List.mem_cons, List.not_mem_nil, or_false] at hf
  rcases hf with rfl | rfl | rfl | rfl
  ·exact ⟨Tryz.t3, by kernel_rfl⟩
  ·exact ⟨Tryz.t3, by kernel_rfl⟩
  ·exact ⟨Tryz.t3, by kernel_rfl⟩
  ·exact ⟨Tryz.t3, by kernel_rfl⟩⟩, fun _ => uZ q65 rfl rfl (Nat.le_of_ble_eq_true (by kernel_rfl)) (by decide)⟩
theorem q96 : EqP Tryz.prog 96 (z3v 5 [.int .u8 0]) true 2 := VN Tryz.underlying96 q5 ⟨_, (by kernel_rfl : Tryz.prog.info? 96 = some Tryz.t96), rfl⟩
def i96 : EI := ⟨.array 5 5, 5, 5, some [.int .u8 0, .int .u8 0, .int .u8 0, .int .u8 0, .int .u8 0], true⟩
theorem zan : z0A Tryz.prog 96 i96 := ⟨⟨Tryz.t96, by kernel_rfl, rfl, rfl, fun z h => by cases h; exact ⟨_, rfl, rfl, ky rfl, rfl, ⟨_, rfl⟩⟩⟩, Tryz.underlying96, fun _ => uZ q96 rfl rfl (Nat.le_of_ble_eq_true (by kernel_rfl)) (by decide)⟩
theorem q97 : EqP Tryz.prog 97 (ku [([.int .i64 0], false), ([.int .u8 0], false), ([.int .i64 0], false), ([.int .i64 0], false), ([.int .i64 0], false)]) true 2 := wG Tryz.underlying97 (by kernel_rfl) ⟨_, (by kernel_rfl : Tryz.prog.info? 97 = some Tryz.t97), rfl⟩ (by decide) (zC.cons (by decide) rfl (q3.mono (by decide)) (zC.cons (by decide) rfl (q5.mono (by decide)) (zC.cons (by decide) rfl (q3.mono (by decide)) (zC.cons (by decide) rfl (q3.mono (by decide)) (zC.cons (by decide) rfl (q3.mono (by decide)) (zC.nil))))))
def i97 : EI := ⟨.struct [(0, 3), (1, 5), (2, 3), (3, 3), (4, 3)], 5, 40, some [.int .i64 0, .int .u8 0, .int .i64 0, .int .i64 0, .int .i64 0], true⟩
theorem zeI : z0A Tryz.prog 97 i97 := ⟨⟨Tryz.t97, by kernel_rfl, rfl, rfl, fun z h => by cases h; exact ⟨_, rfl, rfl, ky rfl, rfl, ⟨_, rfl⟩⟩⟩, ⟨_, Tryz.underlying97, by kernel_rfl, by
  intro f hf
  simp only [List.mem_cons, List.not_mem_nil, or_false] at hf
  rcases hf with rfl | rfl | rfl | rfl | rfl
  ·exact ⟨Tryz.t3, by kernel_rfl⟩
  ·exact ⟨Tryz.t5, by kernel_rfl⟩
  ·exact ⟨Tryz.t3, by kernel_rfl⟩
  ·exact ⟨Tryz.t3, by kernel_rfl⟩
  ·exact ⟨Tryz.t3, by kernel_rfl⟩⟩, fun _ => uZ q97 rfl rfl (Nat.le_of_ble_eq_true (by kernel_rfl)) (by decide)⟩
theorem q98 : EqP Tryz.prog 98 (ku [([.int .i64 0], false), ([.int .u8 0], false), ([.int .i64 0], false), ([.int .i64 0], false), ([.int .i64 0], false)]) true 2 := wG Tryz.underlying98 (by kernel_rfl) ⟨_, (by kernel_rfl : Tryz.prog.info? 98 = some Tryz.t98), rfl⟩ (by decide) (zC.cons (by decide) rfl (q3.mono (by decide)) (zC.cons (by decide) rfl (q5.mono (by decide)) (zC.cons (by decide) rfl (q3.mono (by decide)) (zC.cons (by decide) rfl (q3.mono (by decide)) (zC.cons (by decide) rfl (q3.mono (by decide)) (zC.nil))))))
def i98 : EI := ⟨.struct [(0, 3), (1, 5), (2, 3), (3, 3), (4, 3)], 5, 40, some [.int .i64 0, .int .u8 0, .int .i64 0, .int .i64 0, .int .i64 0], true⟩
theorem zam : z0A Tryz.prog 98 i98 := ⟨⟨Tryz.t98, by kernel_rfl, rfl, rfl, fun z h => by cases h; exact ⟨_, rfl, rfl, ky rfl, rfl, ⟨_, rfl⟩⟩⟩, ⟨_, Tryz.underlying98, by kernel_rfl, by
  intro f hf
  simp only [List.mem_cons, List.not_mem_nil, or_false] at hf
  rcases hf with rfl | rfl | rfl | rfl | rfl
  ·exact ⟨Tryz.t3, by kernel_rfl⟩
  ·exact ⟨Tryz.t5, by kernel_rfl⟩
  ·exact ⟨Tryz.t3, by kernel_rfl⟩
  ·exact ⟨Tryz.t3, by kernel_rfl⟩
  ·exact ⟨Tryz.t3, by kernel_rfl⟩⟩, fun _ => uZ q98 rfl rfl (Nat.le_of_ble_eq_true (by kernel_rfl)) (by decide)⟩
theorem q99 : EqP Tryz.prog 99 (ku [([.int .i64 0, .int .i64 0, .int .i64 0, .int .i64 0], true), ([.int .i64 0], false)]) true 3 := wG Tryz.underlying99 (by kernel_rfl) ⟨_, (by kernel_rfl : Tryz.prog.info? 99 = some Tryz.t99), rfl⟩ (by decide) (zC.cons (by decide) rfl (q65.mono (by decide)) (zC.cons (by decide) rfl (q3.mono (by decide)) (zC.nil)))
def i99 : EI := ⟨.struct [(0, 65), (4, 3)], 5, 40, some [.int .i64 0, .int .i64 0, .int .i64 0, .int .i64 0, .int .i64 0], true⟩
theorem zeH : z0A Tryz.prog 99 i99 := ⟨⟨Tryz.t99, by kernel_rfl, rfl, rfl, fun z h => by cases h; exact ⟨_, rfl, rfl, ky rfl, rfl, ⟨_, rfl⟩⟩⟩, ⟨_, Tryz.underlying99, by kernel_rfl, by
  intro f hf
  simp only [List.mem_cons, List.not_mem_nil, or_false] at hf
  rcases hf with rfl | rfl
  ·exact ⟨Tryz.t65, by kernel_rfl⟩
  ·exact ⟨Tryz.t3, by kernel_rfl⟩⟩, fun _ => uZ q99 rfl rfl (Nat.le_of_ble_eq_true (by kernel_rfl)) (by decide)⟩
theorem zfy : EqP Tryz.prog 100 (ku [([.int .i64 0, .int .i64 0, .int .i64 0, .int .i64 0], true), ([.int .i64 0], false)]) true 3 := wG Tryz.underlying100 (by kernel_rfl) ⟨_, (by kernel_rfl : Tryz.prog.info? 100 = some Tryz.t100), rfl⟩ (by decide) (zC.cons (by decide) rfl (q65.mono (by decide)) (zC.cons (by decide) rfl (q3.mono (by decide)) (zC.nil)))
def zfK : EI := ⟨.struct [(0, 65), (4, 3)], 5, 40, some [.int .i64 0, .int .i64 0, .int .i64 0, .int .i64 0, .int .i64 0], true⟩
theorem z8R : z0A Tryz.prog 100 zfK := ⟨⟨Tryz.t100, by kernel_rfl, rfl, rfl, fun z h => by cases h; exact ⟨_, rfl, rfl, ky rfl, rfl, ⟨_, rfl⟩⟩⟩, ⟨_, Tryz.underlying100, by kernel_rfl, by
  intro f hf
  simp only [List.mem_cons, List.not_mem_nil, or_false] at hf
  rcases hf with rfl | rfl
  ·exact ⟨Tryz.t65, by kernel_rfl⟩
  ·exact ⟨Tryz.t3, by kernel_rfl⟩⟩, fun _ => uZ zfy rfl rfl (Nat.le_of_ble_eq_true (by kernel_rfl)) (by decide)⟩
theorem zfx : EqP Tryz.prog 107 (ku [([.int .i64 0], false), ([.int .i64 0, .int .i64 0, .int .i64 0, .int .i64 0], true)]) true 3 := wG Tryz.underlying107 (by kernel_rfl) ⟨_, (by kernel_rfl : Tryz.prog.info? 107 = some Tryz.t107), rfl⟩ (by decide) (zC.cons (by decide) rfl (q3.mono (by decide)) (zC.cons (by decide) rfl (q65.mono (by decide)) (zC.nil)))
def zfJ : EI := ⟨.struct [(0, 3), (1, 65)], 5, 40, some [.int .i64 0, .int .i64 0, .int .i64 0, .int .i64 0, .int .i64 0], true⟩
theorem zcS : z0A Tryz.prog 107 zfJ := ⟨⟨Tryz.t107, by kernel_rfl, rfl, rfl, fun z h => by cases h; exact ⟨_, rfl, rfl, ky rfl, rfl, ⟨_, rfl⟩⟩⟩, ⟨_, Tryz.underlying107, by kernel_rfl, by
  intro f hf
  simp only [List.mem_cons, List.not_mem_nil, or_false] at hf
  rcases hf with rfl | rfl
  ·exact ⟨Tryz.t3, by kernel_rfl⟩
  ·exact ⟨Tryz.t65, by kernel_rfl⟩⟩, fun _ => uZ zfx rfl rfl (Nat.le_of_ble_eq_true (by kernel_rfl)) (by decide)⟩
theorem zfw : EqP Tryz.prog 108 (ku [([.int .i64 0], false), ([.int .i64 0, .int .i64 0, .int .i64 0, .int .i64 0], true)]) true 3 := wG Tryz.underlying108 (by kernel_rfl) ⟨_, (by kernel_rfl : Tryz.prog.info? 108 = some Tryz.t108), rfl⟩ (by decide) (zC.cons (by decide) rfl (q3.mono (by decide)) (zC.cons (by decide) rfl (q65.mono (by decide)) (zC.nil)))
def zfI : EI := ⟨.struct [(0, 3), (1, 65)], 5, 40, some [.int .i64 0, .int .i64 0, .int .i64 0, .int .i64 0, .int .i64 0], true⟩
theorem z8Q : z0A Tryz.prog 108 zfI := ⟨⟨Tryz.t108, by kernel_rfl, rfl, rfl, fun z h => by cases h; exact ⟨_, rfl, rfl, ky rfl, rfl, ⟨_, rfl⟩⟩⟩, ⟨_, Tryz.underlying108, by kernel_rfl, by
  intro f hf
  simp only [List.mem_cons, List.not_mem_nil, or_false] at hf
  rcases hf with rfl | rfl
  ·exact ⟨Tryz.t3, by kernel_rfl⟩
  ·exact ⟨Tryz.t65, by kernel_rfl⟩⟩, fun _ => uZ zfw rfl rfl (Nat.le_of_ble_eq_true (by kernel_rfl)) (by decide)⟩
theorem za5 : EqP Tryz.prog 110 (z3v 4 [.int .i64 0]) true 2 := VN Tryz.underlying110 q3 ⟨_, (by kernel_rfl : Tryz.prog.info? 110 = some Tryz.t110), rfl⟩
def zfH : EI := ⟨.array 4 3, 4, 32, some [.int .i64 0, .int .i64 0, .int .i64 0, .int .i64 0], true⟩
theorem z8P : z0A Tryz.prog 110 zfH := ⟨⟨Tryz.t110, by kernel_rfl, rfl, rfl, fun z h => by cases h; exact ⟨_, rfl, rfl, ky rfl, rfl, ⟨_, rfl⟩⟩⟩, Tryz.underlying110, fun _ => uZ za5 rfl rfl (Nat.le_of_ble_eq_true (by kernel_rfl)) (by decide)⟩
theorem zfv : EqP Tryz.prog 111 (ku [([.int .i64 0], false), ([.int .i64 0, .int .i64 0, .int .i64 0, .int .i64 0], true)]) true 3 := wG Tryz.underlying111 (by kernel_rfl) ⟨_, (by kernel_rfl : Tryz.prog.info? 111 = some Tryz.t111), rfl⟩ (by decide) (zC.cons (by decide) rfl (q3.mono (by decide)) (zC.cons (by decide) rfl (za5.mono (by decide)) (zC.nil)))
def zfG : EI := ⟨.struct [(0, 3), (1, 110)], 5, 40, some [.int .i64 0, .int .i64 0, .int .i64 0, .int .i64 0, .int .i64 0], true⟩
theorem zcR : z0A Tryz.prog 111 zfG := ⟨⟨Tryz.t111, by kernel_rfl, rfl, rfl, fun z h => by cases h; exact ⟨_, rfl, rfl, ky rfl, rfl, ⟨_, rfl⟩⟩⟩, ⟨_, Tryz.underlying111, by kernel_rfl, by
  intro f hf
  simp only [List.mem_cons, List.not_mem_nil, or_false] at hf
  rcases hf with rfl | rfl
  ·exact ⟨Tryz.t3, by kernel_rfl⟩
  ·exact ⟨Tryz.t110, by kernel_rfl⟩⟩, fun _ => uZ zfv rfl rfl (Nat.le_of_ble_eq_true (by kernel_rfl)) (by decide)⟩
theorem zeo : EqP Tryz.prog 112 (ku [([.int .i64 0], false), ([.int .i64 0, .int .i64 0, .int .i64 0, .int .i64 0], true)]) true 3 := wG Tryz.underlying112 (by kernel_rfl) ⟨_, (by kernel_rfl : Tryz.prog.info? 112 = some Tryz.t112), rfl⟩ (by decide) (zC.cons (by decide) rfl (q3.mono (by decide)) (zC.cons (by decide) rfl (za5.mono (by decide)) (zC.nil)))
def zfF : EI := ⟨.struct [(0, 3), (1, 110)], 5, 40, some [.int .i64 0, .int .i64 0, .int .i64 0, .int .i64 0, .int .i64 0], true⟩
theorem z8O : z0A Tryz.prog 112 zfF := ⟨⟨Tryz.t112, by kernel_rfl, rfl, rfl, fun z h => by cases h; exact ⟨_, rfl, rfl, ky rfl, rfl, ⟨_, rfl⟩⟩⟩, ⟨_, Tryz.underlying112, by kernel_rfl, by
  intro f hf
  simp only [List.mem_cons, List.not_mem_nil, or_false] at hf
  rcases hf with rfl | rfl
  ·exact ⟨Tryz.t3, by kernel_rfl⟩
  ·exact ⟨Tryz.t110, by kernel_rfl⟩⟩, fun _ => uZ zeo rfl rfl (Nat.le_of_ble_eq_true (by kernel_rfl)) (by decide)⟩
theorem zcB : EqP Tryz.prog 113 (z3v 4 [.int .i64 0, .int .i64 0, .int .i64 0, .int .i64 0, .int .i64 0]) true 4 := VN Tryz.underlying113 zeo ⟨_, (by kernel_rfl : Tryz.prog.info? 113 = some Tryz.t113), rfl⟩
def zfE : EI := ⟨.array 4 112, 20, 160, some [.int .i64 0, .int .i64 0, .int .i64 0, .int .i64 0, .int .i64 0, .int .i64 0, .int .i64 0, .int .i64 0, .int .i64 0, .int .i64 0, .int .i64 0, .int .i64 0, .int .i64 0, .int .i64 0, .int .i64 0, .int .i64 0, .int .i64 0, .int .i64 0, .int .i64 0, .int .i64 0], true⟩
theorem z8N : z0A Tryz.prog 113 zfE := ⟨⟨Tryz.t113, by kernel_rfl, rfl, rfl, fun z h => by cases h; exact ⟨_, rfl, rfl, ky rfl, rfl, ⟨_, rfl⟩⟩⟩, Tryz.underlying113, fun _ => uZ zcB rfl rfl (Nat.le_of_ble_eq_true (by kernel_rfl)) (by decide)⟩
theorem zfu : EqP Tryz.prog 114 (ku [([.int .i64 0, .int .i64 0, .int .i64 0, .int .i64 0], true), ([.int .i64 0, .int .i64 0, .int .i64 0, .int .i64 0, .int .i64 0, .int .i64 0, .int .i64 0, .int .i64 0, .int .i64 0, .int .i64 0, .int .i64 0, .int .i64 0, .int .i64 0, .int .i64 0, .int .i64 0, .int .i64 0, .int .i64 0, .int .i64 0, .int .i64 0, .int .i64 0], true)]) true 5 := wG Tryz.underlying114 (by kernel_rfl) ⟨_, (by kernel_rfl : Tryz.prog.info? 114 = some Tryz.t114), rfl⟩ (by decide) (zC.cons (by decide) rfl (za5.mono (by decide)) (zC.cons (by decide) rfl (zcB.mono (by decide)) (zC.nil)))
def zfD : EI := ⟨.struct [(0, 110), (4, 113)], 24, 192, some [.int .i64 0, .int .i64 0, .int .i64 0, .int .i64 0, .int .i64 0, .int .i64 0, .int .i64 0, .int .i64 0, .int .i64 0, .int .i64 0, .int .i64 0, .int .i64 0, .int .i64 0, .int .i64 0, .int .i64 0, .int .i64 0, .int .i64 0, .int .i64 0, .int .i64 0, .int .i64 0, .int .i64 0, .int .i64 0, .int .i64 0, .int .i64 0], true⟩
theorem zcQ : z0A Tryz.prog 114 zfD := ⟨⟨Tryz.t114, by kernel_rfl, rfl, rfl, fun z h => by cases h; exact ⟨_, rfl, rfl, ky rfl, rfl, ⟨_, rfl⟩⟩⟩, ⟨_, Tryz.underlying114, by kernel_rfl, by
  intro f hf
  simp only [List.mem_cons, List.not_mem_nil, or_false] at hf
  rcases hf with rfl | rfl
  ·exact ⟨Tryz.t110, by kernel_rfl⟩
  ·exact ⟨Tryz.t113, by kernel_rfl⟩⟩, fun _ => uZ zfu rfl rfl (Nat.le_of_ble_eq_true (by kernel_rfl)) (by decide)⟩
theorem zft : EqP Tryz.prog 115 (ku [([.int .i64 0, .int .i64 0, .int .i64 0, .int .i64 0], true), ([.int .i64 0, .int .i64 0, .int .i64 0, .int .i64 0, .int .i64 0, .int .i64 0, .int .i64 0, .int .i64 0, .int .i64 0, .int .i64 0, .int .i64 0, .int .i64 0, .int .i64 0, .int .i64 0, .int .i64 0, .int .i64 0, .int .i64 0, .int .i64 0, .int .i64 0, .int .i64 0], true)]) true 5 := wG Tryz.underlying115 (by kernel_rfl) ⟨_, (by kernel_rfl : Tryz.prog.info? 115 = some Tryz.t115), rfl⟩ (by decide) (zC.cons (by decide) rfl (za5.mono (by decide)) (zC.cons (by decide) rfl (zcB.mono (by decide)) (zC.nil)))
def zfC : EI := ⟨.struct [(0, 110), (4, 113)], 24, 192, some [.int .i64 0, .int .i64 0, .int .i64 0, .int .i64 0, .int .i64 0, .int .i64 0, .int .i64 0, .int .i64 0, .int .i64 0, .int .i64 0, .int .i64 0, .int .i64 0, .int .i64 0, .int .i64 0, .int .i64 0, .int .i64 0, .int .i64 0, .int .i64 0, .int .i64 0, .int .i64 0, .int .i64 0, .int .i64 0, .int .i64 0, .int .i64 0], true⟩
theorem z4x : z0A Tryz.prog 115 zfC := ⟨⟨Tryz.t115, by kernel_rfl, rfl, rfl, fun z h => by cases h; exact ⟨_, rfl, rfl, ky rfl, rfl, ⟨_, rfl⟩⟩⟩, ⟨_, Tryz.underlying115, by kernel_rfl, by
  intro f hf
  simp only [List.mem_cons, List.not_mem_nil, or_false] at hf
  rcases hf with rfl | rfl
  ·exact ⟨Tryz.t110, by kernel_rfl⟩
  ·exact ⟨Tryz.t113, by kernel_rfl⟩⟩, fun _ => uZ zft rfl rfl (Nat.le_of_ble_eq_true (by kernel_rfl)) (by decide)⟩
end Go.Ex

namespace Go.Own
open Go.Proofs
def zcM : Value → Bool
 | .int _ _ => true
 | _ => false
theorem z1D : ∀ {z vs us : List Value} {r : Bool}, z.all zcM = true → z.length = vs.length → xz vs us = some r → Go.Ex.z0x z vs = true ∧ Go.Ex.xz vs us = some r
 | [], [], us, r, _, _, h => by
  cases us with
  | nil => simp only [xz, Option.some.injEq] at h; subst h; exact ⟨rfl, rfl⟩
  | cons u us => simp [xz] at h
 | a :: z, v :: vs, us, r, hz, hl, h => by
  have q : ∃ k x u' k' y, v = .int k x ∧ us = .int k' y :: u' ∧ k = k' := by
   cases us with
   | nil => cases v <;> simp [xz] at h
   | cons u us =>
    cases v <;> cases u <;> simp [xz] at h
    exact ⟨_, _, _, _, _, rfl, rfl, h.1⟩
  obtain ⟨k, x, u', k', y, rfl, rfl, hk⟩ := q
  simp only [xz, hk, if_true, Option.map_eq_some_iff] at h
  obtain ⟨r', e1, rfl⟩ := h
  simp only [List.all_cons, Bool.and_eq_true] at hz
  obtain ⟨q1, q2⟩ := z1D hz.2 (by simpa using hl) e1
  refine ⟨?_, by simp [Go.Ex.xz, hk, q2]⟩
  cases a <;> first | (simp [zcM] at hz; done) | simpa [Go.Ex.z0x] using q1
 | [], _ :: _, _, _, _, hl, _ => by simp at hl
 | _ :: _, [], _, _, _, hl, _ => by simp at hl
theorem ZR {P : Program} {t n : Nat} {i : Go.Ex.EI} (h : Go.Ex.z7y P t i) {z : List Value} (hz : i.zero = some z) (hi : z.all zcM = true) (hs : i.size = n) (hn : z.length = n) : z7y P t n := {
 guard := h.guard
 run := fun vs us r w hv hu he => by
  obtain ⟨q1, q2⟩ := z1D hi (by rw [hn, hv]) he
  exact h.run vs us r w (by rw [hs]; exact hv) (by rw [hs]; exact hu) (by simpa only [Go.Ex.zcU, hz] using q1) q2 }
theorem zm {S : zr} {h : Array Obj} {v : Value} (hv : v.oneCell' = true) : zQ S h (.atom v) [v] [] := by simp only [zQ, Rep]; exact ⟨⟨trivial, hv⟩, trivial⟩
theorem xr {S : zr} {h : Array Obj} (sz : Nat) : zQ S h (.osl sz true []) [.slice none 0 0] [] := by
 simp only [zQ]
 exact ⟨none, 0, rfl, (fun _ => rfl), Nat.le_refl _, Nat.zero_le _, by simp, .inl ⟨trivial, rfl, rfl, trivial⟩⟩
theorem y5 {S : zr} {h : Array Obj} {fs : List A} {cs : List Value} (q : zX S h fs cs []) : zQ S h (.agg fs) cs [] := by simpa only [zQ] using q
theorem zM {S : zr} {h : Array Obj} : zX S h [] [] [] := by simp [zX]
theorem zk {S : zr} {h : Array Obj} {a : A} {fs : List A} {c1 c2 : List Value} (q1 : zQ S h a c1 []) (q2 : zX S h fs c2 []) : zX S h (a :: fs) (c1 ++ c2) [] := by simp only [zX]; exact ⟨c1, c2, [], [], rfl, rfl, q1, q2⟩
def ti1 : TI := ⟨.other, 1, 8, some (.atom .nilFunc), false⟩
theorem z9C : kw Tryz.prog 1 ti1 := ⟨⟨Tryz.t1, by kernel_rfl, rfl, rfl, fun z h => by cases h; exact ⟨_, rfl, rfl, fun S h => zm rfl⟩⟩, ⟨_, Tryz.underlying1, rfl⟩, by intro h; cases h⟩
def ti2 : TI := ⟨.int .i64, 1, 8, some (.atom (.int .i64 0)), false⟩
theorem z9B : kw Tryz.prog 2 ti2 := ⟨⟨Tryz.t2, by kernel_rfl, rfl, rfl, fun z h => by cases h; exact ⟨_, rfl, rfl, fun S h => zm rfl⟩⟩, Tryz.underlying2, by intro h; cases h⟩
def ti3 : TI := ⟨.int .i64, 1, 8, some (.atom (.int .i64 0)), false⟩
theorem z9A : kw Tryz.prog 3 ti3 := ⟨⟨Tryz.t3, by kernel_rfl, rfl, rfl, fun z h => by cases h; exact ⟨_, rfl, rfl, fun S h => zm rfl⟩⟩, Tryz.underlying3, by intro h; cases h⟩
def ti4 : TI := ⟨.bool, 1, 1, some (.atom (.bool false)), false⟩
theorem z9z : kw Tryz.prog 4 ti4 := ⟨⟨Tryz.t4, by kernel_rfl, rfl, rfl, fun z h => by cases h; exact ⟨_, rfl, rfl, fun S h => zm rfl⟩⟩, Tryz.underlying4, by intro h; cases h⟩
def ti5 : TI := ⟨.int .u8, 1, 1, some (.atom (.int .u8 0)), false⟩
theorem z9y : kw Tryz.prog 5 ti5 := ⟨⟨Tryz.t5, by kernel_rfl, rfl, rfl, fun z h => by cases h; exact ⟨_, rfl, rfl, fun S h => zm rfl⟩⟩, Tryz.underlying5, by intro h; cases h⟩
def zek : TI := ⟨.array 2 5, 2, 2, some (.agg [.atom (.int .u8 0), .atom (.int .u8 0)]), true⟩
theorem z84 : kw Tryz.prog 22 zek := ⟨⟨Tryz.t22, by kernel_rfl, rfl, rfl, fun z h => by cases h; exact ⟨_, rfl, rfl, fun S h => y5 (zk (zm rfl) (zk (zm rfl) (zM)))⟩⟩, Tryz.underlying22, fun _ => ZR (Go.Ex.zaq.eqn rfl) rfl rfl rfl rfl⟩
def zej : TI := ⟨.slice 95, 1, 24, some (.osl 3 true []), false⟩
theorem z83 : kw Tryz.prog 23 zej := ⟨⟨Tryz.t23, by kernel_rfl, rfl, rfl, fun z h => by cases h; exact ⟨_, rfl, rfl, fun S h => xr _⟩⟩, Tryz.underlying23, by intro h; cases h⟩
def zei : TI := ⟨.struct [(0, 2), (2, 1)], 3, 32, some (.agg [.agg [.atom (.int .u8 0), .atom (.int .u8 0)], .osl 3 true []]), false⟩
theorem z82 : kw Tryz.prog 25 zei := ⟨⟨Tryz.t25, by kernel_rfl, rfl, rfl, fun z h => by cases h; exact ⟨_, rfl, rfl, fun S h => y5 (zk (y5 (zk (zm rfl) (zk (zm rfl) (zM)))) (zk (xr _) (zM)))⟩⟩, ⟨_, Tryz.underlying25, by kernel_rfl, by
  intro f hf
  simp only [List.mem_cons, List.not_mem_nil, or_false] at hf
  rcases hf with rfl | rfl
  ·exact ⟨Tryz.t22, by kernel_rfl⟩
  ·exact ⟨Tryz.t23, by kernel_rfl⟩⟩, by intro h; cases h⟩
def zeh : TI := ⟨.slice 3, 1, 24, some (.osl 1 true []), false⟩
theorem z81 : kw Tryz.prog 26 zeh := ⟨⟨Tryz.t26, by kernel_rfl, rfl, rfl, fun z h => by cases h; exact ⟨_, rfl, rfl, fun S h => xr _⟩⟩, Tryz.underlying26, by intro h; cases h⟩
def zeg : TI := ⟨.slice 87, 1, 24, some (.osl 3 true []), false⟩
theorem z80 : kw Tryz.prog 27 zeg := ⟨⟨Tryz.t27, by kernel_rfl, rfl, rfl, fun z h => by cases h; exact ⟨_, rfl, rfl, fun S h => xr _⟩⟩, Tryz.underlying27, by intro h; cases h⟩
def zef : TI := ⟨.struct [(0, 1), (1, 1), (2, 1), (3, 1)], 4, 64, some (.agg [.atom (.int .i64 0), .atom (.int .i64 0), .osl 1 true [], .osl 3 true []]), false⟩
theorem z7Z : kw Tryz.prog 29 zef := ⟨⟨Tryz.t29, by kernel_rfl, rfl, rfl, fun z h => by cases h; exact ⟨_, rfl, rfl, fun S h => y5 (zk (zm rfl) (zk (zm rfl) (zk (xr _) (zk (xr _) (zM)))))⟩⟩, ⟨_, Tryz.underlying29, by kernel_rfl, by
  intro f hf
  simp only [List.mem_cons, List.not_mem_nil, or_false] at hf
  rcases hf with rfl | rfl | rfl | rfl
  ·exact ⟨Tryz.t3, by kernel_rfl⟩
  ·exact ⟨Tryz.t3, by kernel_rfl⟩
  ·exact ⟨Tryz.t26, by kernel_rfl⟩
  ·exact ⟨Tryz.t27, by kernel_rfl⟩⟩, by intro h; cases h⟩
def zee : TI := ⟨.slice 39, 1, 24, some (.osl 2 true []), false⟩
theorem z7Y : kw Tryz.prog 31 zee := ⟨⟨Tryz.t31, by kernel_rfl, rfl, rfl, fun z h => by cases h; exact ⟨_, rfl, rfl, fun S h => xr _⟩⟩, Tryz.underlying31, by intro h; cases h⟩
def zed : TI := ⟨.slice 45, 1, 24, some (.osl 1 true []), false⟩
theorem z7X : kw Tryz.prog 32 zed := ⟨⟨Tryz.t32, by kernel_rfl, rfl, rfl, fun z h => by cases h; exact ⟨_, rfl, rfl, fun S h => xr _⟩⟩, Tryz.underlying32, by intro h; cases h⟩
def zec : TI := ⟨.slice 65, 1, 24, some (.osl 4 true []), false⟩
theorem z7W : kw Tryz.prog 36 zec := ⟨⟨Tryz.t36, by kernel_rfl, rfl, rfl, fun z h => by cases h; exact ⟨_, rfl, rfl, fun S h => xr _⟩⟩, Tryz.underlying36, by intro h; cases h⟩
def zeb : TI := ⟨.slice 26, 1, 24, some (.osl 1 true []), false⟩
theorem z7V : kw Tryz.prog 37 zeb := ⟨⟨Tryz.t37, by kernel_rfl, rfl, rfl, fun z h => by cases h; exact ⟨_, rfl, rfl, fun S h => xr _⟩⟩, Tryz.underlying37, by intro h; cases h⟩
def zea : TI := ⟨.struct [(0, 1), (1, 1)], 2, 48, some (.agg [.osl 1 true [], .osl 1 true []]), false⟩
theorem z7U : kw Tryz.prog 39 zea := ⟨⟨Tryz.t39, by kernel_rfl, rfl, rfl, fun z h => by cases h; exact ⟨_, rfl, rfl, fun S h => y5 (zk (xr _) (zk (xr _) (zM)))⟩⟩, ⟨_, Tryz.underlying39, by kernel_rfl, by
  intro f hf
  simp only [List.mem_cons, List.not_mem_nil, or_false] at hf
  rcases hf with rfl | rfl
  ·exact ⟨Tryz.t26, by kernel_rfl⟩
  ·exact ⟨Tryz.t37, by kernel_rfl⟩⟩, by intro h; cases h⟩
def ze9 : TI := ⟨.int .i64, 1, 8, some (.atom (.int .i64 0)), false⟩
theorem z7T : kw Tryz.prog 40 ze9 := ⟨⟨Tryz.t40, by kernel_rfl, rfl, rfl, fun z h => by cases h; exact ⟨_, rfl, rfl, fun S h => zm rfl⟩⟩, Tryz.underlying40, by intro h; cases h⟩
def ze8 : TI := ⟨.slice 100, 1, 24, some (.osl 5 true []), false⟩
theorem z7S : kw Tryz.prog 45 ze8 := ⟨⟨Tryz.t45, by kernel_rfl, rfl, rfl, fun z h => by cases h; exact ⟨_, rfl, rfl, fun S h => xr _⟩⟩, Tryz.underlying45, by intro h; cases h⟩
def ze7 : TI := ⟨.int .u64, 1, 8, some (.atom (.int .u64 0)), false⟩
theorem z7R : kw Tryz.prog 50 ze7 := ⟨⟨Tryz.t50, by kernel_rfl, rfl, rfl, fun z h => by cases h; exact ⟨_, rfl, rfl, fun S h => zm rfl⟩⟩, Tryz.underlying50, by intro h; cases h⟩
def ze6 : TI := ⟨.slice 59, 1, 24, some (.osl 1 true []), false⟩
theorem z7Q : kw Tryz.prog 51 ze6 := ⟨⟨Tryz.t51, by kernel_rfl, rfl, rfl, fun z h => by cases h; exact ⟨_, rfl, rfl, fun S h => xr _⟩⟩, Tryz.underlying51, by intro h; cases h⟩
def ze5 : TI := ⟨.struct [(0, 1), (1, 1), (2, 1)], 3, 40, some (.agg [.atom (.int .i64 0), .atom (.int .i64 0), .osl 1 true []]), false⟩
theorem z7P : kw Tryz.prog 53 ze5 := ⟨⟨Tryz.t53, by kernel_rfl, rfl, rfl, fun z h => by cases h; exact ⟨_, rfl, rfl, fun S h => y5 (zk (zm rfl) (zk (zm rfl) (zk (xr _) (zM))))⟩⟩, ⟨_, Tryz.underlying53, by kernel_rfl, by
  intro f hf
  simp only [List.mem_cons, List.not_mem_nil, or_false] at hf
  rcases hf with rfl | rfl | rfl
  ·exact ⟨Tryz.t3, by kernel_rfl⟩
  ·exact ⟨Tryz.t3, by kernel_rfl⟩
  ·exact ⟨Tryz.t51, by kernel_rfl⟩⟩, by intro h; cases h⟩
def ze4 : TI := ⟨.slice 61, 1, 24, some (.osl 3 true []), false⟩
theorem z7O : kw Tryz.prog 59 ze4 := ⟨⟨Tryz.t59, by kernel_rfl, rfl, rfl, fun z h => by cases h; exact ⟨_, rfl, rfl, fun S h => xr _⟩⟩, Tryz.underlying59, by intro h; cases h⟩
def ze3 : TI := ⟨.struct [(0, 1), (1, 1), (2, 1)], 3, 24, some (.agg [.atom (.int .u8 0), .atom (.int .i64 0), .atom (.int .i64 0)]), true⟩
theorem z7N : kw Tryz.prog 61 ze3 := ⟨⟨Tryz.t61, by kernel_rfl, rfl, rfl, fun z h => by cases h; exact ⟨_, rfl, rfl, fun S h => y5 (zk (zm rfl) (zk (zm rfl) (zk (zm rfl) (zM))))⟩⟩, ⟨_, Tryz.underlying61, by kernel_rfl, by
  intro f hf
  simp only [List.mem_cons, List.not_mem_nil, or_false] at hf
  rcases hf with rfl | rfl | rfl
  ·exact ⟨Tryz.t5, by kernel_rfl⟩
  ·exact ⟨Tryz.t3, by kernel_rfl⟩
  ·exact ⟨Tryz.t3, by kernel_rfl⟩⟩, fun _ => ZR (Go.Ex.zap.eqn rfl) rfl rfl rfl rfl⟩
def ze2 : TI := ⟨.struct [(0, 1), (1, 1), (2, 1), (3, 1)], 4, 32, some (.agg [.atom (.int .i64 0), .atom (.int .i64 0), .atom (.int .i64 0), .atom (.int .i64 0)]), true⟩
theorem z7M : kw Tryz.prog 65 ze2 := ⟨⟨Tryz.t65, by kernel_rfl, rfl, rfl, fun z h => by cases h; exact ⟨_, rfl, rfl, fun S h => y5 (zk (zm rfl) (zk (zm rfl) (zk (zm rfl) (zk (zm rfl) (zM)))))⟩⟩, ⟨_, Tryz.underlying65, by kernel_rfl, by
  intro f hf
  simp only [List.mem_cons, List.not_mem_nil, or_false] at hf
  rcases hf with rfl | rfl | rfl | rfl
  ·exact ⟨Tryz.t3, by kernel_rfl⟩
  ·exact ⟨Tryz.t3, by kernel_rfl⟩
  ·exact ⟨Tryz.t3, by kernel_rfl⟩
  ·exact ⟨Tryz.t3, by kernel_rfl⟩⟩, fun _ => ZR (Go.Ex.zao.eqn rfl) rfl rfl rfl rfl⟩
def ze1 : TI := ⟨.slice 73, 1, 24, some (.osl 6 true []), false⟩
theorem z7L : kw Tryz.prog 68 ze1 := ⟨⟨Tryz.t68, by kernel_rfl, rfl, rfl, fun z h => by cases h; exact ⟨_, rfl, rfl, fun S h => xr _⟩⟩, Tryz.underlying68, by intro h; cases h⟩
def ze0 : TI := ⟨.struct [(0, 4), (4, 2)], 6, 80, some (.agg [.agg [.atom (.int .i64 0), .atom (.int .i64 0), .atom (.int .i64 0), .atom (.int .i64 0)], .agg [.osl 1 true [], .osl 1 true []]]), false⟩
theorem z7K : kw Tryz.prog 73 ze0 := ⟨⟨Tryz.t73, by kernel_rfl, rfl, rfl, fun z h => by cases h; exact ⟨_, rfl, rfl, fun S h => y5 (zk (y5 (zk (zm rfl) (zk (zm rfl) (zk (zm rfl) (zk (zm rfl) (zM)))))) (zk (y5 (zk (xr _) (zk (xr _) (zM)))) (zM)))⟩⟩, ⟨_, Tryz.underlying73, by kernel_rfl, by
  intro f hf
  simp only [List.mem_cons, List.not_mem_nil, or_false] at hf
  rcases hf with rfl | rfl
  ·exact ⟨Tryz.t65, by kernel_rfl⟩
  ·exact ⟨Tryz.t39, by kernel_rfl⟩⟩, by intro h; cases h⟩
def zdZ : TI := ⟨.other, 1, 8, some (.atom .nilFunc), false⟩
theorem z7J : kw Tryz.prog 82 zdZ := ⟨⟨Tryz.t82, by kernel_rfl, rfl, rfl, fun z h => by cases h; exact ⟨_, rfl, rfl, fun S h => zm rfl⟩⟩, ⟨_, Tryz.underlying82, rfl⟩, by intro h; cases h⟩
def zdY : TI := ⟨.slice 98, 1, 24, some (.osl 5 true []), false⟩
theorem z7I : kw Tryz.prog 85 zdY := ⟨⟨Tryz.t85, by kernel_rfl, rfl, rfl, fun z h => by cases h; exact ⟨_, rfl, rfl, fun S h => xr _⟩⟩, Tryz.underlying85, by intro h; cases h⟩
def zdX : TI := ⟨.struct [(0, 1), (1, 1), (2, 1)], 3, 56, some (.agg [.atom (.int .i64 0), .osl 5 true [], .osl 1 true []]), false⟩
theorem z7H : kw Tryz.prog 87 zdX := ⟨⟨Tryz.t87, by kernel_rfl, rfl, rfl, fun z h => by cases h; exact ⟨_, rfl, rfl, fun S h => y5 (zk (zm rfl) (zk (xr _) (zk (xr _) (zM))))⟩⟩, ⟨_, Tryz.underlying87, by kernel_rfl, by
  intro f hf
  simp only [List.mem_cons, List.not_mem_nil, or_false] at hf
  rcases hf with rfl | rfl | rfl
  ·exact ⟨Tryz.t3, by kernel_rfl⟩
  ·exact ⟨Tryz.t85, by kernel_rfl⟩
  ·exact ⟨Tryz.t26, by kernel_rfl⟩⟩, by intro h; cases h⟩
def zdW : TI := ⟨.slice 96, 1, 24, some (.osl 5 true []), false⟩
theorem z7G : kw Tryz.prog 93 zdW := ⟨⟨Tryz.t93, by kernel_rfl, rfl, rfl, fun z h => by cases h; exact ⟨_, rfl, rfl, fun S h => xr _⟩⟩, Tryz.underlying93, by intro h; cases h⟩
def zdV : TI := ⟨.struct [(0, 1), (1, 1), (2, 1)], 3, 32, some (.agg [.atom (.int .u8 0), .atom (.int .u8 0), .osl 5 true []]), false⟩
theorem z7F : kw Tryz.prog 95 zdV := ⟨⟨Tryz.t95, by kernel_rfl, rfl, rfl, fun z h => by cases h; exact ⟨_, rfl, rfl, fun S h => y5 (zk (zm rfl) (zk (zm rfl) (zk (xr _) (zM))))⟩⟩, ⟨_, Tryz.underlying95, by kernel_rfl, by
  intro f hf
  simp only [List.mem_cons, List.not_mem_nil, or_false] at hf
  rcases hf with rfl | rfl | rfl
  ·exact ⟨Tryz.t5, by kernel_rfl⟩
  ·exact ⟨Tryz.t5, by kernel_rfl⟩
  ·exact ⟨Tryz.t93, by kernel_rfl⟩⟩, by intro h; cases h⟩
def zdU : TI := ⟨.array 5 5, 5, 5, some (.agg [.atom (.int .u8 0), .atom (.int .u8 0), .atom (.int .u8 0), .atom (.int .u8 0), .atom (.int .u8 0)]), true⟩
theorem z7E : kw Tryz.prog 96 zdU := ⟨⟨Tryz.t96, by kernel_rfl, rfl, rfl, fun z h => by cases h; exact ⟨_, rfl, rfl, fun S h => y5 (zk (zm rfl) (zk (zm rfl) (zk (zm rfl) (zk (zm rfl) (zk (zm rfl) (zM))))))⟩⟩, Tryz.underlying96, fun _ => ZR (Go.Ex.zan.eqn rfl) rfl rfl rfl rfl⟩
def zdT : TI := ⟨.struct [(0, 1), (1, 1), (2, 1), (3, 1), (4, 1)], 5, 40, some (.agg [.atom (.int .i64 0), .atom (.int .u8 0), .atom (.int .i64 0), .atom (.int .i64 0), .atom (.int .i64 0)]), true⟩
theorem z7D : kw Tryz.prog 98 zdT := ⟨⟨Tryz.t98, by kernel_rfl, rfl, rfl, fun z h => by cases h; exact ⟨_, rfl, rfl, fun S h => y5 (zk (zm rfl) (zk (zm rfl) (zk (zm rfl) (zk (zm rfl) (zk (zm rfl) (zM))))))⟩⟩, ⟨_, Tryz.underlying98, by kernel_rfl, by
  intro f hf
  simp only [List.mem_cons, List.not_mem_nil, or_false] at hf
  rcases hf with rfl | rfl | rfl | rfl | rfl
  ·exact ⟨Tryz.t3, by kernel_rfl⟩
  ·exact ⟨Tryz.t5, by kernel_rfl⟩
  ·exact ⟨Tryz.t3, by kernel_rfl⟩
  ·exact ⟨Tryz.t3, by kernel_rfl⟩
  ·exact ⟨Tryz.t3, by kernel_rfl⟩⟩, fun _ => ZR (Go.Ex.zam.eqn rfl) rfl rfl rfl rfl⟩
def z9V : TI := ⟨.struct [(0, 4), (4, 1)], 5, 40, some (.agg [.agg [.atom (.int .i64 0), .atom (.int .i64 0), .atom (.int .i64 0), .atom (.int .i64 0)], .atom (.int .i64 0)]), true⟩
theorem z5N : kw Tryz.prog 100 z9V := ⟨⟨Tryz.t100, by kernel_rfl, rfl, rfl, fun z h => by cases h; exact ⟨_, rfl, rfl, fun S h => y5 (zk (y5 (zk (zm rfl) (zk (zm rfl) (zk (zm rfl) (zk (zm rfl) (zM)))))) (zk (zm rfl) (zM)))⟩⟩, ⟨_, Tryz.underlying100, by kernel_rfl, by
  intro f hf
  simp only [List.mem_cons, List.not_mem_nil, or_false] at hf
  rcases hf with rfl | rfl
  ·exact ⟨Tryz.t65, by kernel_rfl⟩
  ·exact ⟨Tryz.t3, by kernel_rfl⟩⟩, fun _ => ZR (Go.Ex.z8R.eqn rfl) rfl rfl rfl rfl⟩
def z9U : TI := ⟨.slice 115, 1, 24, some (.osl 24 true []), false⟩
theorem z5M : kw Tryz.prog 103 z9U := ⟨⟨Tryz.t103, by kernel_rfl, rfl, rfl, fun z h => by cases h; exact ⟨_, rfl, rfl, fun S h => xr _⟩⟩, Tryz.underlying103, by intro h; cases h⟩
def z9T : TI := ⟨.slice 108, 1, 24, some (.osl 5 true []), false⟩
theorem z5L : kw Tryz.prog 106 z9T := ⟨⟨Tryz.t106, by kernel_rfl, rfl, rfl, fun z h => by cases h; exact ⟨_, rfl, rfl, fun S h => xr _⟩⟩, Tryz.underlying106, by intro h; cases h⟩
def z9S : TI := ⟨.struct [(0, 1), (1, 4)], 5, 40, some (.agg [.atom (.int .i64 0), .agg [.atom (.int .i64 0), .atom (.int .i64 0), .atom (.int .i64 0), .atom (.int .i64 0)]]), true⟩
theorem z5K : kw Tryz.prog 108 z9S := ⟨⟨Tryz.t108, by kernel_rfl, rfl, rfl, fun z h => by cases h; exact ⟨_, rfl, rfl, fun S h => y5 (zk (zm rfl) (zk (y5 (zk (zm rfl) (zk (zm rfl) (zk (zm rfl) (zk (zm rfl) (zM)))))) (zM)))⟩⟩, ⟨_, Tryz.underlying108, by kernel_rfl, by
  intro f hf
  simp only [List.mem_cons, List.not_mem_nil, or_false] at hf
  rcases hf with rfl | rfl
  ·exact ⟨Tryz.t3, by kernel_rfl⟩
  ·exact ⟨Tryz.t65, by kernel_rfl⟩⟩, fun _ => ZR (Go.Ex.z8Q.eqn rfl) rfl rfl rfl rfl⟩
def z9R : TI := ⟨.array 4 3, 4, 32, some (.agg [.atom (.int .i64 0), .atom (.int .i64 0), .atom (.int .i64 0), .atom (.int .i64 0)]), true⟩
theorem z5J : kw Tryz.prog 110 z9R := ⟨⟨Tryz.t110, by kernel_rfl, rfl, rfl, fun z h => by cases h; exact ⟨_, rfl, rfl, fun S h => y5 (zk (zm rfl) (zk (zm rfl) (zk (zm rfl) (zk (zm rfl) (zM)))))⟩⟩, Tryz.underlying110, fun _ => ZR (Go.Ex.z8P.eqn rfl) rfl rfl rfl rfl⟩
def z9Q : TI := ⟨.struct [(0, 1), (1, 4)], 5, 40, some (.agg [.atom (.int .i64 0), .agg [.atom (.int .i64 0), .atom (.int .i64 0), .atom (.int .i64 0), .atom (.int .i64 0)]]), true⟩
theorem z5I : kw Tryz.prog 112 z9Q := ⟨⟨Tryz.t112, by kernel_rfl, rfl, rfl, fun z h => by cases h; exact ⟨_, rfl, rfl, fun S h => y5 (zk (zm rfl) (zk (y5 (zk (zm rfl) (zk (zm rfl) (zk (zm rfl) (zk (zm rfl) (zM)))))) (zM)))⟩⟩, ⟨_, Tryz.underlying112, by kernel_rfl, by
  intro f hf
  simp only [List.mem_cons, List.not_mem_nil, or_false] at hf
  rcases hf with rfl | rfl
  ·exact ⟨Tryz.t3, by kernel_rfl⟩
  ·exact ⟨Tryz.t110, by kernel_rfl⟩⟩, fun _ => ZR (Go.Ex.z8O.eqn rfl) rfl rfl rfl rfl⟩
def z9P : TI := ⟨.array 4 112, 20, 160, some (.agg [.agg [.atom (.int .i64 0), .agg [.atom (.int .i64 0), .atom (.int .i64 0), .atom (.int .i64 0), .atom (.int .i64 0)]], .agg [.atom (.int .i64 0), .agg [.atom (.int .i64 0), .atom (.int .i64 0), .atom (.int .i64 0), .atom (.int .i64 0)]], .agg [.atom (.int .i64 0), .agg [.atom (.int .i64 0), .atom (.int .i64 0), .atom (.int .i64 0), .atom (.int .i64 0)]], .agg [.atom (.int .i64 0), .agg [.atom (.int .i64 0), .atom (.int .i64 0), .atom (.int .i64 0), .atom (.int .i64 0)]]]), true⟩
theorem z5H : kw Tryz.prog 113 z9P := ⟨⟨Tryz.t113, by kernel_rfl, rfl, rfl, fun z h => by cases h; exact ⟨_, rfl, rfl, fun S h => y5 (zk (y5 (zk (zm rfl) (zk (y5 (zk (zm rfl) (zk (zm rfl) (zk (zm rfl) (zk (zm rfl) (zM)))))) (zM)))) (zk (y5 (zk (zm rfl) (zk (y5 (zk (zm rfl) (zk (zm rfl) (zk (zm rfl) (zk (zm rfl) (zM)))))) (zM)))) (zk (y5 (zk (zm rfl) (zk (y5 (zk (zm rfl) (zk (zm rfl) (zk (zm rfl) (zk (zm rfl) (zM)))))) (zM)))) (zk (y5 (zk (zm rfl) (zk (y5 (zk (zm rfl) (zk (zm rfl) (zk (zm rfl) (zk (zm rfl) (zM)))))) (zM)))) (zM)))))⟩⟩, Tryz.underlying113, fun _ => ZR (Go.Ex.z8N.eqn rfl) rfl rfl rfl rfl⟩
def z9O : TI := ⟨.struct [(0, 4), (4, 20)], 24, 192, some (.agg [.agg [.atom (.int .i64 0), .atom (.int .i64 0), .atom (.int .i64 0), .atom (.int .i64 0)], .agg [.agg [.atom (.int .i64 0), .agg [.atom (.int .i64 0), .atom (.int .i64 0), .atom (.int .i64 0), .atom (.int .i64 0)]], .agg [.atom (.int .i64 0), .agg [.atom (.int .i64 0), .atom (.int .i64 0), .atom (.int .i64 0), .atom (.int .i64 0)]], .agg [.atom (.int .i64 0), .agg [.atom (.int .i64 0), .atom (.int .i64 0), .atom (.int .i64 0), .atom (.int .i64 0)]], .agg [.atom (.int .i64 0), .agg [.atom (.int .i64 0), .atom (.int .i64 0), .atom (.int .i64 0), .atom (.int .i64 0)]]]]), true⟩
theorem z2u : kw Tryz.prog 115 z9O := ⟨⟨Tryz.t115, by kernel_rfl, rfl, rfl, fun z h => by cases h; exact ⟨_, rfl, rfl, fun S h => y5 (zk (y5 (zk (zm rfl) (zk (zm rfl) (zk (zm rfl) (zk (zm rfl) (zM)))))) (zk (y5 (zk (y5 (zk (zm rfl) (zk (y5 (zk (zm rfl) (zk (zm rfl) (zk (zm rfl) (zk (zm rfl) (zM)))))) (zM)))) (zk (y5 (zk (zm rfl) (zk (y5 (zk (zm rfl) (zk (zm rfl) (zk (zm rfl) (zk (zm rfl) (zM)))))) (zM)))) (zk (y5 (zk (zm rfl) (zk (y5 (zk (zm rfl) (zk (zm rfl) (zk (zm rfl) (zk (zm rfl) (zM)))))) (zM)))) (zk (y5 (zk (zm rfl) (zk (y5 (zk (zm rfl) (zk (zm rfl) (zk (zm rfl) (zk (zm rfl) (zM)))))) (zM)))) (zM)))))) (zM)))⟩⟩, ⟨_, Tryz.underlying115, by kernel_rfl, by
  intro f hf
  simp only [List.mem_cons, List.not_mem_nil, or_false] at hf
  rcases hf with rfl | rfl
  ·exact ⟨Tryz.t110, by kernel_rfl⟩
  ·exact ⟨Tryz.t113, by kernel_rfl⟩⟩, fun _ => ZR (Go.Ex.z4x.eqn rfl) rfl rfl rfl rfl⟩
def z9N : TI := ⟨.other, 1, 8, some (.atom .nilFunc), false⟩
theorem z5G : kw Tryz.prog 129 z9N := ⟨⟨Tryz.t129, by kernel_rfl, rfl, rfl, fun z h => by cases h; exact ⟨_, rfl, rfl, fun S h => zm rfl⟩⟩, ⟨_, Tryz.underlying129, rfl⟩, by intro h; cases h⟩
def z9M : TI := ⟨.other, 1, 8, some (.atom .nilFunc), false⟩
theorem z5F : kw Tryz.prog 130 z9M := ⟨⟨Tryz.t130, by kernel_rfl, rfl, rfl, fun z h => by cases h; exact ⟨_, rfl, rfl, fun S h => zm rfl⟩⟩, ⟨_, Tryz.underlying130, rfl⟩, by intro h; cases h⟩
def z9L : TI := ⟨.other, 1, 8, some (.atom .nilFunc), false⟩
theorem z5E : kw Tryz.prog 136 z9L := ⟨⟨Tryz.t136, by kernel_rfl, rfl, rfl, fun z h => by cases h; exact ⟨_, rfl, rfl, fun S h => zm rfl⟩⟩, ⟨_, Tryz.underlying136, rfl⟩, by intro h; cases h⟩
def z9K : TI := ⟨.other, 1, 8, some (.atom .nilFunc), false⟩
theorem z5D : kw Tryz.prog 139 z9K := ⟨⟨Tryz.t139, by kernel_rfl, rfl, rfl, fun z h => by cases h; exact ⟨_, rfl, rfl, fun S h => zm rfl⟩⟩, ⟨_, Tryz.underlying139, rfl⟩, by intro h; cases h⟩
def z9J : TI := ⟨.other, 1, 8, some (.atom (.map none)), false⟩
theorem z5C : kw Tryz.prog 142 z9J := ⟨⟨Tryz.t142, by kernel_rfl, rfl, rfl, fun z h => by cases h; exact ⟨_, rfl, rfl, fun S h => zm rfl⟩⟩, ⟨_, Tryz.underlying142, rfl⟩, by intro h; cases h⟩
def z9I : TI := ⟨.other, 1, 8, some (.atom .nilFunc), false⟩
theorem z5B : kw Tryz.prog 149 z9I := ⟨⟨Tryz.t149, by kernel_rfl, rfl, rfl, fun z h => by cases h; exact ⟨_, rfl, rfl, fun S h => zm rfl⟩⟩, ⟨_, Tryz.underlying149, rfl⟩, by intro h; cases h⟩
def z9H : TI := ⟨.other, 1, 8, some (.atom .nilFunc), false⟩
theorem z5A : kw Tryz.prog 150 z9H := ⟨⟨Tryz.t150, by kernel_rfl, rfl, rfl, fun z h => by cases h; exact ⟨_, rfl, rfl, fun S h => zm rfl⟩⟩, ⟨_, Tryz.underlying150, rfl⟩, by intro h; cases h⟩
def z9G : TI := ⟨.other, 1, 8, some (.atom .nilFunc), false⟩
theorem z5z : kw Tryz.prog 151 z9G := ⟨⟨Tryz.t151, by kernel_rfl, rfl, rfl, fun z h => by cases h; exact ⟨_, rfl, rfl, fun S h => zm rfl⟩⟩, ⟨_, Tryz.underlying151, rfl⟩, by intro h; cases h⟩
def z9F : TI := ⟨.other, 1, 16, some (.atom .nilIface), false⟩
theorem z5y : kw Tryz.prog 154 z9F := ⟨⟨Tryz.t154, by kernel_rfl, rfl, rfl, fun z h => by cases h; exact ⟨_, rfl, rfl, fun S h => zm rfl⟩⟩, ⟨_, Tryz.underlying154, rfl⟩, by intro h; cases h⟩
def z9E : TI := ⟨.other, 1, 8, some (.atom .nilFunc), false⟩
theorem z5x : kw Tryz.prog 160 z9E := ⟨⟨Tryz.t160, by kernel_rfl, rfl, rfl, fun z h => by cases h; exact ⟨_, rfl, rfl, fun S h => zm rfl⟩⟩, ⟨_, Tryz.underlying160, rfl⟩, by intro h; cases h⟩
def z9D : TI := ⟨.other, 1, 8, some (.atom .nilFunc), false⟩
theorem z5w : kw Tryz.prog 174 z9D := ⟨⟨Tryz.t174, by kernel_rfl, rfl, rfl, fun z h => by cases h; exact ⟨_, rfl, rfl, fun S h => zm rfl⟩⟩, ⟨_, Tryz.underlying174, rfl⟩, by intro h; cases h⟩
def tiL : List (Nat × TI) := [(1, ti1), (2, ti2), (3, ti3), (4, ti4), (5, ti5), (22, zek), (23, zej), (25, zei), (26, zeh), (27, zeg), (29, zef), (31, zee), (32, zed), (36, zec), (37, zeb), (39, zea), (40, ze9), (45, ze8), (50, ze7), (51, ze6), (53, ze5), (59, ze4), (61, ze3), (65, ze2), (68, ze1), (73, ze0), (82, zdZ), (85, zdY), (87, zdX), (93, zdW), (95, zdV), (96, zdU), (98, zdT), (100, z9V), (103, z9U), (106, z9T), (108, z9S), (110, z9R), (112, z9Q), (113, z9P), (115, z9O), (129, z9N), (130, z9M), (136, z9L), (139, z9K), (142, z9J), (149, z9I), (150, z9H), (151, z9G), (154, z9F), (160, z9E), (174, z9D)]
def xZ : TT := fun t => (tiL.find? fun p => p.1 == t).map (·.2)
def z5i (P : Program) : List (Nat × TI) → Prop
 | [] => True
 | p :: l => kw P p.1 p.2 ∧ z5i P l
theorem z5i.mem {P : Program} : ∀ {l : List (Nat × TI)}, z5i P l → ∀ p ∈ l, kw P p.1 p.2
 | p :: _, h, q, hq => by
  rcases List.mem_cons.1 hq with rfl | hq
  ·exact h.1
  ·exact z5i.mem h.2 q hq
 | [], _, _, hq => by cases hq
theorem z9x : z5i Tryz.prog tiL := ⟨z9C, z9B, z9A, z9z, z9y, z84, z83, z82, z81, z80, z7Z, z7Y, z7X, z7W, z7V, z7U, z7T, z7S, z7R, z7Q, z7P, z7O, z7N, z7M, z7L, z7K, z7J, z7I, z7H, z7G, z7F, z7E, z7D, z5N, z5M, z5L, z5K, z5J, z5I, z5H, z2u, z5G, z5F, z5E, z5D, z5C, z5B, z5A, z5z, z5y, z5x, z5w, trivial⟩
theorem zR : wR Tryz.prog xZ := by
 intro t i h
 unfold xZ at h
 rw [Option.map_eq_some_iff] at h
 obtain ⟨p, h1, rfl⟩ := h
 have h2 := List.find?_some h1
 have h3 := z9x.mem p (List.mem_of_find?_eq_some h1)
 rw [beq_iff_eq.1 h2] at h3
 exact h3
theorem zfS : xZ 1 = some ⟨.other, 1, 8, some (.atom .nilFunc), false⟩ := rfl
theorem zfR : xZ 2 = some ⟨.int .i64, 1, 8, some (.atom (.int .i64 0)), false⟩ := rfl
theorem zfQ : xZ 3 = some ⟨.int .i64, 1, 8, some (.atom (.int .i64 0)), false⟩ := rfl
theorem zfP : xZ 4 = some ⟨.bool, 1, 1, some (.atom (.bool false)), false⟩ := rfl
theorem zfO : xZ 5 = some ⟨.int .u8, 1, 1, some (.atom (.int .u8 0)), false⟩ := rfl
theorem zdx : xZ 22 = some ⟨.array 2 5, 2, 2, some (.agg [.atom (.int .u8 0), .atom (.int .u8 0)]), true⟩ := rfl
theorem zdw : xZ 23 = some ⟨.slice 95, 1, 24, some (.osl 3 true []), false⟩ := rfl
theorem zdv : xZ 25 = some ⟨.struct [(0, 2), (2, 1)], 3, 32, some (.agg [.agg [.atom (.int .u8 0), .atom (.int .u8 0)], .osl 3 true []]), false⟩ := rfl
theorem zdu : xZ 26 = some ⟨.slice 3, 1, 24, some (.osl 1 true []), false⟩ := rfl
theorem zdt : xZ 27 = some ⟨.slice 87, 1, 24, some (.osl 3 true []), false⟩ := rfl
theorem zds : xZ 29 = some ⟨.struct [(0, 1), (1, 1), (2, 1), (3, 1)], 4, 64, some (.agg [.atom (.int .i64 0), .atom (.int .i64 0), .osl 1 true [], .osl 3 true []]), false⟩ := rfl
theorem zdr : xZ 31 = some ⟨.slice 39, 1, 24, some (.osl 2 true []), false⟩ := rfl
theorem zdq : xZ 32 = some ⟨.slice 45, 1, 24, some (.osl 1 true []), false⟩ := rfl
theorem zdp : xZ 36 = some ⟨.slice 65, 1, 24, some (.osl 4 true []), false⟩ := rfl
theorem zdo : xZ 37 = some ⟨.slice 26, 1, 24, some (.osl 1 true []), false⟩ := rfl
theorem zdn : xZ 39 = some ⟨.struct [(0, 1), (1, 1)], 2, 48, some (.agg [.osl 1 true [], .osl 1 true []]), false⟩ := rfl
theorem zdm : xZ 40 = some ⟨.int .i64, 1, 8, some (.atom (.int .i64 0)), false⟩ := rfl
theorem zdl : xZ 45 = some ⟨.slice 100, 1, 24, some (.osl 5 true []), false⟩ := rfl
theorem zdk : xZ 50 = some ⟨.int .u64, 1, 8, some (.atom (.int .u64 0)), false⟩ := rfl
theorem zdj : xZ 51 = some ⟨.slice 59, 1, 24, some (.osl 1 true []), false⟩ := rfl
theorem zdi : xZ 53 = some ⟨.struct [(0, 1), (1, 1), (2, 1)], 3, 40, some (.agg [.atom (.int .i64 0), .atom (.int .i64 0), .osl 1 true []]), false⟩ := rfl
theorem zdh : xZ 59 = some ⟨.slice 61, 1, 24, some (.osl 3 true []), false⟩ := rfl
theorem zdg : xZ 61 = some ⟨.struct [(0, 1), (1, 1), (2, 1)], 3, 24, some (.agg [.atom (.int .u8 0), .atom (.int .i64 0), .atom (.int .i64 0)]), true⟩ := rfl
theorem zdf : xZ 65 = some ⟨.struct [(0, 1), (1, 1), (2, 1), (3, 1)], 4, 32, some (.agg [.atom (.int .i64 0), .atom (.int .i64 0), .atom (.int .i64 0), .atom (.int .i64 0)]), true⟩ := rfl
theorem zde : xZ 68 = some ⟨.slice 73, 1, 24, some (.osl 6 true []), false⟩ := rfl
theorem zdd : xZ 73 = some ⟨.struct [(0, 4), (4, 2)], 6, 80, some (.agg [.agg [.atom (.int .i64 0), .atom (.int .i64 0), .atom (.int .i64 0), .atom (.int .i64 0)], .agg [.osl 1 true [], .osl 1 true []]]), false⟩ := rfl
theorem zdc : xZ 82 = some ⟨.other, 1, 8, some (.atom .nilFunc), false⟩ := rfl
theorem zdb : xZ 85 = some ⟨.slice 98, 1, 24, some (.osl 5 true []), false⟩ := rfl
theorem zda : xZ 87 = some ⟨.struct [(0, 1), (1, 1), (2, 1)], 3, 56, some (.agg [.atom (.int .i64 0), .osl 5 true [], .osl 1 true []]), false⟩ := rfl
theorem zd9 : xZ 93 = some ⟨.slice 96, 1, 24, some (.osl 5 true []), false⟩ := rfl
theorem zd8 : xZ 95 = some ⟨.struct [(0, 1), (1, 1), (2, 1)], 3, 32, some (.agg [.atom (.int .u8 0), .atom (.int .u8 0), .osl 5 true []]), false⟩ := rfl
theorem zd7 : xZ 96 = some ⟨.array 5 5, 5, 5, some (.agg [.atom (.int .u8 0), .atom (.int .u8 0), .atom (.int .u8 0), .atom (.int .u8 0), .atom (.int .u8 0)]), true⟩ := rfl
theorem zd6 : xZ 98 = some ⟨.struct [(0, 1), (1, 1), (2, 1), (3, 1), (4, 1)], 5, 40, some (.agg [.atom (.int .i64 0), .atom (.int .u8 0), .atom (.int .i64 0), .atom (.int .i64 0), .atom (.int .i64 0)]), true⟩ := rfl
theorem zb8 : xZ 100 = some ⟨.struct [(0, 4), (4, 1)], 5, 40, some (.agg [.agg [.atom (.int .i64 0), .atom (.int .i64 0), .atom (.int .i64 0), .atom (.int .i64 0)], .atom (.int .i64 0)]), true⟩ := rfl
theorem zb7 : xZ 103 = some ⟨.slice 115, 1, 24, some (.osl 24 true []), false⟩ := rfl
theorem zb6 : xZ 106 = some ⟨.slice 108, 1, 24, some (.osl 5 true []), false⟩ := rfl
theorem zb5 : xZ 108 = some ⟨.struct [(0, 1), (1, 4)], 5, 40, some (.agg [.atom (.int .i64 0), .agg [.atom (.int .i64 0), .atom (.int .i64 0), .atom (.int .i64 0), .atom (.int .i64 0)]]), true⟩ := rfl
theorem zb4 : xZ 110 = some ⟨.array 4 3, 4, 32, some (.agg [.atom (.int .i64 0), .atom (.int .i64 0), .atom (.int .i64 0), .atom (.int .i64 0)]), true⟩ := rfl
theorem zb3 : xZ 112 = some ⟨.struct [(0, 1), (1, 4)], 5, 40, some (.agg [.atom (.int .i64 0), .agg [.atom (.int .i64 0), .atom (.int .i64 0), .atom (.int .i64 0), .atom (.int .i64 0)]]), true⟩ := rfl
theorem zb2 : xZ 113 = some ⟨.array 4 112, 20, 160, some (.agg [.agg [.atom (.int .i64 0), .agg [.atom (.int .i64 0), .atom (.int .i64 0), .atom (.int .i64 0), .atom (.int .i64 0)]], .agg [.atom (.int .i64 0), .agg [.atom (.int .i64 0), .atom (.int .i64 0), .atom (.int .i64 0), .atom (.int .i64 0)]], .agg [.atom (.int .i64 0), .agg [.atom (.int .i64 0), .atom (.int .i64 0), .atom (.int .i64 0), .atom (.int .i64 0)]], .agg [.atom (.int .i64 0), .agg [.atom (.int .i64 0), .atom (.int .i64 0), .atom (.int .i64 0), .atom (.int .i64 0)]]]), true⟩ := rfl
theorem zb1 : xZ 115 = some ⟨.struct [(0, 4), (4, 20)], 24, 192, some (.agg [.agg [.atom (.int .i64 0), .atom (.int .i64 0), .atom (.int .i64 0), .atom (.int .i64 0)], .agg [.agg [.atom (.int .i64 0), .agg [.atom (.int .i64 0), .atom (.int .i64 0), .atom (.int .i64 0), .atom (.int .i64 0)]], .agg [.atom (.int .i64 0), .agg [.atom (.int .i64 0), .atom (.int .i64 0), .atom (.int .i64 0), .atom (.int .i64 0)]], .agg [.atom (.int .i64 0), .agg [.atom (.int .i64 0), .atom (.int .i64 0), .atom (.int .i64 0), .atom (.int .i64 0)]], .agg [.atom (.int .i64 0), .agg [.atom (.int .i64 0), .atom (.int .i64 0), .atom (.int .i64 0), .atom (.int .i64 0)]]]]), true⟩ := rfl
theorem zb0 : xZ 129 = some ⟨.other, 1, 8, some (.atom .nilFunc), false⟩ := rfl
theorem zaZ : xZ 130 = some ⟨.other, 1, 8, some (.atom .nilFunc), false⟩ := rfl
theorem zaY : xZ 136 = some ⟨.other, 1, 8, some (.atom .nilFunc), false⟩ := rfl
theorem zaX : xZ 139 = some ⟨.other, 1, 8, some (.atom .nilFunc), false⟩ := rfl
theorem zaW : xZ 142 = some ⟨.other, 1, 8, some (.atom (.map none)), false⟩ := rfl
theorem zaV : xZ 149 = some ⟨.other, 1, 8, some (.atom .nilFunc), false⟩ := rfl
theorem zaU : xZ 150 = some ⟨.other, 1, 8, some (.atom .nilFunc), false⟩ := rfl
theorem zaT : xZ 151 = some ⟨.other, 1, 8, some (.atom .nilFunc), false⟩ := rfl
theorem zaS : xZ 154 = some ⟨.other, 1, 16, some (.atom .nilIface), false⟩ := rfl
theorem zaR : xZ 160 = some ⟨.other, 1, 8, some (.atom .nilFunc), false⟩ := rfl
theorem zaQ : xZ 174 = some ⟨.other, 1, 8, some (.atom .nilFunc), false⟩ := rfl
attribute [go_sem] zfS zfR zfQ zfP zfO zdx zdw zdv zdu zdt zds zdr zdq zdp zdo zdn zdm zdl zdk zdj zdi zdh zdg zdf zde zdd zdc zdb zda zd9 zd8 zd7 zd6 zb8 zb7 zb6 zb5 zb4 zb3 zb2 zb1 zb0 zaZ zaY zaX zaW zaV zaU zaT zaS zaR zaQ
end Go.Own

namespace Go.Proofs
open Go.RowKit Go.Extern.Stop Go.Stop Go.Extern
set_option maxRecDepth 100000
theorem Tryz.isTypeOf (v : Value) (w : World) : (Extern.ReflectliteType.typeOf #[.iface 201 v]).run Tryz.prog w = .ok (.iface 188 (.agg #[.pointer (some ⟨1, 201, none⟩)])) w := by kernel_rfl
theorem Tryz.isComparable (w : World) : (callFunc 132 #[.agg #[.pointer (some ⟨1, 201, none⟩)]]).run Tryz.prog w = .ok (.value (.bool true)) w := by
 rw [@run_callFunc_extern Tryz.prog 132 _ (Extern.ReflectliteType.method fun t => do Extern.Rtype.noPackHeld "Comparable" t; pure (.bool (← typeInfo t).comparable)) Tryz.func132 (by kernel_rfl) (by kernel_rfl) (by kernel_rfl) (by kernel_rfl)]
 kernel_rfl
theorem Tryz.isMethodComparable (v : Value) (w : World) : (Go.method 338 188 v "Comparable").run Tryz.prog w = .ok (132, v) w := by kernel_rfl
theorem Tryz.isComp : (Tryz.prog.info? 201).map (·.comparable) = some true := by kernel_rfl
theorem Tryz.isSize : (Tryz.prog.info? 226).map (·.size) = some 1 := by kernel_rfl
theorem Tryz.is_same (a : Addr) (w : World) :
  Calls Tryz.prog 85 #[.iface 201 (.pointer (some a)), .iface 201 (.pointer (some a))] w fun e w' => e = .returned (.bool true) ∧ w' = w := by
 obtain ⟨i, hi, hcmp⟩ := Option.map_eq_some_iff.1 Tryz.isComp
 obtain ⟨j, hj, hjs⟩ := Option.map_eq_some_iff.1 Tryz.isSize
 have h8 := @run_callFunc_extern Tryz.prog 105 _ Extern.ReflectliteType.typeOf Tryz.func105 (by kernel_rfl) (by kernel_rfl) (by kernel_rfl) (by kernel_rfl)
 have tT := Tryz.isTypeOf
 have cT := Tryz.isComparable
 have mR := Tryz.isMethodComparable
 have heq := run_eql_iface_ptr_same (P := Tryz.prog) w a Tryz.underlying154 Tryz.underlying201 hi hcmp hj
 go_enter Tryz.func85, Tryz.ntmps85
 go_wp2
 refine wp_loop_rounds 1 ?_
 rw [rounds_succ]
 go_wp2
 go_ret
 exact ⟨rfl, rfl⟩
theorem Tryz.is_nil (b : Addr) (w : World) :
  Calls Tryz.prog 85 #[.nilIface, .iface 201 (.pointer (some b))] w fun e w' => e = .returned (.bool false) ∧ w' = w := by
 have hn := run_eql_iface_nil_left (P := Tryz.prog) w 201 (.pointer (some b)) Tryz.underlying154
 go_enter Tryz.func85, Tryz.ntmps85
 go_wp2
 go_ret
 exact ⟨rfl, rfl⟩
end Go.Proofs
namespace Go.Own
open Go.Proofs
theorem z6z {S : zr} {h : Array Obj} {x y : A} {vs : List Value} {F : List Nat} (hx : x.isD = true) (hy : y.isD = true) (q : YL S h [x, y] vs F) : ∃ u v, vs = [u, v] ∧ vS S x u ∧ vS S y v ∧ F = [] := by
 match vs, q with
 | [u, v], q =>
  obtain ⟨F1, F2, rfl, q1, F3, F4, rfl, q2, q3⟩ := q
  have e3 : F4 = [] := q3
  subst e3
  have d : ∀ {x : A} {u : Value} {F : List Nat}, x.isD = true → Has S h x u F → vS S x u ∧ F = [] := by
   intro x u F hx q
   rcases q with ⟨q, rfl⟩ | ⟨cs, q1, q2, q3⟩
   ·exact ⟨q.rep1 hx, rfl⟩
   ·obtain ⟨r, rfl⟩ := q1.isD hx
    exact ⟨⟨cs, r, q3⟩, rfl⟩
  obtain ⟨r1, rfl⟩ := d hx q1
  obtain ⟨r2, rfl⟩ := d hy q2
  exact ⟨u, v, rfl, r1, r2, rfl⟩
theorem z8H (e : Bool) : XF Tryz.prog 85 [eEr 0 201 e, eEr 0 201 true] (eB e) := by
 refine ⟨⟨_, Tryz.func85, by kernel_rfl, by kernel_rfl⟩, ?_⟩
 intro S w vs F hS hq hF
 obtain ⟨u, v, rfl, r1, r2, rfl⟩ := z6z rfl rfl hq
 obtain ⟨g1, g2⟩ := z7p r1
 obtain ⟨⟨s1, a, rfl⟩, _⟩ : (S 0 0 = some v ∧ ∃ a, v = .iface 201 (.pointer (some a))) ∧ True := ⟨(z7p r2).1 rfl, trivial⟩
 have fin : ∀ (b : Bool) {e' : Ending} {w' : World}, e' = .returned (.bool b) ∧ w' = w → b = e → ∃ v S' F', e' = .returned v ∧ Y2 (fun k => w.heap.size ≤ k ∨ k ∈ ([] : List Nat)) w w' ∧ (∀ b o u, S b o = some u → S' b o = some u) ∧ (∀ b o, b < w.heap.size → b ∉ ([] : List Nat) → S' b o = S b o) ∧ wM S' w' ∧ Has S' w'.heap (eB e) v F' ∧ F'.Nodup ∧ ∀ k ∈ F', w.heap.size ≤ k ∨ k ∈ ([] : List Nat) := by
  rintro b e' w' ⟨rfl, rfl⟩ rfl
  exact ⟨_, S, [], rfl, Y2.refl _ _, fun _ _ _ h => h, fun _ _ _ _ => rfl, hS, .inl ⟨zz.2 ⟨rfl, rfl⟩, rfl⟩, by simp, by simp⟩
 cases e with
 | true =>
  obtain ⟨s2, b, rfl⟩ := g1 rfl
  rw [s1] at s2
  cases s2
  exact (Tryz.is_same _ w).mono fun e' w' h => fin true h rfl
 | false =>
  have := g2 rfl
  subst this
  exact (Tryz.is_nil _ w).mono fun e' w' h => fin false h rfl
structure z73 (α : Type) where
 e0 : α
 e1 : α
 deriving DecidableEq
section
variable {α : Type}
def Kf (f : α → A) (x : z73 α) : A := .agg [f x.e0, f x.e1]
instance (f g : α → A) [h : qX f g] : qX (Kf f) (Kf g) := ⟨fun x => by simp [Kf, A.loose, A.looses, h.lo]⟩
instance (f : α → A) [h : wN f] : wN (Kf f) := ⟨fun x y q => by
 simp only [Kf, A.agg.injEq, List.cons.injEq, and_true] at q
 cases x; cases y
 simp only [z73.mk.injEq]
 exact ⟨h.inj _ _ q.1, h.inj _ _ q.2⟩⟩
end
structure zD (α : Type) where
 e0 : α
 e1 : α
 e2 : α
 e3 : α
 deriving DecidableEq
instance {α : Type} [BEq α] : BEq (zD α) := ⟨fun x y => (x.e0 == y.e0) && (x.e1 == y.e1) && (x.e2 == y.e2) && (x.e3 == y.e3)⟩
section
variable {α : Type}
def Wg (f : α → A) (x : zD α) : A := .agg [f x.e0, f x.e1, f x.e2, f x.e3]
instance (f : α → A) [h : W0 f] : W0 (Wg f) := ⟨fun x => by simp [Wg, A.isD, A.areD, h.isD]⟩
instance (f g : α → A) [h : qX f g] : qX (Wg f) (Wg g) := ⟨fun x => by simp [Wg, A.loose, A.looses, h.lo]⟩
instance (f g : α → A) [h : XE f g] : XE (Wg f) (Wg g) := ⟨fun x => by simp [Wg, A.live, A.lives, h.live], fun x => by simp [Wg, A.shut, A.shuts, h.sh]⟩
instance (f : α → A) [h : wN f] : wN (Wg f) := ⟨fun x y q => by
 simp only [Wg, A.agg.injEq, List.cons.injEq, and_true] at q
 cases x; cases y
 simp only [zD.mk.injEq]
 exact ⟨h.inj _ _ q.1, h.inj _ _ q.2.1, h.inj _ _ q.2.2.1, h.inj _ _ q.2.2.2⟩⟩
end
section
variable {α : Type}
def zD.toL (x : zD α) : List α := [x.e0, x.e1, x.e2, x.e3]
def zD.ofL : List α → zD α → zD α
 | [x0, x1, x2, x3], _ => ⟨x0, x1, x2, x3⟩
 | _, d => d
theorem zD.toL_ofL (l : List α) (d : zD α) (h : l.length = 4) : (zD.ofL l d).toL = l := by
 match l, h with
 | [x0, x1, x2, x3], _ => rfl
def zD.setI (x : zD α) (i : Int) (v : α) : zD α := zD.ofL (x.toL.set i.toNat v) x
theorem zD.setL (f : α → A) (x : zD α) (i : Int) (v : α) : (x.toL.map f).set i.toNat (f v) = ((zD.setI x i v).toL).map f := by
 unfold zD.setI
 rw [zD.toL_ofL _ _ (by simp [zD.toL]), List.map_set]
end
structure z3t (α : Type) where
 e0 : α
 e1 : α
 e2 : α
 e3 : α
 e4 : α
 deriving DecidableEq
section
variable {α : Type}
def XN (f : α → A) (x : z3t α) : A := .agg [f x.e0, f x.e1, f x.e2, f x.e3, f x.e4]
instance (f g : α → A) [h : qX f g] : qX (XN f) (XN g) := ⟨fun x => by simp [XN, A.loose, A.looses, h.lo]⟩
instance (f : α → A) [h : wN f] : wN (XN f) := ⟨fun x y q => by
 simp only [XN, A.agg.injEq, List.cons.injEq, and_true] at q
 cases x; cases y
 simp only [z3t.mk.injEq]
 exact ⟨h.inj _ _ q.1, h.inj _ _ q.2.1, h.inj _ _ q.2.2.1, h.inj _ _ q.2.2.2.1, h.inj _ _ q.2.2.2.2⟩⟩
end
structure xA where
 States : Int
 Final : Int
 Arcs : List (z3t Int)
def uO (f0 : Int → A) (f1 : Int → A) (f2 : List (z3t Int) → A) (x : xA) : A := .agg [f0 x.States, f1 x.Final, f2 x.Arcs]
instance (f0 : Int → A) (f1 : Int → A) (f2 : List (z3t Int) → A) (g0 : Int → A) (g1 : Int → A) (g2 : List (z3t Int) → A) [h0 : qX f0 g0] [h1 : qX f1 g1] [h2 : qX f2 g2] : qX (uO f0 f1 f2) (uO g0 g1 g2) := ⟨fun x => by simp [uO, A.loose, A.looses, h0.lo, h1.lo, h2.lo]⟩
instance (f0 : Int → A) (f1 : Int → A) (f2 : List (z3t Int) → A) [h0 : wN f0] [h1 : wN f1] [h2 : wN f2] : wN (uO f0 f1 f2) := ⟨fun x y h => by
 simp only [uO, A.agg.injEq, List.cons.injEq, and_true] at h
 cases x; cases y
 simp only [xA.mk.injEq]
 exact ⟨h0.inj _ _ h.1, h1.inj _ _ h.2.1, h2.inj _ _ h.2.2⟩⟩
structure ya where
 Channels : z73 Int
 Parts : List xA
def kT (f0 : z73 Int → A) (f1 : List xA → A) (x : ya) : A := .agg [f0 x.Channels, f1 x.Parts]
instance (f0 : z73 Int → A) (f1 : List xA → A) (g0 : z73 Int → A) (g1 : List xA → A) [h0 : qX f0 g0] [h1 : qX f1 g1] : qX (kT f0 f1) (kT g0 g1) := ⟨fun x => by simp [kT, A.loose, A.looses, h0.lo, h1.lo]⟩
instance (f0 : z73 Int → A) (f1 : List xA → A) [h0 : wN f0] [h1 : wN f1] : wN (kT f0 f1) := ⟨fun x y h => by
 simp only [kT, A.agg.injEq, List.cons.injEq, and_true] at h
 cases x; cases y
 simp only [ya.mk.injEq]
 exact ⟨h0.inj _ _ h.1, h1.inj _ _ h.2⟩⟩
structure za where
 Part : Int
 Arc : Int
 Other : Int
 With : Int
def yM (f0 : Int → A) (f1 : Int → A) (f2 : Int → A) (f3 : Int → A) (x : za) : A := .agg [f0 x.Part, f1 x.Arc, f2 x.Other, f3 x.With]
instance (f0 : Int → A) (f1 : Int → A) (f2 : Int → A) (f3 : Int → A) [h0 : W0 f0] [h1 : W0 f1] [h2 : W0 f2] [h3 : W0 f3] : W0 (yM f0 f1 f2 f3) := ⟨fun x => by simp [yM, A.isD, A.areD, h0.isD, h1.isD, h2.isD, h3.isD]⟩
instance (f0 : Int → A) (f1 : Int → A) (f2 : Int → A) (f3 : Int → A) (g0 : Int → A) (g1 : Int → A) (g2 : Int → A) (g3 : Int → A) [h0 : qX f0 g0] [h1 : qX f1 g1] [h2 : qX f2 g2] [h3 : qX f3 g3] : qX (yM f0 f1 f2 f3) (yM g0 g1 g2 g3) := ⟨fun x => by simp [yM, A.loose, A.looses, h0.lo, h1.lo, h2.lo, h3.lo]⟩
instance (f0 : Int → A) (f1 : Int → A) (f2 : Int → A) (f3 : Int → A) (g0 : Int → A) (g1 : Int → A) (g2 : Int → A) (g3 : Int → A) [h0 : XE f0 g0] [h1 : XE f1 g1] [h2 : XE f2 g2] [h3 : XE f3 g3] : XE (yM f0 f1 f2 f3) (yM g0 g1 g2 g3) := ⟨fun x => by simp [yM, A.live, A.lives, h0.live, h1.live, h2.live, h3.live], fun x => by simp [yM, A.shut, A.shuts, h0.sh, h1.sh, h2.sh, h3.sh]⟩
instance (f0 : Int → A) (f1 : Int → A) (f2 : Int → A) (f3 : Int → A) [h0 : wN f0] [h1 : wN f1] [h2 : wN f2] [h3 : wN f3] : wN (yM f0 f1 f2 f3) := ⟨fun x y h => by
 simp only [yM, A.agg.injEq, List.cons.injEq, and_true] at h
 cases x; cases y
 simp only [za.mk.injEq]
 exact ⟨h0.inj _ _ h.1, h1.inj _ _ h.2.1, h2.inj _ _ h.2.2.1, h3.inj _ _ h.2.2.2⟩⟩
structure ze where
 From : Int
 Kind : Int
 Channel : Int
 Message : Int
 To : Int
def xD (f0 : Int → A) (f1 : Int → A) (f2 : Int → A) (f3 : Int → A) (f4 : Int → A) (x : ze) : A := .agg [f0 x.From, f1 x.Kind, f2 x.Channel, f3 x.Message, f4 x.To]
instance (f0 : Int → A) (f1 : Int → A) (f2 : Int → A) (f3 : Int → A) (f4 : Int → A) [h0 : W0 f0] [h1 : W0 f1] [h2 : W0 f2] [h3 : W0 f3] [h4 : W0 f4] : W0 (xD f0 f1 f2 f3 f4) := ⟨fun x => by simp [xD, A.isD, A.areD, h0.isD, h1.isD, h2.isD, h3.isD, h4.isD]⟩
instance (f0 : Int → A) (f1 : Int → A) (f2 : Int → A) (f3 : Int → A) (f4 : Int → A) (g0 : Int → A) (g1 : Int → A) (g2 : Int → A) (g3 : Int → A) (g4 : Int → A) [h0 : qX f0 g0] [h1 : qX f1 g1] [h2 : qX f2 g2] [h3 : qX f3 g3] [h4 : qX f4 g4] : qX (xD f0 f1 f2 f3 f4) (xD g0 g1 g2 g3 g4) := ⟨fun x => by simp [xD, A.loose, A.looses, h0.lo, h1.lo, h2.lo, h3.lo, h4.lo]⟩
instance (f0 : Int → A) (f1 : Int → A) (f2 : Int → A) (f3 : Int → A) (f4 : Int → A) (g0 : Int → A) (g1 : Int → A) (g2 : Int → A) (g3 : Int → A) (g4 : Int → A) [h0 : XE f0 g0] [h1 : XE f1 g1] [h2 : XE f2 g2] [h3 : XE f3 g3] [h4 : XE f4 g4] : XE (xD f0 f1 f2 f3 f4) (xD g0 g1 g2 g3 g4) := ⟨fun x => by simp [xD, A.live, A.lives, h0.live, h1.live, h2.live, h3.live, h4.live], fun x => by simp [xD, A.shut, A.shuts, h0.sh, h1.sh, h2.sh, h3.sh, h4.sh]⟩
instance (f0 : Int → A) (f1 : Int → A) (f2 : Int → A) (f3 : Int → A) (f4 : Int → A) [h0 : wN f0] [h1 : wN f1] [h2 : wN f2] [h3 : wN f3] [h4 : wN f4] : wN (xD f0 f1 f2 f3 f4) := ⟨fun x y h => by
 simp only [xD, A.agg.injEq, List.cons.injEq, and_true] at h
 cases x; cases y
 simp only [ze.mk.injEq]
 exact ⟨h0.inj _ _ h.1, h1.inj _ _ h.2.1, h2.inj _ _ h.2.2.1, h3.inj _ _ h.2.2.2.1, h4.inj _ _ h.2.2.2.2⟩⟩
structure zi where
 States : Int
 Arcs : List ze
 Final : List Int
def yK (f0 : Int → A) (f1 : List ze → A) (f2 : List Int → A) (x : zi) : A := .agg [f0 x.States, f1 x.Arcs, f2 x.Final]
instance (f0 : Int → A) (f1 : List ze → A) (f2 : List Int → A) [h : zc3 f2] : zc3 (yK f0 f1 f2) := ⟨fun x => by simp [yK, A.isD, A.areD, h.no]⟩
instance (f0 : Int → A) (f1 : List ze → A) (f2 : List Int → A) (g0 : Int → A) (g1 : List ze → A) (g2 : List Int → A) [h0 : qX f0 g0] [h1 : qX f1 g1] [h2 : qX f2 g2] : qX (yK f0 f1 f2) (yK g0 g1 g2) := ⟨fun x => by simp [yK, A.loose, A.looses, h0.lo, h1.lo, h2.lo]⟩
instance (f0 : Int → A) (f1 : List ze → A) (f2 : List Int → A) (g0 : Int → A) (g1 : List ze → A) (g2 : List Int → A) [h0 : XE f0 g0] [h1 : XE f1 g1] [h2 : XE f2 g2] : XE (yK f0 f1 f2) (yK g0 g1 g2) := ⟨fun x => by simp [yK, A.live, A.lives, h0.live, h1.live, h2.live], fun x => by simp [yK, A.shut, A.shuts, h0.sh, h1.sh, h2.sh]⟩
instance (f0 : Int → A) (f1 : List ze → A) (f2 : List Int → A) [h0 : wN f0] [h1 : wN f1] [h2 : wN f2] : wN (yK f0 f1 f2) := ⟨fun x y h => by
 simp only [yK, A.agg.injEq, List.cons.injEq, and_true] at h
 cases x; cases y
 simp only [zi.mk.injEq]
 exact ⟨h0.inj _ _ h.1, h1.inj _ _ h.2.1, h2.inj _ _ h.2.2⟩⟩
structure z8 where
 Messages : Int
 Labels : Int
 Channels : List Int
 Parts : List zi
def w6 (f0 : Int → A) (f1 : Int → A) (f2 : List Int → A) (f3 : List zi → A) (x : z8) : A := .agg [f0 x.Messages, f1 x.Labels, f2 x.Channels, f3 x.Parts]
instance (f0 : Int → A) (f1 : Int → A) (f2 : List Int → A) (f3 : List zi → A) (g0 : Int → A) (g1 : Int → A) (g2 : List Int → A) (g3 : List zi → A) [h0 : qX f0 g0] [h1 : qX f1 g1] [h2 : qX f2 g2] [h3 : qX f3 g3] : qX (w6 f0 f1 f2 f3) (w6 g0 g1 g2 g3) := ⟨fun x => by simp [w6, A.loose, A.looses, h0.lo, h1.lo, h2.lo, h3.lo]⟩
instance (f0 : Int → A) (f1 : Int → A) (f2 : List Int → A) (f3 : List zi → A) [h0 : wN f0] [h1 : wN f1] [h2 : wN f2] [h3 : wN f3] : wN (w6 f0 f1 f2 f3) := ⟨fun x y h => by
 simp only [w6, A.agg.injEq, List.cons.injEq, and_true] at h
 cases x; cases y
 simp only [z8.mk.injEq]
 exact ⟨h0.inj _ _ h.1, h1.inj _ _ h.2.1, h2.inj _ _ h.2.2.1, h3.inj _ _ h.2.2.2⟩⟩
structure z7 where
 States : List Int
 Queues : List (List Int)
def zK (f0 : List Int → A) (f1 : List (List Int) → A) (x : z7) : A := .agg [f0 x.States, f1 x.Queues]
instance (f0 : List Int → A) (f1 : List (List Int) → A) [h0 : W0 f0] [h1 : W0 f1] : W0 (zK f0 f1) := ⟨fun x => by simp [zK, A.isD, A.areD, h0.isD, h1.isD]⟩
instance (f0 : List Int → A) (f1 : List (List Int) → A) (g0 : List Int → A) (g1 : List (List Int) → A) [h0 : qX f0 g0] [h1 : qX f1 g1] : qX (zK f0 f1) (zK g0 g1) := ⟨fun x => by simp [zK, A.loose, A.looses, h0.lo, h1.lo]⟩
instance (f0 : List Int → A) (f1 : List (List Int) → A) (g0 : List Int → A) (g1 : List (List Int) → A) [h0 : XE f0 g0] [h1 : XE f1 g1] : XE (zK f0 f1) (zK g0 g1) := ⟨fun x => by simp [zK, A.live, A.lives, h0.live, h1.live], fun x => by simp [zK, A.shut, A.shuts, h0.sh, h1.sh]⟩
instance (f0 : List Int → A) (f1 : List (List Int) → A) [h0 : wN f0] [h1 : wN f1] : wN (zK f0 f1) := ⟨fun x y h => by
 simp only [zK, A.agg.injEq, List.cons.injEq, and_true] at h
 cases x; cases y
 simp only [z7.mk.injEq]
 exact ⟨h0.inj _ _ h.1, h1.inj _ _ h.2⟩⟩
instance (f0 : List Int → A) (f1 : List (List Int) → A) (g0 : List Int → A) (g1 : List (List Int) → A) (x : z7) [∀ y, LeA (f0 y) (g0 y)] [∀ y, LeA (f1 y) (g1 y)] [∀ y, SzA (f0 y) (g0 y)] [∀ y, SzA (f1 y) (g1 y)] : LeA (zK f0 f1 x) (zK g0 g1 x) := by unfold zK; infer_instance
instance (f0 : List Int → A) (f1 : List (List Int) → A) (g0 : List Int → A) (g1 : List (List Int) → A) (x y : z7) [∀ y z, SzA (f0 y) (g0 z)] [∀ y z, SzA (f1 y) (g1 z)] : SzA (zK f0 f1 x) (zK g0 g1 y) := by unfold zK; infer_instance
structure zh where
 Move : za
 To : z7
def Wf (f0 : za → A) (f1 : z7 → A) (x : zh) : A := .agg [f0 x.Move, f1 x.To]
instance (f0 : za → A) (f1 : z7 → A) [h0 : W0 f0] [h1 : W0 f1] : W0 (Wf f0 f1) := ⟨fun x => by simp [Wf, A.isD, A.areD, h0.isD, h1.isD]⟩
structure z6 where
 Move : za
 To : Int
def xc (f0 : za → A) (f1 : Int → A) (x : z6) : A := .agg [f0 x.Move, f1 x.To]
instance (f0 : za → A) (f1 : Int → A) [h0 : W0 f0] [h1 : W0 f1] : W0 (xc f0 f1) := ⟨fun x => by simp [xc, A.isD, A.areD, h0.isD, h1.isD]⟩
instance (f0 : za → A) (f1 : Int → A) (g0 : za → A) (g1 : Int → A) [h0 : qX f0 g0] [h1 : qX f1 g1] : qX (xc f0 f1) (xc g0 g1) := ⟨fun x => by simp [xc, A.loose, A.looses, h0.lo, h1.lo]⟩
instance (f0 : za → A) (f1 : Int → A) (g0 : za → A) (g1 : Int → A) [h0 : XE f0 g0] [h1 : XE f1 g1] : XE (xc f0 f1) (xc g0 g1) := ⟨fun x => by simp [xc, A.live, A.lives, h0.live, h1.live], fun x => by simp [xc, A.shut, A.shuts, h0.sh, h1.sh]⟩
instance (f0 : za → A) (f1 : Int → A) [h0 : wN f0] [h1 : wN f1] : wN (xc f0 f1) := ⟨fun x y h => by
 simp only [xc, A.agg.injEq, List.cons.injEq, and_true] at h
 cases x; cases y
 simp only [z6.mk.injEq]
 exact ⟨h0.inj _ _ h.1, h1.inj _ _ h.2⟩⟩
structure zf where
 many_ : Int
 l_ : zD Int
instance : BEq zf := ⟨fun x y => (x.many_ == y.many_) && (x.l_ == y.l_)⟩
def yk (f0 : Int → A) (f1 : zD Int → A) (x : zf) : A := .agg [f0 x.many_, f1 x.l_]
instance (f0 : Int → A) (f1 : zD Int → A) [h0 : W0 f0] [h1 : W0 f1] : W0 (yk f0 f1) := ⟨fun x => by simp [yk, A.isD, A.areD, h0.isD, h1.isD]⟩
instance (f0 : Int → A) (f1 : zD Int → A) (g0 : Int → A) (g1 : zD Int → A) [h0 : qX f0 g0] [h1 : qX f1 g1] : qX (yk f0 f1) (yk g0 g1) := ⟨fun x => by simp [yk, A.loose, A.looses, h0.lo, h1.lo]⟩
instance (f0 : Int → A) (f1 : zD Int → A) (g0 : Int → A) (g1 : zD Int → A) [h0 : XE f0 g0] [h1 : XE f1 g1] : XE (yk f0 f1) (yk g0 g1) := ⟨fun x => by simp [yk, A.live, A.lives, h0.live, h1.live], fun x => by simp [yk, A.shut, A.shuts, h0.sh, h1.sh]⟩
instance (f0 : Int → A) (f1 : zD Int → A) [h0 : wN f0] [h1 : wN f1] : wN (yk f0 f1) := ⟨fun x y h => by
 simp only [yk, A.agg.injEq, List.cons.injEq, and_true] at h
 cases x; cases y
 simp only [zf.mk.injEq]
 exact ⟨h0.inj _ _ h.1, h1.inj _ _ h.2⟩⟩
structure zb where
 states_ : zD Int
 queues_ : zD zf
instance : BEq zb := ⟨fun x y => (x.states_ == y.states_) && (x.queues_ == y.queues_)⟩
def yI (f0 : zD Int → A) (f1 : zD zf → A) (x : zb) : A := .agg [f0 x.states_, f1 x.queues_]
instance (f0 : zD Int → A) (f1 : zD zf → A) [h0 : W0 f0] [h1 : W0 f1] : W0 (yI f0 f1) := ⟨fun x => by simp [yI, A.isD, A.areD, h0.isD, h1.isD]⟩
instance (f0 : zD Int → A) (f1 : zD zf → A) (g0 : zD Int → A) (g1 : zD zf → A) [h0 : qX f0 g0] [h1 : qX f1 g1] : qX (yI f0 f1) (yI g0 g1) := ⟨fun x => by simp [yI, A.loose, A.looses, h0.lo, h1.lo]⟩
instance (f0 : zD Int → A) (f1 : zD zf → A) (g0 : zD Int → A) (g1 : zD zf → A) [h0 : XE f0 g0] [h1 : XE f1 g1] : XE (yI f0 f1) (yI g0 g1) := ⟨fun x => by simp [yI, A.live, A.lives, h0.live, h1.live], fun x => by simp [yI, A.shut, A.shuts, h0.sh, h1.sh]⟩
instance (f0 : zD Int → A) (f1 : zD zf → A) [h0 : wN f0] [h1 : wN f1] : wN (yI f0 f1) := ⟨fun x y h => by
 simp only [yI, A.agg.injEq, List.cons.injEq, and_true] at h
 cases x; cases y
 simp only [zb.mk.injEq]
 exact ⟨h0.inj _ _ h.1, h1.inj _ _ h.2⟩⟩
structure zg where
 Kind : Int
 Label : Int
 To : Int
 deriving DecidableEq
def wL (f0 : Int → A) (f1 : Int → A) (f2 : Int → A) (x : zg) : A := .agg [f0 x.Kind, f1 x.Label, f2 x.To]
instance (f0 : Int → A) (f1 : Int → A) (f2 : Int → A) [h0 : W0 f0] [h1 : W0 f1] [h2 : W0 f2] : W0 (wL f0 f1 f2) := ⟨fun x => by simp [wL, A.isD, A.areD, h0.isD, h1.isD, h2.isD]⟩
instance (f0 : Int → A) (f1 : Int → A) (f2 : Int → A) (g0 : Int → A) (g1 : Int → A) (g2 : Int → A) [h0 : qX f0 g0] [h1 : qX f1 g1] [h2 : qX f2 g2] : qX (wL f0 f1 f2) (wL g0 g1 g2) := ⟨fun x => by simp [wL, A.loose, A.looses, h0.lo, h1.lo, h2.lo]⟩
instance (f0 : Int → A) (f1 : Int → A) (f2 : Int → A) (g0 : Int → A) (g1 : Int → A) (g2 : Int → A) [h0 : XE f0 g0] [h1 : XE f1 g1] [h2 : XE f2 g2] : XE (wL f0 f1 f2) (wL g0 g1 g2) := ⟨fun x => by simp [wL, A.live, A.lives, h0.live, h1.live, h2.live], fun x => by simp [wL, A.shut, A.shuts, h0.sh, h1.sh, h2.sh]⟩
instance (f0 : Int → A) (f1 : Int → A) (f2 : Int → A) [h0 : wN f0] [h1 : wN f1] [h2 : wN f2] : wN (wL f0 f1 f2) := ⟨fun x y h => by
 simp only [wL, A.agg.injEq, List.cons.injEq, and_true] at h
 cases x; cases y
 simp only [zg.mk.injEq]
 exact ⟨h0.inj _ _ h.1, h1.inj _ _ h.2.1, h2.inj _ _ h.2.2⟩⟩
structure zG where
 Inputs : Int
 Outputs : Int
 Rows : List (List zg)
def wY (f0 : Int → A) (f1 : Int → A) (f2 : List (List zg) → A) (x : zG) : A := .agg [f0 x.Inputs, f1 x.Outputs, f2 x.Rows]
instance (f0 : Int → A) (f1 : Int → A) (f2 : List (List zg) → A) (g0 : Int → A) (g1 : Int → A) (g2 : List (List zg) → A) [h0 : qX f0 g0] [h1 : qX f1 g1] [h2 : qX f2 g2] : qX (wY f0 f1 f2) (wY g0 g1 g2) := ⟨fun x => by simp [wY, A.loose, A.looses, h0.lo, h1.lo, h2.lo]⟩
instance (f0 : Int → A) (f1 : Int → A) (f2 : List (List zg) → A) [h0 : wN f0] [h1 : wN f1] [h2 : wN f2] : wN (wY f0 f1 f2) := ⟨fun x y h => by
 simp only [wY, A.agg.injEq, List.cons.injEq, and_true] at h
 cases x; cases y
 simp only [zG.mk.injEq]
 exact ⟨h0.inj _ _ h.1, h1.inj _ _ h.2.1, h2.inj _ _ h.2.2⟩⟩
structure zu where
 from_ : Int
 move_ : za
def Qq (f0 : Int → A) (f1 : za → A) (x : zu) : A := .agg [f0 x.from_, f1 x.move_]
instance : zeZ (K := zb) (yI (Wg (eI .i64)) (Wg (yk (eI .i64) (Wg (eI .i64))))) := ⟨fun x y => by
 obtain ⟨⟨_, _, _, _⟩, ⟨⟨_, ⟨_, _, _, _⟩⟩, ⟨_, ⟨_, _, _, _⟩⟩, ⟨_, ⟨_, _, _, _⟩⟩, ⟨_, ⟨_, _, _, _⟩⟩⟩⟩ := x
 obtain ⟨⟨_, _, _, _⟩, ⟨⟨_, ⟨_, _, _, _⟩⟩, ⟨_, ⟨_, _, _, _⟩⟩, ⟨_, ⟨_, _, _, _⟩⟩, ⟨_, ⟨_, _, _, _⟩⟩⟩⟩ := y
 simp only [Wg, yk, yI, eI, Qo, KC, KC.keyLs, y9, BEq.beq, Option.map_some, Option.some.injEq, Value.agg.injEq, List.cons_append, List.nil_append, List.append_nil, Array.mk.injEq, List.cons.injEq, Value.int.injEq, true_and, and_true, Bool.and_eq_true, decide_eq_true_eq, and_assoc]⟩
def Xm (x_ : ya) (out_Parts : List zi) : Option z8 :=
 some (z8.mk 2 2 ([w64 (Int.tmod x_.Channels.e0 3), w64 (Int.tmod x_.Channels.e1 3)]) out_Parts)
def Zt (i_ : Int) (out_Parts2 : List zi) : Option (LR (List zi × Int) (List zi)) :=
 some (.next (out_Parts2, w64 (i_ + 1)))
def qS (out_Parts1 : List zi) (i_ : Int) (p_States : Int) (p_Arcs : List ze) (p_Final : List Int) : Option (LR (List zi × Int) (List zi)) :=
 gd (out_Parts1.length + ([(zi.mk p_States p_Arcs p_Final)] : List zi).length ≤ 4294967296) <|
 Zt i_ (out_Parts1 ++ ([(zi.mk p_States p_Arcs p_Final)] : List zi))
def qR (Part_e : xA) (p_Arcs1 : List ze) (k_ : Int) (Arc_e : z3t Int) (arc_Channel : Int) : Option (LR (List ze × Int) ((Int × List ze × List Int))) :=
 gd (p_Arcs1.length + ([(ze.mk (Int.tmod (w64 (Arc_e.e0)) (w64 (1 + (w64 (Int.tmod Part_e.States 3))))) (Int.tmod Arc_e.e1 3) arc_Channel (w64 (Int.tmod Arc_e.e3 2)) (Int.tmod (w64 (Arc_e.e4)) (w64 (1 + (w64 (Int.tmod Part_e.States 3))))))] : List ze).length ≤ 4294967296) <|
 some (.next ((p_Arcs1 ++ ([(ze.mk (Int.tmod (w64 (Arc_e.e0)) (w64 (1 + (w64 (Int.tmod Part_e.States 3))))) (Int.tmod Arc_e.e1 3) arc_Channel (w64 (Int.tmod Arc_e.e3 2)) (Int.tmod (w64 (Arc_e.e4)) (w64 (1 + (w64 (Int.tmod Part_e.States 3))))))] : List ze)), w64 (k_ + 1)))
def km (Part_e : xA) (p_Final1 : List Int) (p_Arcs1 : List ze) (k_ : Int) : Option (LR (List ze × Int) ((Int × List ze × List Int))) :=
 bif decide (k_ < ((Part_e.Arcs.length : Nat) : Int)) then (
  bif decide (k_ < 6) then (
   Option.bind (idx Part_e.Arcs k_) fun Arc_e =>
   gd (((w64 (1 + (w64 (Int.tmod Part_e.States 3)))) : Int) ≠ 0) <|
   gd ((3 : Int) ≠ 0) <|
   gd ((2 : Int) ≠ 0) <|
   gd ((2 : Int) ≠ 0) <|
   gd (((w64 (1 + (w64 (Int.tmod Part_e.States 3)))) : Int) ≠ 0) <|
   bif (Int.tmod Arc_e.e1 3) == 0 then (
    qR Part_e p_Arcs1 k_ Arc_e 0)
   else (
    qR Part_e p_Arcs1 k_ Arc_e (w64 (Int.tmod Arc_e.e2 2))))
  else (
   some (.done (w64 (1 + (w64 (Int.tmod Part_e.States 3))), p_Arcs1, p_Final1))))
 else (
  some (.done (w64 (1 + (w64 (Int.tmod Part_e.States 3))), p_Arcs1, p_Final1)))
def Zs (out_Parts1 : List zi) (i_ : Int) (Part_e : xA) (p_Final1 : List Int) : Option (LR (List zi × Int) (List zi)) :=
 Option.bind (loop (fun s => km Part_e p_Final1 s.1 s.2) (([] : List ze), 0)) fun t7 =>
 qS out_Parts1 i_ t7.1 t7.2.1 t7.2.2
def jd (s_ : Int) (p_Final3 : List Int) : Option (LR (List Int × Int) (List Int)) :=
 some (.next (p_Final3, w64 (s_ + 1)))
def kl (Part_e : xA) (p_Final2 : List Int) (s_ : Int) : Option (LR (List Int × Int) (List Int)) :=
 bif decide (s_ < (w64 (1 + (w64 (Int.tmod Part_e.States 3))))) then (
  gd ((0 : Int) ≤ IntKind.u64.wrap (s_)) <|
  bif (zca .u8 (Int.fdiv Part_e.Final (2 ^ (min (IntKind.u64.wrap (s_)).toNat 8))) 1) == 1 then (
   gd (p_Final2.length + ([s_] : List Int).length ≤ 4294967296) <|
   jd s_ (p_Final2 ++ ([s_] : List Int)))
  else (
   jd s_ p_Final2))
 else (
  some (.done p_Final2))
def uD (x_ : ya) (out_Parts1 : List zi) (i_ : Int) (x34 : Bool) : Option (LR (List zi × Int) (List zi)) :=
 bif decide (i_ < ((x_.Parts.length : Nat) : Int)) then (
  Option.bind (idx x_.Parts i_) fun Part_e =>
  gd ((3 : Int) ≠ 0) <|
  Option.bind (loop (fun s => kl Part_e s.1 s.2) (([] : List Int), 0)) fun t9 =>
  Zs out_Parts1 i_ Part_e t9)
 else (
  qS out_Parts1 i_ 1 ([] : List ze) ([] : List Int))
def kn (x_ : ya) (out_Parts1 : List zi) (i_ : Int) : Option (LR (List zi × Int) (List zi)) :=
 bif decide (i_ < 3) then (
  bif decide (i_ < ((x_.Parts.length : Nat) : Int)) then (
   uD x_ out_Parts1 i_ true)
  else (
   bif i_ == 0 then (
    uD x_ out_Parts1 i_ (i_ == 0))
   else (
    some (.done out_Parts1))))
 else (
  some (.done out_Parts1))
def YR (x_ : ya) : Option z8 :=
 gd ((3 : Int) ≠ 0) <|
 gd ((3 : Int) ≠ 0) <|
 Option.bind (loop (fun s => kn x_ s.1 s.2) (([] : List zi), 0)) fun t2 =>
 Xm x_ t2
def ZK (x_ : z8) : Option z7 :=
 gd ((0 : Int) ≤ ((x_.Parts.length : Nat) : Int) ∧ (((x_.Parts.length : Nat) : Int) : Int) ≤ 4294967296) <|
 gd ((0 : Int) ≤ ((x_.Channels.length : Nat) : Int) ∧ (((x_.Channels.length : Nat) : Int) : Int) ≤ 4294967296) <|
 some (z7.mk (List.replicate ((x_.Parts.length : Nat) : Int).toNat (0 : Int)) (List.replicate ((x_.Channels.length : Nat) : Int).toNat ([] : List Int)))
def Xh (out_States : List Int) (out_Queues : List (List Int)) : Option z7 :=
 some (z7.mk out_States out_Queues)
def ki (out_Queues1 : List (List Int)) (i_ : Int) (q_ : List Int) : Option (LR (List (List Int) × Int) (List (List Int))) :=
 gd (out_Queues1.length + ([q_] : List (List Int)).length ≤ 4294967296) <|
 some (.next ((out_Queues1 ++ ([q_] : List (List Int))), w64 (i_ + 1)))
def qP (c_ : z7) (channel : Int) (queue : List Int) (out_Queues1 : List (List Int)) (i_ : Int) : Option (LR (List (List Int) × Int) (List (List Int))) :=
 bif decide (i_ < ((c_.Queues.length : Nat) : Int)) then (
  Option.bind (idx c_.Queues i_) fun Queue_e =>
  bif i_ == channel then (
   ki out_Queues1 i_ queue)
  else (
   ki out_Queues1 i_ Queue_e))
 else (
  some (.done out_Queues1))
def Zq (c_ : z7) (channel : Int) (queue : List Int) (out_States : List Int) : Option z7 :=
 Option.bind (loop (fun s => qP c_ channel queue s.1 s.2) (([] : List (List Int)), 0)) fun t3 =>
 Xh out_States t3
def kh (out_States1 : List Int) (i_1 : Int) (n_ : Int) : Option (LR (List Int × Int) (List Int)) :=
 gd (out_States1.length + ([n_] : List Int).length ≤ 4294967296) <|
 some (.next ((out_States1 ++ ([n_] : List Int)), w64 (i_1 + 1)))
def qO (c_ : z7) (part : Int) (state : Int) (out_States1 : List Int) (i_1 : Int) : Option (LR (List Int × Int) (List Int)) :=
 bif decide (i_1 < ((c_.States.length : Nat) : Int)) then (
  Option.bind (idx c_.States i_1) fun State_e =>
  bif i_1 == part then (
   kh out_States1 i_1 state)
  else (
   kh out_States1 i_1 State_e))
 else (
  some (.done out_States1))
def qQ (c_ : z7) (part : Int) (state : Int) (channel : Int) (queue : List Int) : Option z7 :=
 Option.bind (loop (fun s => qO c_ part state s.1 s.2) (([] : List Int), 0)) fun t5 =>
 Zq c_ channel queue t5
def Ys (out : List zh) : Option (List zh) :=
 some out
def kI (p_ : Int) (out2 : List zh) : Option (LR (List zh × Int) (List zh)) :=
 some (.next (out2, w64 (p_ + 1)))
def vM (i_ : Int) (out4 : List zh) : Option (LR (List zh × Int) (List zh)) :=
 some (.next (out4, w64 (i_ + 1)))
def kH (o_ : Int) (out8 : List zh) : Option (LR (List zh × Int) (List zh)) :=
 some (.next (out8, w64 (o_ + 1)))
def wy (k_ : Int) (out10 : List zh) : Option (LR (List zh × Int) (List zh)) :=
 some (.next (out10, w64 (k_ + 1)))
def wx (x_ : z8) (c_ : z7) (p_ : Int) (i_ : Int) (Arc_e : ze) (o_ : Int) (out9 : List zh) (k_ : Int) : Option (LR (List zh × Int) (List zh)) :=
 Option.bind (idx x_.Parts o_) fun Part_e2 =>
 bif decide (k_ < ((Part_e2.Arcs.length : Nat) : Int)) then (
  bif o_ != p_ then (
   Option.bind (idx x_.Parts o_) fun Part_e3 =>
   Option.bind (idx Part_e3.Arcs k_) fun Arc_e1 =>
   bif Arc_e1.Kind == 2 then (
    Option.bind (idx c_.States o_) fun State_e1 =>
    bif Arc_e1.From == State_e1 then (
     bif Arc_e1.Channel == Arc_e.Channel then (
      bif Arc_e1.Message == Arc_e.Message then (
       Option.bind (qQ c_ p_ Arc_e.To (-1) []) fun r_1 =>
       Option.bind (qQ r_1 o_ Arc_e1.To (-1) []) fun r_2 =>
       gd (out9.length + ([(zh.mk (za.mk p_ i_ o_ k_) r_2)] : List zh).length ≤ 4294967296) <|
       wy k_ (out9 ++ ([(zh.mk (za.mk p_ i_ o_ k_) r_2)] : List zh)))
      else (
       wy k_ out9))
     else (
      wy k_ out9))
    else (
     wy k_ out9))
   else (
    wy k_ out9))
  else (
   some (.done out9)))
 else (
  some (.done out9))
def wr (x_ : z8) (c_ : z7) (p_ : Int) (i_ : Int) (Arc_e : ze) (Channel_e : Int) (out7 : List zh) (o_ : Int) : Option (LR (List zh × Int) (List zh)) :=
 bif decide (o_ < ((x_.Parts.length : Nat) : Int)) then (
  bif Arc_e.Kind == 1 then (
   bif Channel_e == 0 then (
    Option.bind (loop (fun s => wx x_ c_ p_ i_ Arc_e o_ s.1 s.2) (out7, 0)) fun t10 =>
    kH o_ t10)
   else (
    some (.done out7)))
  else (
   some (.done out7)))
 else (
  some (.done out7))
def ws (x_ : z8) (c_ : z7) (p_ : Int) (i_ : Int) (Arc_e : ze) (Channel_e : Int) (out6 : List zh) : Option (LR (List zh × Int) (List zh)) :=
 Option.bind (loop (fun s => wr x_ c_ p_ i_ Arc_e Channel_e s.1 s.2) (out6, 0)) fun t8 =>
 vM i_ t8
def wV (x_ : z8) (c_ : z7) (p_ : Int) (i_ : Int) (Arc_e : ze) (Queue_e : List Int) (Channel_e : Int) (out5 : List zh) : Option (LR (List zh × Int) (List zh)) :=
 bif Arc_e.Kind == 2 then (
  bif decide (((Queue_e.length : Nat) : Int) > 0) then (
   Option.bind (idx Queue_e 0) fun Queue_e_e =>
   bif Queue_e_e == Arc_e.Message then (
    gd ((0 : Int) ≤ 1 ∧ (1 : Int) ≤ ((Queue_e.length : Nat) : Int) ∧ (((Queue_e.length : Nat) : Int) : Int) ≤ ((Queue_e.length : Nat) : Int)) <|
    Option.bind (qQ c_ p_ Arc_e.To Arc_e.Channel (Queue_e.drop (1 : Int).toNat)) fun r_3 =>
    gd (out5.length + ([(zh.mk (za.mk p_ i_ (-1) (-1)) r_3)] : List zh).length ≤ 4294967296) <|
    ws x_ c_ p_ i_ Arc_e Channel_e (out5 ++ ([(zh.mk (za.mk p_ i_ (-1) (-1)) r_3)] : List zh)))
   else (
    ws x_ c_ p_ i_ Arc_e Channel_e out5))
  else (
   ws x_ c_ p_ i_ Arc_e Channel_e out5))
 else (
  ws x_ c_ p_ i_ Arc_e Channel_e out5)
def uS (x_ : z8) (c_ : z7) (p_ : Int) (out3 : List zh) (i_ : Int) : Option (LR (List zh × Int) (List zh)) :=
 Option.bind (idx x_.Parts p_) fun Part_e =>
 bif decide (i_ < ((Part_e.Arcs.length : Nat) : Int)) then (
  Option.bind (idx x_.Parts p_) fun Part_e1 =>
  Option.bind (idx Part_e1.Arcs i_) fun Arc_e =>
  Option.bind (idx c_.States p_) fun State_e =>
  bif Arc_e.From != State_e then (
   vM i_ out3)
  else (
   bif Arc_e.Kind == 0 then (
    Option.bind (qQ c_ p_ Arc_e.To (-1) []) fun r_ =>
    gd (out3.length + ([(zh.mk (za.mk p_ i_ (-1) (-1)) r_)] : List zh).length ≤ 4294967296) <|
    vM i_ (out3 ++ ([(zh.mk (za.mk p_ i_ (-1) (-1)) r_)] : List zh)))
   else (
    Option.bind (idx c_.Queues Arc_e.Channel) fun Queue_e =>
    Option.bind (idx x_.Channels Arc_e.Channel) fun Channel_e =>
    bif Arc_e.Kind == 1 then (
     bif decide (((Queue_e.length : Nat) : Int) < Channel_e) then (
      gd (([] : List Int).length + Queue_e.length ≤ 4294967296) <|
      gd (Queue_e.length + ([Arc_e.Message] : List Int).length ≤ 4294967296) <|
      Option.bind (qQ c_ p_ Arc_e.To Arc_e.Channel (Queue_e ++ ([Arc_e.Message] : List Int))) fun r_4 =>
      gd (out3.length + ([(zh.mk (za.mk p_ i_ (-1) (-1)) r_4)] : List zh).length ≤ 4294967296) <|
      wV x_ c_ p_ i_ Arc_e Queue_e Channel_e (out3 ++ ([(zh.mk (za.mk p_ i_ (-1) (-1)) r_4)] : List zh)))
     else (
      wV x_ c_ p_ i_ Arc_e Queue_e Channel_e out3))
    else (
     wV x_ c_ p_ i_ Arc_e Queue_e Channel_e out3))))
 else (
  some (.done out3))
def uT (x_ : z8) (c_ : z7) (out1 : List zh) (p_ : Int) : Option (LR (List zh × Int) (List zh)) :=
 bif decide (p_ < ((x_.Parts.length : Nat) : Int)) then (
  Option.bind (loop (fun s => uS x_ c_ p_ s.1 s.2) (out1, 0)) fun t4 =>
  kI p_ t4)
 else (
  some (.done out1))
def kC (x_ : z8) (c_ : z7) : Option (List zh) :=
 Option.bind (loop (fun s => uT x_ c_ s.1 s.2) (([] : List zh), 0)) fun t2 =>
 Ys t2
def ZL : Option Int :=
 some 0
def qG (a_ : List Int) (b_ : List Int) (i_ : Int) : Option (LR Int (Unit ⊕ Int)) :=
 bif decide (i_ < ((a_.length : Nat) : Int)) then (
  Option.bind (idx a_ i_) fun a__e =>
  Option.bind (idx b_ i_) fun b__e =>
  bif a__e != b__e then (
   Option.bind (idx a_ i_) fun a__e1 =>
   Option.bind (idx b_ i_) fun b__e1 =>
   bif decide (a__e1 < b__e1) then (
    some (.done (.inr 1)))
   else (
    some (.done (.inr 0))))
  else (
   some (.next (w64 (i_ + 1)))))
 else (
  some (.done (.inl ())))
def jB (a_ : List Int) (b_ : List Int) : Option Int :=
 bif ((a_.length : Nat) : Int) != ((b_.length : Nat) : Int) then (
  bif decide (((a_.length : Nat) : Int) < ((b_.length : Nat) : Int)) then (
   some 1)
  else (
   some 0))
 else (
  Option.bind (loop (fun s => qG a_ b_ s) 0) fun t2 =>
  match t2 with
  | .inl p => ZL
  | .inr p => some p)
def ZA (a_ : List Int) (b_ : List Int) : Option Int :=
 bif ((a_.length : Nat) : Int) != ((b_.length : Nat) : Int) then (
  some 0)
 else (
  Option.bind (jB a_ b_) fun r_ =>
  bif r_ == 1 then (
   some 0)
  else (
   Option.bind (jB b_ a_) fun r_1 =>
   bif r_1 == 1 then (
    some 0)
   else (
    some 1)))
def Xi : Option Int :=
 some 1
def kj (a_ : z7) (b_ : z7) (i_ : Int) : Option (LR Int (Unit ⊕ Int)) :=
 bif decide (i_ < ((a_.Queues.length : Nat) : Int)) then (
  Option.bind (idx a_.Queues i_) fun Queue_e =>
  Option.bind (idx b_.Queues i_) fun Queue_e1 =>
  Option.bind (ZA Queue_e Queue_e1) fun r_1 =>
  bif r_1 == 0 then (
   some (.done (.inr 0)))
  else (
   some (.next (w64 (i_ + 1)))))
 else (
  some (.done (.inl ())))
def uR (a_ : z7) (b_ : z7) : Option Int :=
 Option.bind (ZA a_.States b_.States) fun r_ =>
 bif r_ == 0 then (
  some 0)
 else (
  bif ((a_.Queues.length : Nat) : Int) != ((b_.Queues.length : Nat) : Int) then (
   some 0)
  else (
   Option.bind (loop (fun s => kj a_ b_ s) 0) fun t2 =>
   match t2 with
   | .inl p => Xi
   | .inr p => some p))
def Yt (list : List z7) (steps : List (List z6)) : Option (List z7 × List (List z6)) :=
 some (list, steps)
def kM (n_ : Int) (list2 : List z7) (steps2 : List (List z6)) : Option (LR (List z7 × List (List z6) × Int) ((List z7 × List (List z6)))) :=
 some (.next (list2, steps2, w64 (n_ + 1)))
def kL (steps1 : List (List z6)) (n_ : Int) (list3 : List z7) (l_ : List z6) : Option (LR (List z7 × List (List z6) × Int) ((List z7 × List (List z6)))) :=
 gd (steps1.length + ([l_] : List (List z6)).length ≤ 4294967296) <|
 kM n_ list3 (steps1 ++ ([l_] : List (List z6)))
def kK (i_ : Int) (list5 : List z7) (l_2 : List z6) : Option (LR (List z7 × List z6 × Int) ((List z7 × List z6))) :=
 some (.next (list5, l_2, w64 (i_ + 1)))
def ja (r_1 : List zh) (l_1 : List z6) (i_ : Int) (k_ : Int) (list6 : List z7) : Option (LR (List z7 × List z6 × Int) ((List z7 × List z6))) :=
 Option.bind (idx r_1 i_) fun r__e =>
 gd (l_1.length + ([(z6.mk r__e.Move k_)] : List z6).length ≤ 4294967296) <|
 kK i_ list6 (l_1 ++ ([(z6.mk r__e.Move k_)] : List z6))
def kJ (r_1 : List zh) (list4 : List z7) (l_1 : List z6) (i_ : Int) (k_ : Int) : Option (LR (List z7 × List z6 × Int) ((List z7 × List z6))) :=
 bif k_ == ((list4.length : Nat) : Int) then (
  Option.bind (idx r_1 i_) fun r__e1 =>
  gd (list4.length + ([r__e1.To] : List z7).length ≤ 4294967296) <|
  ja r_1 l_1 i_ k_ (list4 ++ ([r__e1.To] : List z7)))
 else (
  ja r_1 l_1 i_ k_ list4)
def uU (r_1 : List zh) (list4 : List z7) (i_ : Int) (k_1 : Int) : Option (LR Int Int) :=
 bif decide (k_1 < ((list4.length : Nat) : Int)) then (
  Option.bind (idx list4 k_1) fun list_e1 =>
  Option.bind (idx r_1 i_) fun r__e2 =>
  Option.bind (uR list_e1 r__e2.To) fun r_2 =>
  bif r_2 == 0 then (
   some (.next (w64 (k_1 + 1))))
  else (
   some (.done k_1)))
 else (
  some (.done k_1))
def uV (r_1 : List zh) (list4 : List z7) (l_1 : List z6) (i_ : Int) : Option (LR (List z7 × List z6 × Int) ((List z7 × List z6))) :=
 bif decide (i_ < ((r_1.length : Nat) : Int)) then (
  Option.bind (loop (fun s => uU r_1 list4 i_ s) 0) fun t9 =>
  kJ r_1 list4 l_1 i_ t9)
 else (
  some (.done (list4, l_1)))
def j9 (x_ : z8) (most : Int) (list1 : List z7) (steps1 : List (List z6)) (n_ : Int) : Option (LR (List z7 × List (List z6) × Int) ((List z7 × List (List z6)))) :=
 bif decide (n_ < ((list1.length : Nat) : Int)) then (
  bif decide (((list1.length : Nat) : Int) ≤ most) then (
   Option.bind (idx list1 n_) fun list_e =>
   Option.bind (kC x_ list_e) fun r_1 =>
   Option.bind (loop (fun s => uV r_1 s.1 s.2.1 s.2.2) (list1, ([] : List z6), 0)) fun t5 =>
   kL steps1 n_ t5.1 t5.2)
  else (
   some (.done (list1, steps1))))
 else (
  some (.done (list1, steps1)))
def ZJ (x_ : z8) (most : Int) : Option (List z7 × List (List z6)) :=
 Option.bind (ZK x_) fun r_ =>
 Option.bind (loop (fun s => j9 x_ most s.1 s.2.1 s.2.2) (([r_] : List z7), ([] : List (List z6)), 0)) fun t2 =>
 Yt t2.1 t2.2
def jR (n_ : Int) : Option Bool :=
 some (decide (n_ > 4))
def wj : Option Int :=
 some (-1)
def yx (s_ : List Int) (x8 : Int) : Option (LR Int (Unit ⊕ Int)) :=
 bif decide (x8 < ((s_.length : Nat) : Int)) then (
  Option.bind (idx s_ x8) fun s__e =>
  Option.bind (jR s__e) fun r_ =>
  bif r_ then (
   some (.done (.inr x8)))
  else (
   some (.next (w64 (x8 + 1)))))
 else (
  some (.done (.inl ())))
def xO (s_ : List Int) (f_ : Unit) : Option Int :=
 Option.bind (loop (fun s => yx s_ s) 0) fun t2 =>
 match t2 with
 | .inl p => wj
 | .inr p => some p
def yD (s_ : List Int) (f_ : Unit) : Option Bool :=
 Option.bind (xO s_ ()) fun r_ =>
 some (decide (r_ ≥ 0))
def jQ (p_ : zi) : Option Bool :=
 bif decide (p_.States > 64) then (
  some true)
 else (
  some (decide (((p_.Arcs.length : Nat) : Int) > 256)))
def yq : Option Int :=
 some (-1)
def zO (s_ : List zi) (x8 : Int) : Option (LR Int (Unit ⊕ Int)) :=
 bif decide (x8 < ((s_.length : Nat) : Int)) then (
  Option.bind (idx s_ x8) fun s__e =>
  Option.bind (jQ s__e) fun r_ =>
  bif r_ then (
   some (.done (.inr x8)))
  else (
   some (.next (w64 (x8 + 1)))))
 else (
  some (.done (.inl ())))
def yc (s_ : List zi) (f_ : Unit) : Option Int :=
 Option.bind (loop (fun s => zO s_ s) 0) fun t2 =>
 match t2 with
 | .inl p => yq
 | .inr p => some p
def zP (s_ : List zi) (f_ : Unit) : Option Bool :=
 Option.bind (yc s_ ()) fun r_ =>
 some (decide (r_ ≥ 0))
def jS (x_ : z8) : Option Bool :=
 bif decide (x_.Messages > 16) then (
  some true)
 else (
  bif decide (x_.Labels > 16) then (
   some true)
  else (
   bif decide (((x_.Channels.length : Nat) : Int) > 4) then (
    some true)
   else (
    bif decide (((x_.Parts.length : Nat) : Int) > 4) then (
     some true)
    else (
     Option.bind (yD x_.Channels ()) fun r_ =>
     bif r_ then (
      some true)
     else (
      Option.bind (zP x_.Parts ()) fun r_1 =>
      some r_1)))))
def k8 (n_ : Int) : Option Bool :=
 some (decide (n_ < 0))
def wi : Option Int :=
 some (-1)
def yw (s_ : List Int) (x8 : Int) : Option (LR Int (Unit ⊕ Int)) :=
 bif decide (x8 < ((s_.length : Nat) : Int)) then (
  Option.bind (idx s_ x8) fun s__e =>
  Option.bind (k8 s__e) fun r_ =>
  bif r_ then (
   some (.done (.inr x8)))
  else (
   some (.next (w64 (x8 + 1)))))
 else (
  some (.done (.inl ())))
def xN (s_ : List Int) (f_ : Unit) : Option Int :=
 Option.bind (loop (fun s => yw s_ s) 0) fun t2 =>
 match t2 with
 | .inl p => wi
 | .inr p => some p
def yC (s_ : List Int) (f_ : Unit) : Option Bool :=
 Option.bind (xN s_ ()) fun r_ =>
 some (decide (r_ ≥ 0))
def ve (n_ : Int) (many : Int) : Option Bool :=
 bif decide (n_ ≥ 0) then (
  some (decide (n_ < many)))
 else (
  some false)
def kz : Option Bool :=
 some true
def qJ (x9 : Int) (x29 : Bool) : Option (LR Int (Unit ⊕ Bool)) :=
 some (.next (w64 (x9 + 1)))
def vZ (l_ : List Int) (many : Int) (x9 : Int) : Option (LR Int (Unit ⊕ Bool)) :=
 bif decide (x9 < ((l_.length : Nat) : Int)) then (
  Option.bind (idx l_ x9) fun l__e =>
  Option.bind (ve l__e many) fun r_ =>
  bif !r_ then (
   some (.done (.inr false)))
  else (
   bif decide (x9 > 0) then (
    Option.bind (idx l_ (w64 (x9 - 1))) fun l__e1 =>
    bif decide (l__e ≤ l__e1) then (
     some (.done (.inr false)))
    else (
     qJ x9 (decide (l__e ≤ l__e1))))
   else (
    qJ x9 false)))
 else (
  some (.done (.inl ())))
def uQ (l_ : List Int) (many : Int) : Option Bool :=
 Option.bind (loop (fun s => vZ l_ many s) 0) fun t2 =>
 match t2 with
 | .inl p => kz
 | .inr p => some p
def wO (x_ : z8) (p_ : zi) (a_ : ze) : Option Bool :=
 Option.bind (ve a_.From p_.States) fun r_ =>
 bif !r_ then (
  some false)
 else (
  Option.bind (ve a_.To p_.States) fun r_1 =>
  bif !r_1 then (
   some false)
  else (
   bif decide (a_.Kind > 2) then (
    some false)
   else (
    bif a_.Kind == 0 then (
     bif a_.Channel == 0 then (
      Option.bind (ve a_.Message x_.Labels) fun r_2 =>
      some r_2)
     else (
      some false))
    else (
     Option.bind (ve a_.Channel ((x_.Channels.length : Nat) : Int)) fun r_3 =>
     bif r_3 then (
      Option.bind (ve a_.Message x_.Messages) fun r_4 =>
      some r_4)
     else (
      some false)))))
def k7 (a_ : ze) (x1 : z8) (x2 : zi) : Option Bool :=
 Option.bind (wO x1 x2 a_) fun r_ =>
 some (!r_)
def yS : Option Int :=
 some (-1)
def zU (s_ : List ze) (f_ : z8 × zi) (x8 : Int) : Option (LR Int (Unit ⊕ Int)) :=
 bif decide (x8 < ((s_.length : Nat) : Int)) then (
  Option.bind (idx s_ x8) fun s__e =>
  Option.bind (k7 s__e f_.1 f_.2) fun r_ =>
  bif r_ then (
   some (.done (.inr x8)))
  else (
   some (.next (w64 (x8 + 1)))))
 else (
  some (.done (.inl ())))
def yf (s_ : List ze) (f_ : z8 × zi) : Option Int :=
 Option.bind (loop (fun s => zU s_ f_ s) 0) fun t2 =>
 match t2 with
 | .inl p => yS
 | .inr p => some p
def zV (s_ : List ze) (f_ : z8 × zi) : Option Bool :=
 Option.bind (yf s_ (f_.1, f_.2)) fun r_ =>
 some (decide (r_ ≥ 0))
def Zb : Option Int :=
 some 0
def uL (x_ : z8) (x29 : Int) : Option (LR Int (Unit ⊕ Int)) :=
 bif decide (x29 < ((x_.Parts.length : Nat) : Int)) then (
  Option.bind (idx x_.Parts x29) fun Part_e =>
  bif decide (Part_e.States < 1) then (
   some (.done (.inr 1)))
  else (
   Option.bind (uQ Part_e.Final Part_e.States) fun r_2 =>
   bif !r_2 then (
    some (.done (.inr 1)))
   else (
    Option.bind (zV Part_e.Arcs (x_, Part_e)) fun r_3 =>
    bif r_3 then (
     some (.done (.inr 1)))
    else (
     some (.next (w64 (x29 + 1)))))))
 else (
  some (.done (.inl ())))
def vw (x_ : z8) : Option Int :=
 Option.bind (jS x_) fun r_ =>
 bif r_ then (
  some 3)
 else (
  bif decide (x_.Messages < 0) then (
   some 1)
  else (
   bif decide (x_.Labels < 0) then (
    some 1)
   else (
    bif decide (((x_.Parts.length : Nat) : Int) < 1) then (
     some 1)
    else (
     Option.bind (yC x_.Channels ()) fun r_1 =>
     bif r_1 then (
      some 1)
     else (
      Option.bind (loop (fun s => uL x_ s) 0) fun t2 =>
      match t2 with
      | .inl p => Zb
      | .inr p => some p)))))
def vu (m_ : Int) (x1 : z8) : Option Bool :=
 Option.bind (ve m_ x1.Messages) fun r_ =>
 some (!r_)
def wh : Option Int :=
 some (-1)
def yu (s_ : List Int) (f_ : z8) (x8 : Int) : Option (LR Int (Unit ⊕ Int)) :=
 bif decide (x8 < ((s_.length : Nat) : Int)) then (
  Option.bind (idx s_ x8) fun s__e =>
  Option.bind (vu s__e f_) fun r_ =>
  bif r_ then (
   some (.done (.inr x8)))
  else (
   some (.next (w64 (x8 + 1)))))
 else (
  some (.done (.inl ())))
def xM (s_ : List Int) (f_ : z8) : Option Int :=
 Option.bind (loop (fun s => yu s_ f_ s) 0) fun t2 =>
 match t2 with
 | .inl p => wh
 | .inr p => some p
def yz (s_ : List Int) (f_ : z8) : Option Bool :=
 Option.bind (xM s_ f_) fun r_ =>
 some (decide (r_ ≥ 0))
def uX : Option Int :=
 some 0
def wb (x_ : z8) (c_ : z7) (x52 : Int) : Option (LR Int (Unit ⊕ Int)) :=
 bif decide (x52 < ((c_.Queues.length : Nat) : Int)) then (
  Option.bind (idx c_.Queues x52) fun Queue_e =>
  Option.bind (idx x_.Channels x52) fun Channel_e =>
  bif decide (((Queue_e.length : Nat) : Int) > Channel_e) then (
   some (.done (.inr 1)))
  else (
   Option.bind (yz Queue_e x_) fun r_1 =>
   bif r_1 then (
    some (.done (.inr 1)))
   else (
    some (.next (w64 (x52 + 1))))))
 else (
  some (.done (.inl ())))
def wc (x_ : z8) (c_ : z7) : Option Int :=
 Option.bind (loop (fun s => wb x_ c_ s) 0) fun t3 =>
 match t3 with
 | .inl p => uX
 | .inr p => some p
def wa (x_ : z8) (c_ : z7) (x34 : Int) : Option (LR Int (Unit ⊕ Int)) :=
 bif decide (x34 < ((x_.Parts.length : Nat) : Int)) then (
  Option.bind (idx x_.Parts x34) fun Part_e =>
  Option.bind (idx c_.States x34) fun State_e =>
  Option.bind (ve State_e Part_e.States) fun r_2 =>
  bif !r_2 then (
   some (.done (.inr 1)))
  else (
   some (.next (w64 (x34 + 1)))))
 else (
  some (.done (.inl ())))
def wg (x_ : z8) (c_ : z7) : Option Int :=
 Option.bind (vw x_) fun r_ =>
 bif r_ != 0 then (
  some r_)
 else (
  bif ((c_.States.length : Nat) : Int) != ((x_.Parts.length : Nat) : Int) then (
   some 1)
  else (
   bif ((c_.Queues.length : Nat) : Int) != ((x_.Channels.length : Nat) : Int) then (
    some 1)
   else (
    Option.bind (loop (fun s => wa x_ c_ s) 0) fun t4 =>
    match t4 with
    | .inl p => wc x_ c_
    | .inr p => some p)))
def u0 (q_ : zf) (m_ : Int) : Option zf :=
 Option.bind (idx (zD.toL q_.l_) q_.many_) fun cell =>
 Option.bind (some (zD.setI q_.l_ q_.many_ m_)) fun arr =>
 some (zf.mk (w64 (q_.many_ + 1)) arr)
def kY (arr : zD Int) (s_queues : zD zf) : Option zb :=
 some (zb.mk arr s_queues)
def je (x15 : Int) (s_queues2 : zD zf) : Option (LR (zD zf × Int) (zD zf)) :=
 some (.next (s_queues2, w64 (x15 + 1)))
def wI (x15 : Int) (Queue_e : List Int) (s_queues3 : zD zf) (x22 : Int) : Option (LR (zD zf × Int) (zD zf)) :=
 bif decide (x22 < ((Queue_e.length : Nat) : Int)) then (
  Option.bind (idx Queue_e x22) fun Queue_e_e =>
  Option.bind (idx (zD.toL s_queues3) x15) fun cell =>
  Option.bind (u0 cell Queue_e_e) fun r_ =>
  Option.bind (idx (zD.toL s_queues3) x15) fun cell1 =>
  Option.bind (some (zD.setI s_queues3 x15 r_)) fun arr1 =>
  some (.next (arr1, w64 (x22 + 1))))
 else (
  some (.done s_queues3))
def vd (c_ : z7) (s_queues1 : zD zf) (x15 : Int) : Option (LR (zD zf × Int) (zD zf)) :=
 bif decide (x15 < ((c_.Queues.length : Nat) : Int)) then (
  Option.bind (idx c_.Queues x15) fun Queue_e =>
  Option.bind (loop (fun s => wI x15 Queue_e s.1 s.2) (s_queues1, 0)) fun t4 =>
  je x15 t4)
 else (
  some (.done s_queues1))
def qK (c_ : z7) : Option zb :=
 Option.bind (some (zD.ofL (cpA (zD.toL (zD.mk 0 0 0 0)) 0 c_.States) (zD.mk 0 0 0 0))) fun arr =>
 Option.bind (loop (fun s => vd c_ s.1 s.2) ((zD.mk (zf.mk 0 (zD.mk 0 0 0 0)) (zf.mk 0 (zD.mk 0 0 0 0)) (zf.mk 0 (zD.mk 0 0 0 0)) (zf.mk 0 (zD.mk 0 0 0 0))), 0)) fun t2 =>
 kY arr t2
def xi (x_ : z8) (s_ : zb) : Option (z8 × zb) :=
 some (x_, s_)
def we (x_ : z8) (s_ : zb) (part : Int) : Option (z8 × Int × zb) :=
 some (x_, part, s_)
def wF {σ : Type} (x14 : Int) (sg2 : σ) : Option (LR (σ × Int) σ) :=
 some (.next (sg2, w64 (x14 + 1)))
def xH {σ : Type} (x1 : Int) (x2 : zb) (yy : σ → (Int × ze) → Option (σ × Bool)) (Part_e : zi) (sg1 : σ) (x14 : Int) : Option (LR (σ × Int) σ) :=
 bif decide (x14 < ((Part_e.Arcs.length : Nat) : Int)) then (
  Option.bind (idx Part_e.Arcs x14) fun Arc_e =>
  Option.bind (idx (zD.toL x2.states_) x1) fun cell =>
  bif Arc_e.From == cell then (
   Option.bind (yy sg1 (x14, Arc_e)) fun yr =>
   bif !yr.2 then (
    some (.done yr.1))
   else (
    wF x14 yr.1))
  else (
   wF x14 sg1))
 else (
  some (.done sg1))
def yh (x0 : z8) (x1 : Int) (x2 : zb) {σ : Type} (yy : σ → (Int × ze) → Option (σ × Bool)) (sg : σ) : Option σ :=
 Option.bind (idx x0.Parts x1) fun Part_e =>
 Option.bind (loop (fun s => xH x1 x2 yy Part_e s.1 s.2) (sg, 0)) fun t1 =>
 some t1
def qe (q_ : zf) : Option zf :=
 Option.bind (some (zD.ofL (cpA (zD.toL q_.l_) 0 ((zD.toL q_.l_).drop 1)) q_.l_)) fun arr =>
 some (zf.mk (w64 (q_.many_ - 1)) (zD.mk arr.e0 arr.e1 arr.e2 0))
def wZ (arr : zD Int) (s_queues : zD zf) : Option (zb × Bool) :=
 some ((zb.mk arr s_queues), false)
def zS (s_ : zb) (a_ : ze) (arr : zD Int) (cell1 : zf) (x33 : Bool) : Option (zb × Bool) :=
 bif x33 then (
  some ((zb.mk arr s_.queues_), true))
 else (
  bif a_.Kind == 1 then (
   Option.bind (u0 cell1 a_.Message) fun r_ =>
   Option.bind (idx (zD.toL s_.queues_) a_.Channel) fun cell2 =>
   Option.bind (some (zD.setI s_.queues_ a_.Channel r_)) fun arr1 =>
   wZ arr arr1)
  else (
   Option.bind (qe cell1) fun r_1 =>
   Option.bind (idx (zD.toL s_.queues_) a_.Channel) fun cell3 =>
   Option.bind (some (zD.setI s_.queues_ a_.Channel r_1)) fun arr2 =>
   wZ arr arr2))
def xF (x_ : z8) (s_ : zb) (part : Int) (a_ : ze) : Option (zb × Bool) :=
 Option.bind (idx (zD.toL s_.states_) part) fun cell =>
 Option.bind (some (zD.setI s_.states_ part a_.To)) fun arr =>
 Option.bind (idx (zD.toL s_.queues_) (mn a_.Channel 3)) fun cell1 =>
 bif a_.Kind == 0 then (
  some ((zb.mk arr s_.queues_), false))
 else (
  Option.bind (idx x_.Channels a_.Channel) fun Channel_e =>
  bif Channel_e == 0 then (
   zS s_ a_ arr cell1 (Channel_e == 0))
  else (
   bif a_.Kind == 1 then (
    Option.bind (idx x_.Channels a_.Channel) fun Channel_e1 =>
    bif cell1.many_ == Channel_e1 then (
     zS s_ a_ arr cell1 (cell1.many_ == Channel_e1))
    else (
     bif a_.Kind == 2 then (
      bif cell1.many_ == 0 then (
       zS s_ a_ arr cell1 true)
      else (
       zS s_ a_ arr cell1 (cell1.l_.e0 != a_.Message)))
     else (
      zS s_ a_ arr cell1 false)))
   else (
    bif a_.Kind == 2 then (
     bif cell1.many_ == 0 then (
      zS s_ a_ arr cell1 true)
     else (
      zS s_ a_ arr cell1 (cell1.l_.e0 != a_.Message)))
    else (
     zS s_ a_ arr cell1 false))))
def JX (e t : Bool) : Option Bool := bif t then some e else none
def vL {σ : Type} (x16 : Int) (sg2 : σ) : Option (LR (σ × Int) σ) :=
 some (.next (sg2, w64 (x16 + 1)))
def wp {σ : Type} (x59 : Int) (sg5 : σ) : Option (LR (σ × Int) (σ ⊕ σ)) :=
 some (.next (sg5, w64 (x59 + 1)))
def yX {σ : Type} (x1 : zb) (yy : σ → (za × zb) → Option (σ × Bool)) (x16 : Int) (x23 : Int) (x24 : ze) (x59 : Int) (sg6 : σ) (x69 : Int) (x70 : ze) : Option (LR σ σ) :=
 bif x70.Kind != 2 then (
  some (.next sg6))
 else (
  bif x70.Channel != x24.Channel then (
   some (.next sg6))
  else (
   bif x70.Message != x24.Message then (
    some (.next sg6))
   else (
    Option.bind (idx (zD.toL x1.states_) x16) fun cell =>
    Option.bind (some (zD.setI x1.states_ x16 x24.To)) fun arr =>
    Option.bind (idx (zD.toL arr) x59) fun cell1 =>
    Option.bind (some (zD.setI arr x59 x70.To)) fun arr1 =>
    Option.bind (yy sg6 ((za.mk x16 x23 x59 x69), (zb.mk arr1 x1.queues_))) fun yr1 =>
    bif !yr1.2 then (
     some (.done yr1.1))
    else (
     some (.next yr1.1)))))
def yW {σ : Type} (x0 : z8) (x1 : zb) (yy : σ → (za × zb) → Option (σ × Bool)) (x16 : Int) (x23 : Int) (x24 : ze) (sg4 : σ) (x59 : Int) : Option (LR (σ × Int) (σ ⊕ σ)) :=
 bif decide (x59 < ((x0.Parts.length : Nat) : Int)) then (
  bif x59 == x16 then (
   wp x59 sg4)
  else (
   Option.bind (we x0 x1 x59) fun r_3 =>
   Option.bind (yh r_3.1 r_3.2.1 r_3.2.2 (yOf (fun s x => yX x1 yy x16 x23 x24 x59 s x.1 x.2)) (.next sg4)) fun t6 =>
   match t6 with
   | .next sg6 => (
    wp x59 sg6)
   | .done sg6 => (
    some (.done (.inr sg6)))))
 else (
  some (.done (.inl sg4)))
def yY {σ : Type} (x0 : z8) (x1 : zb) (yy : σ → (za × zb) → Option (σ × Bool)) (x16 : Int) (sg3 : σ) (x23 : Int) (x24 : ze) : Option (LR σ σ) :=
 Option.bind (xF x0 x1 x16 x24) fun r_1 =>
 Option.bind (JX r_1.2 true) fun r_2 =>
 bif !r_2 then (
  Option.bind (yy sg3 ((za.mk x16 x23 (-1) (-1)), r_1.1)) fun yr =>
  bif !yr.2 then (
   some (.done yr.1))
  else (
   some (.next yr.1)))
 else (
  bif x24.Kind != 1 then (
   some (.next sg3))
  else (
   Option.bind (idx x0.Channels x24.Channel) fun Channel_e =>
   bif decide (Channel_e > 0) then (
    some (.next sg3))
   else (
    Option.bind (loop (fun s => yW x0 x1 yy x16 x23 x24 s.1 s.2) (sg3, 0)) fun t4 =>
    match t4 with
    | .inl p => some (.next p)
    | .inr p => some (.done p))))
def xx {σ : Type} (x0 : z8) (x1 : zb) (yy : σ → (za × zb) → Option (σ × Bool)) (sg1 : σ) (x16 : Int) : Option (LR (σ × Int) σ) :=
 bif decide (x16 < ((x0.Parts.length : Nat) : Int)) then (
  Option.bind (we x0 x1 x16) fun r_ =>
  Option.bind (yh r_.1 r_.2.1 r_.2.2 (yOf (fun s x => yY x0 x1 yy x16 s x.1 x.2)) (.next sg1)) fun t3 =>
  match t3 with
  | .next sg3 => (
   vL x16 sg3)
  | .done sg3 => (
   some (.done sg3)))
 else (
  some (.done sg1))
def y6 (x0 : z8) (x1 : zb) {σ : Type} (yy : σ → (za × zb) → Option (σ × Bool)) (sg : σ) : Option σ :=
 Option.bind (loop (fun s => xx x0 x1 yy s.1 s.2) (sg, 0)) fun t1 =>
 some t1
def y7 (s_ : List za) : Option (List za) :=
 gd ((0 : Int) ≤ 0 ∧ (0 : Int) ≤ ((s_.length : Nat) : Int) ∧ (((s_.length : Nat) : Int) : Int) ≤ ((s_.length : Nat) : Int) ∧ (((s_.length : Nat) : Int) : Int) ≤ ((s_.length : Nat) : Int)) <|
 some ((s_.drop 0).take (((s_.length : Nat) : Int).toNat - 0))
def uK (out : List za) : Option (List za × Int) :=
 Option.bind (y7 out) fun r_1 =>
 some (r_1, 0)
def wJ (out1 : List za) (x19 : za) (x20 : zb) : Option (LR (List za) Empty) :=
 gd (out1.length + ([x19] : List za).length ≤ 4294967296) <|
 some (.next (out1 ++ ([x19] : List za)))
def jZ (x_ : z8) (c_ : z7) : Option (List za × Int) :=
 Option.bind (wg x_ c_) fun r_ =>
 bif r_ != 0 then (
  some (([] : List za), r_))
 else (
  Option.bind (qK c_) fun r_2 =>
  Option.bind (xi x_ r_2) fun r_3 =>
  Option.bind (y6 r_3.1 r_3.2 (yOf (fun s x => wJ s x.1 x.2)) (.next ([] : List za))) fun t2 =>
  match t2 with
  | .next out1 => (
   uK out1)
  | .done z => nomatch z)
def xY (s_ : List Int) : Option (List Int) :=
 gd (([] : List Int).length + s_.length ≤ 4294967296) <|
 some s_
def wl (s_ : List Int) : Option (List Int) :=
 gd ((0 : Int) ≤ 0 ∧ (0 : Int) ≤ ((s_.length : Nat) : Int) ∧ (((s_.length : Nat) : Int) : Int) ≤ ((s_.length : Nat) : Int) ∧ (((s_.length : Nat) : Int) : Int) ≤ ((s_.length : Nat) : Int)) <|
 some ((s_.drop 0).take (((s_.length : Nat) : Int).toNat - 0))
def u2 (r_1 : List Int) (c_Queues : List (List Int)) : Option z7 :=
 some (z7.mk r_1 c_Queues)
def x7 (x_ : z8) (s_ : zb) (c_Queues1 : List (List Int)) (x23 : Int) : Option (LR (List (List Int) × Int) (List (List Int))) :=
 bif decide (x23 < (((List.replicate ((x_.Channels.length : Nat) : Int).toNat ([] : List Int)).length : Nat) : Int)) then (
  Option.bind (idx (zD.toL s_.queues_) x23) fun cell =>
  gd ((0 : Int) ≤ cell.many_ ∧ (cell.many_ : Int) ≤ (([cell.l_.e0, cell.l_.e1, cell.l_.e2, cell.l_.e3].length : Nat) : Int)) <|
  Option.bind (xY ([cell.l_.e0, cell.l_.e1, cell.l_.e2, cell.l_.e3].take cell.many_.toNat)) fun r_2 =>
  Option.bind (wl r_2) fun r_3 =>
  Option.bind (idx c_Queues1 x23) fun c_Queue_e =>
  some (.next ((c_Queues1.set x23.toNat r_3), w64 (x23 + 1))))
 else (
  some (.done c_Queues1))
def xa (x_ : z8) (s_ : zb) : Option z7 :=
 gd ((0 : Int) ≤ ((x_.Parts.length : Nat) : Int) ∧ (((x_.Parts.length : Nat) : Int) : Int) ≤ (([s_.states_.e0, s_.states_.e1, s_.states_.e2, s_.states_.e3].length : Nat) : Int)) <|
 Option.bind (xY ([s_.states_.e0, s_.states_.e1, s_.states_.e2, s_.states_.e3].take ((x_.Parts.length : Nat) : Int).toNat)) fun r_ =>
 Option.bind (wl r_) fun r_1 =>
 gd ((0 : Int) ≤ ((x_.Channels.length : Nat) : Int) ∧ (((x_.Channels.length : Nat) : Int) : Int) ≤ 4294967296) <|
 Option.bind (loop (fun s => x7 x_ s_ s.1 s.2) ((List.replicate ((x_.Channels.length : Nat) : Int).toNat ([] : List Int)), 0)) fun t2 =>
 u2 r_1 t2
def X4 (x6_States : List Int) (x6_Queues : List (List Int)) : Option (z7 × Int) :=
 some ((z7.mk [] []), 7)
def wq (x_ : z8) (m_ : za) (x6_States1 : List Int) (x6_Queues1 : List (List Int)) (x22 : za) (x23 : zb) : Option (LR (List Int × List (List Int)) ((List Int × List (List Int)))) :=
 bif (x22.Part == m_.Part) && ((x22.Arc == m_.Arc) && ((x22.Other == m_.Other) && ((x22.With == m_.With) && true))) then (
  Option.bind (xa x_ x23) fun r_3 =>
  some (.done (r_3.States, r_3.Queues)))
 else (
  some (.next (x6_States1, x6_Queues1)))
def jz (x_ : z8) (c_ : z7) (m_ : za) : Option (z7 × Int) :=
 Option.bind (wg x_ c_) fun r_ =>
 bif r_ != 0 then (
  some ((z7.mk [] []), r_))
 else (
  Option.bind (qK c_) fun r_1 =>
  Option.bind (xi x_ r_1) fun r_2 =>
  Option.bind (y6 r_2.1 r_2.2 (yOf (fun s x => wq x_ m_ s.1 s.2 x.1 x.2)) (.next (([] : List Int), ([] : List (List Int))))) fun t2 =>
  match t2 with
  | .next (x6_States1, x6_Queues1) => (
   X4 x6_States1 x6_Queues1)
  | .done (x6_States1, x6_Queues1) => (
   some ((z7.mk x6_States1 x6_Queues1), 0)))
def YQ (capacity : Int) (arcs : List ze) : Option z8 :=
 some (z8.mk 1 1 ([capacity]) ([(zi.mk 2 ([(ze.mk 0 1 0 0 1), (ze.mk 1 0 0 0 0)]) []), (zi.mk 1 arcs [])]))
def xq (s_ : List z6) : Option (List z6) :=
 gd ((0 : Int) ≤ 0 ∧ (0 : Int) ≤ ((s_.length : Nat) : Int) ∧ (((s_.length : Nat) : Int) : Int) ≤ ((s_.length : Nat) : Int) ∧ (((s_.length : Nat) : Int) : Int) ≤ ((s_.length : Nat) : Int)) <|
 some ((s_.drop 0).take (((s_.length : Nat) : Int).toNat - 0))
def yd (s_ : List (List z6)) : Option (List (List z6)) :=
 some s_
def ur (x4 : Int) (list : List zb) (steps : List (List z6)) : Option (List zb × List (List z6) × Int) :=
 Option.bind (yd steps) fun r_ =>
 some (list, r_, 0)
def uq (i_ : Int) (x42 : Int) (list2 : List zb) (at_1 : List (zb × Int)) (steps2 : List (List z6)) : Option (LR (Int × List zb × (List (zb × Int)) × List (List z6) × Int) ((Int × List zb × List (List z6)) ⊕ (List zb × List (List z6) × Int))) :=
 some (.next (x42, list2, at_1, steps2, w64 (i_ + 1)))
def up (steps1 : List (List z6)) (i_ : Int) (x43 : Int) (list3 : List zb) (at_2 : List (zb × Int)) (l_ : List z6) : Option (LR (Int × List zb × (List (zb × Int)) × List (List z6) × Int) ((Int × List zb × List (List z6)) ⊕ (List zb × List (List z6) × Int))) :=
 Option.bind (xq l_) fun r_1 =>
 gd (steps1.length + ([r_1] : List (List z6)).length ≤ 4294967296) <|
 uq i_ x43 list3 at_2 (steps1 ++ ([r_1] : List (List z6)))
def wT (x44 : Int) (l_1 : List z6) (x31 : za) (list5 : List zb) (at_4 : List (zb × Int)) (n_ : Int) : Option (LR (Int × List zb × (List (zb × Int)) × List z6) ((Int × List zb × (List (zb × Int)) × List z6))) :=
 gd (l_1.length + ([(z6.mk x31 n_)] : List z6).length ≤ 4294967296) <|
 some (.next (x44, list5, at_4, (l_1 ++ ([(z6.mk x31 n_)] : List z6))))
def wU (x44 : Int) (list4 : List zb) (at_3 : List (zb × Int)) (l_1 : List z6) (x31 : za) (x32 : zb) : Option (LR (Int × List zb × (List (zb × Int)) × List z6) ((Int × List zb × (List (zb × Int)) × List z6))) :=
 Option.bind (some ((z3x at_3 x32).getD 0)) fun val =>
 bif !((z3x at_3 x32).isSome) then (
  bif ((list4.length : Nat) : Int) == 1024 then (
   some (.done (3, list4, at_3, l_1)))
  else (
   gd (list4.length + ([x32] : List zb).length ≤ 4294967296) <|
   wT x44 l_1 x31 (list4 ++ ([x32] : List zb)) (z3w at_3 x32 ((list4.length : Nat) : Int)) ((list4.length : Nat) : Int)))
 else (
  wT x44 l_1 x31 list4 at_3 val)
def uo (x_ : z8) (x41 : Int) (list1 : List zb) (at_ : List (zb × Int)) (steps1 : List (List z6)) (i_ : Int) : Option (LR (Int × List zb × (List (zb × Int)) × List (List z6) × Int) ((Int × List zb × List (List z6)) ⊕ (List zb × List (List z6) × Int))) :=
 bif decide (i_ < ((list1.length : Nat) : Int)) then (
  Option.bind (idx list1 i_) fun list_e =>
  Option.bind (xi x_ list_e) fun r_2 =>
  Option.bind (y6 r_2.1 r_2.2 (yOf (fun s x => wU s.1 s.2.1 s.2.2.1 s.2.2.2 x.1 x.2)) (.next (x41, list1, at_, ([] : List z6)))) fun t5 =>
  match t5 with
  | .next (x44, list4, at_3, l_1) => (
   up steps1 i_ x44 list4 at_3 l_1)
  | .done (x44, list4, at_3, l_1) => (
   some (.done (.inr (([] : List zb), ([] : List (List z6)), x44)))))
 else (
  some (.done (.inl (x41, list1, steps1))))
def wP (x_ : z8) : Option (List zb × List (List z6) × Int) :=
 Option.bind (loop (fun s => uo x_ s.1 s.2.1 s.2.2.1 s.2.2.2.1 s.2.2.2.2) (0, ([(zb.mk (zD.mk 0 0 0 0) (zD.mk (zf.mk 0 (zD.mk 0 0 0 0)) (zf.mk 0 (zD.mk 0 0 0 0)) (zf.mk 0 (zD.mk 0 0 0 0)) (zf.mk 0 (zD.mk 0 0 0 0))))] : List zb), (z3w ([] : List (zb × Int)) (zb.mk (zD.mk 0 0 0 0) (zD.mk (zf.mk 0 (zD.mk 0 0 0 0)) (zf.mk 0 (zD.mk 0 0 0 0)) (zf.mk 0 (zD.mk 0 0 0 0)) (zf.mk 0 (zD.mk 0 0 0 0)))) 0), ([] : List (List z6)), 0)) fun t2 =>
 match t2 with
 | .inl p => ur p.1 p.2.1 p.2.2
 | .inr p => some p
def yZ (s_ : List z7) : Option (List z7) :=
 gd ((0 : Int) ≤ 0 ∧ (0 : Int) ≤ ((s_.length : Nat) : Int) ∧ (((s_.length : Nat) : Int) : Int) ≤ ((s_.length : Nat) : Int) ∧ (((s_.length : Nat) : Int) : Int) ≤ ((s_.length : Nat) : Int)) <|
 some ((s_.drop 0).take (((s_.length : Nat) : Int).toNat - 0))
def Za (r_1 : List zb × List (List z6) × Int) (out : List z7) : Option (List z7 × List (List z6) × Int) :=
 Option.bind (yZ out) fun r_2 =>
 some (r_2, r_1.2.1, 0)
def kZ (x_ : z8) (r_1 : List zb × List (List z6) × Int) (out1 : List z7) (x28 : Int) : Option (LR (List z7 × Int) (List z7)) :=
 bif decide (x28 < ((r_1.1.length : Nat) : Int)) then (
  Option.bind (idx r_1.1 x28) fun u_ =>
  Option.bind (xa x_ u_) fun r_3 =>
  gd (out1.length + ([r_3] : List z7).length ≤ 4294967296) <|
  some (.next ((out1 ++ ([r_3] : List z7)), w64 (x28 + 1))))
 else (
  some (.done out1))
def Zp (x_ : z8) : Option (List z7 × List (List z6) × Int) :=
 Option.bind (vw x_) fun r_ =>
 bif r_ != 0 then (
  some (([] : List z7), ([] : List (List z6)), r_))
 else (
  Option.bind (wP x_) fun r_1 =>
  bif r_1.2.2 != 0 then (
   some (([] : List z7), ([] : List (List z6)), r_1.2.2))
  else (
   Option.bind (loop (fun s => kZ x_ r_1 s.1 s.2) (([] : List z7), 0)) fun t2 =>
   Za r_1 t2))
def vC (a_ : Int) (b_ : Int) (queue : List Int) : Option z7 :=
 some (z7.mk ([a_, b_]) ([queue]))
def uW (part : Int) (arc : Int) : Option za :=
 some (za.mk part arc (-1) (-1))
def YB : Option Int :=
 some 1
def YA (i_ : Int) (x74 : List z6) (x75 : List z6) (x76 : Int) (x79 : List z6) (x80 : List z6) (x81 : Int) (x82 : Bool) : Option (LR Int (Unit ⊕ Int)) :=
 some (.next (w64 (i_ + 1)))
def Yy (s_ : List (List z6)) (steps : List (List z6)) (i_ : Int) (s__e1 : List z6) (s__e2 : List z6) (k_ : Int) : Option (LR Int ((List z6 × List z6 × Int × List z6 × List z6 × Int × Bool) ⊕ Int)) :=
 Option.bind (idx s_ i_) fun s__e3 =>
 bif decide (k_ < ((s__e3.length : Nat) : Int)) then (
  Option.bind (idx s_ i_) fun s__e4 =>
  Option.bind (idx s__e4 k_) fun s__e_e =>
  Option.bind (idx steps i_) fun step_e1 =>
  Option.bind (idx step_e1 k_) fun step_e_e =>
  bif !((s__e_e.Move.Part == step_e_e.Move.Part) && ((s__e_e.Move.Arc == step_e_e.Move.Arc) && ((s__e_e.Move.Other == step_e_e.Move.Other) && ((s__e_e.Move.With == step_e_e.Move.With) && ((s__e_e.To == step_e_e.To) && true))))) then (
   some (.done (.inr 0)))
  else (
   some (.next (w64 (k_ + 1)))))
 else (
  some (.done (.inl (s__e1, s__e1, ((s__e1.length : Nat) : Int), s__e2, s__e2, ((s__e2.length : Nat) : Int), ((s__e1.length : Nat) : Int) != ((s__e2.length : Nat) : Int)))))
def Yz (s_ : List (List z6)) (steps : List (List z6)) (i_ : Int) : Option (LR Int (Unit ⊕ Int)) :=
 bif decide (i_ < ((s_.length : Nat) : Int)) then (
  Option.bind (idx s_ i_) fun s__e =>
  Option.bind (idx steps i_) fun step_e =>
  bif ((s__e.length : Nat) : Int) != ((step_e.length : Nat) : Int) then (
   some (.done (.inr 0)))
  else (
   Option.bind (idx s_ i_) fun s__e1 =>
   Option.bind (idx s_ i_) fun s__e2 =>
   bif ((s__e1.length : Nat) : Int) != ((s__e2.length : Nat) : Int) then (
    some (.done (.inr 0)))
   else (
    Option.bind (loop (fun s => Yy s_ steps i_ s__e1 s__e2 s) 0) fun t5 =>
    match t5 with
    | .inl p => YA i_ p.1 p.2.1 p.2.2.1 p.2.2.2.1 p.2.2.2.2.1 p.2.2.2.2.2.1 p.2.2.2.2.2.2
    | .inr p => some (.done (.inr p)))))
 else (
  some (.done (.inl ())))
def YC (s_ : List (List z6)) (steps : List (List z6)) : Option Int :=
 Option.bind (loop (fun s => Yz s_ steps s) 0) fun t3 =>
 match t3 with
 | .inl p => YB
 | .inr p => some p
def Yx (c_ : List z7) (list : List z7) (i_1 : Int) : Option (LR Int (Unit ⊕ Int)) :=
 bif decide (i_1 < ((c_.length : Nat) : Int)) then (
  Option.bind (idx c_ i_1) fun c__e =>
  Option.bind (idx list i_1) fun list_e =>
  Option.bind (uR c__e list_e) fun r_ =>
  bif r_ == 0 then (
   some (.done (.inr 0)))
  else (
   some (.next (w64 (i_1 + 1)))))
 else (
  some (.done (.inl ())))
def Xl (c_ : List z7) (s_ : List (List z6)) (list : List z7) (steps : List (List z6)) : Option Int :=
 bif ((c_.length : Nat) : Int) != ((list.length : Nat) : Int) then (
  some 0)
 else (
  bif ((s_.length : Nat) : Int) != ((steps.length : Nat) : Int) then (
   some 0)
  else (
   bif ((c_.length : Nat) : Int) != ((c_.length : Nat) : Int) then (
    some 0)
   else (
    bif ((s_.length : Nat) : Int) != ((s_.length : Nat) : Int) then (
     some 0)
    else (
     Option.bind (loop (fun s => Yx c_ list s) 0) fun t6 =>
     match t6 with
     | .inl p => YC s_ steps
     | .inr p => some p))))
def qU (x_ : Int) : Option Bool :=
 some (x_ != x_)
def Wh (x_ : Int) (y_ : Int) : Option Bool :=
 Option.bind (qU x_) fun r_ =>
 bif r_ then (
  Option.bind (qU y_) fun r_1 =>
  bif !r_1 then (
   some true)
  else (
   some (decide (x_ < y_))))
 else (
  some (decide (x_ < y_)))
def ji (x_ : Int) : Option Bool :=
 some (x_ != x_)
def ww (x_ : List Int) (target : Int) (i_ : Int) : Option (Int × Bool) :=
 bif decide (i_ < ((x_.length : Nat) : Int)) then (
  Option.bind (idx x_ i_) fun x__e =>
  bif x__e == target then (
   some (i_, true))
  else (
   Option.bind (idx x_ i_) fun x__e1 =>
   Option.bind (ji x__e1) fun r_ =>
   bif r_ then (
    Option.bind (ji target) fun r_1 =>
    some (i_, r_1))
   else (
    some (i_, false))))
 else (
  some (i_, false))
def wv (x_ : List Int) (target : Int) (i_1 : Int) (j_ : Int) : Option (LR (Int × Int) Int) :=
 bif decide (i_1 < j_) then (
  Option.bind (idx x_ (w64 (Int.fdiv (IntKind.u64.wrap (w64 (i_1 + j_))) (2 ^ 1)))) fun x__e2 =>
  Option.bind (Wh x__e2 target) fun r_2 =>
  bif r_2 then (
   some (.next (w64 ((w64 (Int.fdiv (IntKind.u64.wrap (w64 (i_1 + j_))) (2 ^ 1))) + 1), j_)))
  else (
   some (.next (i_1, w64 (Int.fdiv (IntKind.u64.wrap (w64 (i_1 + j_))) (2 ^ 1))))))
 else (
  some (.done i_1))
def wW (x_ : List Int) (target : Int) : Option (Int × Bool) :=
 Option.bind (loop (fun s => wv x_ target s.1 s.2) (0, ((x_.length : Nat) : Int))) fun t2 =>
 ww x_ target t2
def ko (x_ : Int) : Option Bool :=
 some (x_ != x_)
def kE (x_ : Int) (y_ : Int) : Option Int :=
 Option.bind (ko x_) fun r_ =>
 Option.bind (ko y_) fun r_1 =>
 bif r_ then (
  bif r_1 then (
   some 0)
  else (
   some (-1)))
 else (
  bif r_1 then (
   some 1)
  else (
   bif decide (x_ < y_) then (
    some (-1))
   else (
    bif decide (x_ > y_) then (
     some 1)
    else (
     some 0))))
def kp (x_ : Int) (y_ : Int) : Option Int :=
 Option.bind (qU x_) fun r_ =>
 Option.bind (qU y_) fun r_1 =>
 bif r_ then (
  bif r_1 then (
   some 0)
  else (
   some (-1)))
 else (
  bif r_1 then (
   some 1)
  else (
   bif decide (x_ < y_) then (
    some (-1))
   else (
    bif decide (x_ > y_) then (
     some 1)
    else (
     some 0))))
def Xs : Option Int :=
 some 0
def Xr (vals : List Int) (x8 : Int) : Option (LR Int (Unit ⊕ Int)) :=
 bif decide (x8 < ((vals.length : Nat) : Int)) then (
  Option.bind (idx vals x8) fun val_e =>
  bif val_e != 0 then (
   some (.done (.inr val_e)))
  else (
   some (.next (w64 (x8 + 1)))))
 else (
  some (.done (.inl ())))
def Uz (vals : List Int) : Option Int :=
 Option.bind (loop (fun s => Xr vals s) 0) fun t2 =>
 match t2 with
 | .inl p => Xs
 | .inr p => some p
def kA (a_ : zg) (b_ : zg) : Option Int :=
 Option.bind (kE a_.Kind b_.Kind) fun r_ =>
 Option.bind (kp a_.Label b_.Label) fun r_1 =>
 Option.bind (kp a_.To b_.To) fun r_2 =>
 Option.bind (Uz ([r_, r_1, r_2])) fun r_3 =>
 some r_3
def xp (s_ : List zg) : Option (List zg) :=
 some s_
def xo (k_ : Int) : Option (LR Int (Unit ⊕ List zg)) :=
 some (.next (w64 (k_ + 1)))
def xm (s_1 : List zg) (k_1 : Int) : Option (LR Int (Unit ⊕ List zg)) :=
 gd ((0 : Int) ≤ k_1 ∧ (k_1 : Int) ≤ ((s_1.length : Nat) : Int)) <|
 gd ((0 : Int) ≤ k_1 ∧ (k_1 : Int) ≤ ((s_1.length : Nat) : Int)) <|
 gd ((0 : Int) ≤ k_1 ∧ (k_1 : Int) ≤ (((s_1.take k_1.toNat ++ List.replicate (s_1.length - k_1.toNat) (zg.mk 0 0 0)).length : Nat) : Int)) <|
 some (.done (.inr ((s_1.take k_1.toNat ++ List.replicate (s_1.length - k_1.toNat) (zg.mk 0 0 0)).take k_1.toNat)))
def yo (k2 : Int) (s_3 : List zg) (k_3 : Int) : Option (LR (List zg × Int × Int) ((List zg × Int))) :=
 some (.next (s_3, k_3, w64 (k2 + 1)))
def xk (k_ : Int) (s_2 : List zg) (k_2 : Int) (k2 : Int) : Option (LR (List zg × Int × Int) ((List zg × Int))) :=
 bif decide (k2 < ((s_2.length - k_.toNat : Nat) : Int)) then (
  gd ((0 : Int) ≤ k_ ∧ (0 : Int) ≤ k2) <|
  Option.bind (idx s_2 (k_ + k2)) fun s__e2 =>
  gd ((0 : Int) ≤ k_ ∧ (0 : Int) ≤ w64 (k2 - 1)) <|
  Option.bind (idx s_2 (k_ + (w64 (k2 - 1)))) fun s__e3 =>
  bif !((s__e2.Kind == s__e3.Kind) && ((s__e2.Label == s__e3.Label) && ((s__e2.To == s__e3.To) && true))) then (
   gd ((0 : Int) ≤ k_ ∧ (0 : Int) ≤ k2) <|
   Option.bind (idx s_2 (k_ + k2)) fun s__e4 =>
   Option.bind (idx s_2 k_2) fun s__e5 =>
   yo k2 (s_2.set k_2.toNat s__e4) (w64 (k_2 + 1)))
  else (
   yo k2 s_2 k_2))
 else (
  some (.done (s_2, k_2)))
def xl (s_ : List zg) (k_ : Int) : Option (LR Int (Unit ⊕ List zg)) :=
 bif decide (k_ < ((s_.length : Nat) : Int)) then (
  Option.bind (idx s_ k_) fun s__e =>
  Option.bind (idx s_ (w64 (k_ - 1))) fun s__e1 =>
  bif (s__e.Kind == s__e1.Kind) && ((s__e.Label == s__e1.Label) && ((s__e.To == s__e1.To) && true)) then (
   gd ((0 : Int) ≤ k_ ∧ (k_ : Int) ≤ ((s_.length : Nat) : Int)) <|
   Option.bind (loop (fun s => xk k_ s.1 s.2.1 s.2.2) (s_, k_, 1)) fun t5 =>
   xm t5.1 t5.2)
  else (
   xo k_))
 else (
  some (.done (.inl ())))
def xQ (s_ : List zg) : Option (List zg) :=
 bif decide (((s_.length : Nat) : Int) < 2) then (
  some s_)
 else (
  Option.bind (loop (fun s => xl s_ s) 1) fun t2 =>
  match t2 with
  | .inl p => xp s_
  | .inr p => some p)
def wk (s_ : List zg) : Option (List zg) :=
 gd ((0 : Int) ≤ 0 ∧ (0 : Int) ≤ ((s_.length : Nat) : Int) ∧ (((s_.length : Nat) : Int) : Int) ≤ ((s_.length : Nat) : Int) ∧ (((s_.length : Nat) : Int) : Int) ≤ ((s_.length : Nat) : Int)) <|
 some ((s_.drop 0).take (((s_.length : Nat) : Int).toNat - 0))
def w7 (s_ : List (List zg)) : Option (List (List zg)) :=
 gd ((0 : Int) ≤ 0 ∧ (0 : Int) ≤ ((s_.length : Nat) : Int) ∧ (((s_.length : Nat) : Int) : Int) ≤ ((s_.length : Nat) : Int) ∧ (((s_.length : Nat) : Int) : Int) ≤ ((s_.length : Nat) : Int)) <|
 some ((s_.drop 0).take (((s_.length : Nat) : Int).toNat - 0))
def jX (x_ : z8) (out_Rows : List (List zg)) : Option (zG × Int) :=
 Option.bind (w7 out_Rows) fun r_3 =>
 some ((zG.mk 0 x_.Labels r_3), 0)
def jW (x51 : Int) (out_Rows2 : List (List zg)) : Option (LR (List (List zg) × Int) (List (List zg) ⊕ (zG × Int))) :=
 some (.next (out_Rows2, w64 (x51 + 1)))
def jV (out_Rows1 : List (List zg)) (x51 : Int) (row : List zg) : Option (LR (List (List zg) × Int) (List (List zg) ⊕ (zG × Int))) :=
 Option.bind (z8b (fun x y => kA x y) row) fun sorted =>
 Option.bind (xQ sorted) fun r_4 =>
 Option.bind (wk r_4) fun r_5 =>
 bif decide (((r_5.length : Nat) : Int) > 256) then (
  some (.done (.inr ((zG.mk 0 0 []), 3))))
 else (
  gd (out_Rows1.length + ([r_5] : List (List zg)).length ≤ 4294967296) <|
  jW x51 (out_Rows1 ++ ([r_5] : List (List zg))))
def vt (row1 : List zg) (x57 : Int) (u__e : z6) (arc_Kind : Int) (arc_Label : Int) : Option (LR (List zg × Int) (List zg)) :=
 gd (row1.length + ([(zg.mk arc_Kind arc_Label u__e.To)] : List zg).length ≤ 4294967296) <|
 some (.next ((row1 ++ ([(zg.mk arc_Kind arc_Label u__e.To)] : List zg)), w64 (x57 + 1)))
def jT (x_ : z8) (hidden : List Int) (u_ : List z6) (row1 : List zg) (x57 : Int) : Option (LR (List zg × Int) (List zg)) :=
 bif decide (x57 < ((u_.length : Nat) : Int)) then (
  Option.bind (idx u_ x57) fun u__e =>
  Option.bind (idx x_.Parts u__e.Move.Part) fun Part_e =>
  Option.bind (idx Part_e.Arcs u__e.Move.Arc) fun Arc_e =>
  Option.bind (wW hidden Arc_e.Message) fun r_6 =>
  bif Arc_e.Kind == 0 then (
   bif !r_6.2 then (
    vt row1 x57 u__e 2 Arc_e.Message)
   else (
    vt row1 x57 u__e 0 0))
  else (
   vt row1 x57 u__e 0 0))
 else (
  some (.done row1))
def jU (x_ : z8) (hidden : List Int) (r_2 : List zb × List (List z6) × Int) (out_Rows1 : List (List zg)) (x51 : Int) : Option (LR (List (List zg) × Int) (List (List zg) ⊕ (zG × Int))) :=
 bif decide (x51 < ((r_2.2.1.length : Nat) : Int)) then (
  Option.bind (idx r_2.2.1 x51) fun u_ =>
  Option.bind (loop (fun s => jT x_ hidden u_ s.1 s.2) (([] : List zg), 0)) fun t5 =>
  jV out_Rows1 x51 t5)
 else (
  some (.done (.inl out_Rows1)))
def jY (x_ : z8) (hidden : List Int) : Option (zG × Int) :=
 Option.bind (vw x_) fun r_ =>
 bif r_ != 0 then (
  some ((zG.mk 0 0 []), r_))
 else (
  Option.bind (uQ hidden x_.Labels) fun r_1 =>
  bif !r_1 then (
   some ((zG.mk 0 0 []), 1))
  else (
   Option.bind (wP x_) fun r_2 =>
   bif r_2.2.2 != 0 then (
    some ((zG.mk 0 0 []), r_2.2.2))
   else (
    bif decide (((r_2.1.length : Nat) : Int) > 64) then (
     some ((zG.mk 0 0 []), 3))
    else (
     Option.bind (loop (fun s => jU x_ hidden r_2 s.1 s.2) (([] : List (List zg)), 0)) fun t2 =>
     match t2 with
     | .inl p => jX x_ p
     | .inr p => some p))))
def Zj : Option Int :=
 some 1
def Zi (i_ : Int) : Option (LR Int (Unit ⊕ Int)) :=
 some (.next (w64 (i_ + 1)))
def Zg (a_ : zG) (b_ : zG) (i_ : Int) (k_ : Int) : Option (LR Int (Unit ⊕ Int)) :=
 Option.bind (idx a_.Rows i_) fun Row_e2 =>
 bif decide (k_ < ((Row_e2.length : Nat) : Int)) then (
  Option.bind (idx a_.Rows i_) fun Row_e3 =>
  Option.bind (idx Row_e3 k_) fun Row_e_e =>
  Option.bind (idx b_.Rows i_) fun Row_e4 =>
  Option.bind (idx Row_e4 k_) fun Row_e_e1 =>
  bif !((Row_e_e.Kind == Row_e_e1.Kind) && ((Row_e_e.Label == Row_e_e1.Label) && ((Row_e_e.To == Row_e_e1.To) && true))) then (
   some (.done (.inr 0)))
  else (
   some (.next (w64 (k_ + 1)))))
 else (
  some (.done (.inl ())))
def Zh (a_ : zG) (b_ : zG) (i_ : Int) : Option (LR Int (Unit ⊕ Int)) :=
 bif decide (i_ < ((a_.Rows.length : Nat) : Int)) then (
  Option.bind (idx a_.Rows i_) fun Row_e =>
  Option.bind (idx b_.Rows i_) fun Row_e1 =>
  bif ((Row_e.length : Nat) : Int) != ((Row_e1.length : Nat) : Int) then (
   some (.done (.inr 0)))
  else (
   Option.bind (loop (fun s => Zg a_ b_ i_ s) 0) fun t4 =>
   match t4 with
   | .inl p => Zi i_
   | .inr p => some (.done (.inr p))))
 else (
  some (.done (.inl ())))
def Zr (a_ : zG) (b_ : zG) : Option Int :=
 bif a_.Inputs != b_.Inputs then (
  some 0)
 else (
  bif a_.Outputs != b_.Outputs then (
   some 0)
  else (
   bif ((a_.Rows.length : Nat) : Int) != ((b_.Rows.length : Nat) : Int) then (
    some 0)
   else (
    Option.bind (loop (fun s => Zh a_ b_ s) 0) fun t2 =>
    match t2 with
    | .inl p => Zj
    | .inr p => some p)))
def uB : Option Int :=
 some (-1)
def uA (s_ : List Int) (v_ : Int) (x8 : Int) : Option (LR Int (Unit ⊕ Int)) :=
 bif decide (x8 < ((s_.length : Nat) : Int)) then (
  Option.bind (idx s_ x8) fun s__e =>
  bif v_ == s__e then (
   some (.done (.inr x8)))
  else (
   some (.next (w64 (x8 + 1)))))
 else (
  some (.done (.inl ())))
def j4 (s_ : List Int) (v_ : Int) : Option Int :=
 Option.bind (loop (fun s => uA s_ v_ s) 0) fun t2 =>
 match t2 with
 | .inl p => uB
 | .inr p => some p
def uC (s_ : List Int) (v_ : Int) : Option Bool :=
 Option.bind (j4 s_ v_) fun r_ =>
 some (decide (r_ ≥ 0))
def un (s_ : zb) : Option Bool :=
 some ((s_.queues_.e0.many_ == 0) && ((s_.queues_.e0.l_.e0 == 0) && ((s_.queues_.e0.l_.e1 == 0) && ((s_.queues_.e0.l_.e2 == 0) && ((s_.queues_.e0.l_.e3 == 0) && ((s_.queues_.e1.many_ == 0) && ((s_.queues_.e1.l_.e0 == 0) && ((s_.queues_.e1.l_.e1 == 0) && ((s_.queues_.e1.l_.e2 == 0) && ((s_.queues_.e1.l_.e3 == 0) && ((s_.queues_.e2.many_ == 0) && ((s_.queues_.e2.l_.e0 == 0) && ((s_.queues_.e2.l_.e1 == 0) && ((s_.queues_.e2.l_.e2 == 0) && ((s_.queues_.e2.l_.e3 == 0) && ((s_.queues_.e3.many_ == 0) && ((s_.queues_.e3.l_.e0 == 0) && ((s_.queues_.e3.l_.e1 == 0) && ((s_.queues_.e3.l_.e2 == 0) && ((s_.queues_.e3.l_.e3 == 0) && true))))))))))))))))))))
def um (x_ : z8) (s_ : zb) (x10 : Int) : Option (LR Int (Unit ⊕ Bool)) :=
 bif decide (x10 < ((x_.Parts.length : Nat) : Int)) then (
  Option.bind (idx x_.Parts x10) fun Part_e =>
  Option.bind (idx (zD.toL s_.states_) x10) fun cell =>
  Option.bind (uC Part_e.Final cell) fun r_ =>
  bif !r_ then (
   some (.done (.inr false)))
  else (
   some (.next (w64 (x10 + 1)))))
 else (
  some (.done (.inl ())))
def qY (x_ : z8) (s_ : zb) : Option Bool :=
 Option.bind (loop (fun s => um x_ s_ s) 0) fun t2 =>
 match t2 with
 | .inl p => un s_
 | .inr p => some p
def yR (s_1 : List za) (i_ : Int) (j_ : Int) : Option (LR (List za × Int × Int) (List za)) :=
 bif decide (i_ < j_) then (
  Option.bind (idx s_1 j_) fun s__e =>
  Option.bind (idx s_1 i_) fun s__e1 =>
  Option.bind (idx s_1 i_) fun s__e2 =>
  Option.bind (idx (s_1.set i_.toNat s__e) j_) fun u_e =>
  some (.next (((s_1.set i_.toNat s__e).set j_.toNat s__e1), w64 (i_ + 1), w64 (j_ - 1))))
 else (
  some (.done s_1))
def x6 (s_ : List za) : Option (List za) :=
 Option.bind (loop (fun s => yR s.1 s.2.1 s.2.2) (s_, 0, w64 (((s_.length : Nat) : Int) - 1))) fun t1 =>
 some t1
def jt : Option (List za × z7 × Int) :=
 some (([] : List za), (z7.mk [] []), 7)
def ut (x69 : Int) : Option (LR Int (Unit ⊕ (List za × z7 × Int))) :=
 some (.next (w64 (x69 + 1)))
def js (x_ : z8) (r_1 : List zb × List (List z6) × Int) (x69 : Int) (run : List za) : Option (LR Int (Unit ⊕ (List za × z7 × Int))) :=
 Option.bind (x6 run) fun r_3 =>
 Option.bind (y7 r_3) fun r_4 =>
 Option.bind (idx r_1.1 x69) fun u_2 =>
 Option.bind (xa x_ u_2) fun r_5 =>
 some (.done (.inr (r_4, r_5, 0)))
def jp (by_ : List zu) (run1 : List za) (n_ : Int) : Option (LR (List za × Int) (List za)) :=
 bif decide (n_ > 0) then (
  Option.bind (idx by_ n_) fun by__e =>
  gd (run1.length + ([by__e.move_] : List za).length ≤ 4294967296) <|
  Option.bind (idx by_ n_) fun by__e1 =>
  some (.next ((run1 ++ ([by__e.move_] : List za)), by__e1.from_)))
 else (
  some (.done run1))
def jq (x_ : z8) (r_1 : List zb × List (List z6) × Int) (by_ : List zu) (x69 : Int) : Option (LR Int (Unit ⊕ (List za × z7 × Int))) :=
 bif decide (x69 < ((r_1.2.1.length : Nat) : Int)) then (
  Option.bind (idx r_1.2.1 x69) fun u_ =>
  bif decide (((u_.length : Nat) : Int) > 0) then (
   ut x69)
  else (
   Option.bind (idx r_1.1 x69) fun u_1 =>
   Option.bind (qY x_ u_1) fun r_2 =>
   bif r_2 then (
    ut x69)
   else (
    Option.bind (loop (fun s => jp by_ s.1 s.2) (([] : List za), x69)) fun t6 =>
    js x_ r_1 x69 t6)))
 else (
  some (.done (.inl ())))
def ju (x_ : z8) (r_1 : List zb × List (List z6) × Int) (by_ : List zu) : Option (List za × z7 × Int) :=
 Option.bind (loop (fun s => jq x_ r_1 by_ s) 0) fun t3 =>
 match t3 with
 | .inl p => jt
 | .inr p => some p
def jr (x40 : Int) (by_2 : List zu) (seen1 : Int) : Option (LR (List zu × Int × Int) (List zu)) :=
 some (.next (by_2, seen1, w64 (x40 + 1)))
def vT (x47 : Int) (by_4 : List zu) (seen3 : Int) : Option (LR (List zu × Int × Int) ((List zu × Int))) :=
 some (.next (by_4, seen3, w64 (x47 + 1)))
def jn (x40 : Int) (u_3 : List z6) (by_3 : List zu) (seen2 : Int) (x47 : Int) : Option (LR (List zu × Int × Int) ((List zu × Int))) :=
 bif decide (x47 < ((u_3.length : Nat) : Int)) then (
  Option.bind (idx u_3 x47) fun u__e =>
  bif u__e.To == seen2 then (
   Option.bind (idx by_3 u__e.To) fun by__e2 =>
   vT x47 (by_3.set u__e.To.toNat (zu.mk x40 u__e.Move)) (w64 (seen2 + 1)))
  else (
   vT x47 by_3 seen2))
 else (
  some (.done (by_3, seen2)))
def jo (r_1 : List zb × List (List z6) × Int) (by_1 : List zu) (seen : Int) (x40 : Int) : Option (LR (List zu × Int × Int) (List zu)) :=
 bif decide (x40 < ((r_1.2.1.length : Nat) : Int)) then (
  Option.bind (idx r_1.2.1 x40) fun u_3 =>
  Option.bind (loop (fun s => jn x40 u_3 s.1 s.2.1 s.2.2) (by_1, seen, 0)) fun t9 =>
  jr x40 t9.1 t9.2)
 else (
  some (.done by_1))
def jf (x_ : z8) : Option (List za × z7 × Int) :=
 Option.bind (vw x_) fun r_ =>
 bif r_ != 0 then (
  some (([] : List za), (z7.mk [] []), r_))
 else (
  Option.bind (wP x_) fun r_1 =>
  bif r_1.2.2 != 0 then (
   some (([] : List za), (z7.mk [] []), r_1.2.2))
  else (
   gd ((0 : Int) ≤ ((r_1.1.length : Nat) : Int) ∧ (((r_1.1.length : Nat) : Int) : Int) ≤ 4294967296) <|
   Option.bind (loop (fun s => jo r_1 s.1 s.2.1 s.2.2) ((List.replicate ((r_1.1.length : Nat) : Int).toNat (zu.mk 0 (za.mk 0 0 0 0))), 1, 0)) fun t7 =>
   ju x_ r_1 t7))
def Yw : Option Int :=
 some 1
def Yv (a_ : List za) (b_ : List za) (i_ : Int) : Option (LR Int (Unit ⊕ Int)) :=
 bif decide (i_ < ((a_.length : Nat) : Int)) then (
  Option.bind (idx a_ i_) fun a__e =>
  Option.bind (idx b_ i_) fun b__e =>
  bif !((a__e.Part == b__e.Part) && ((a__e.Arc == b__e.Arc) && ((a__e.Other == b__e.Other) && ((a__e.With == b__e.With) && true)))) then (
   some (.done (.inr 0)))
  else (
   some (.next (w64 (i_ + 1)))))
 else (
  some (.done (.inl ())))
def V6 (a_ : List za) (b_ : List za) : Option Int :=
 bif ((a_.length : Nat) : Int) != ((b_.length : Nat) : Int) then (
  some 0)
 else (
  bif ((a_.length : Nat) : Int) != ((a_.length : Nat) : Int) then (
   some 0)
  else (
   Option.bind (loop (fun s => Yv a_ b_ s) 0) fun t2 =>
   match t2 with
   | .inl p => Yw
   | .inr p => some p))
def ZP : Option Bool :=
 Option.bind (YQ 1 ([(ze.mk 0 2 0 0 0)])) fun r_ =>
 Option.bind (Zp r_) fun r_1 =>
 Option.bind (vC 0 0 []) fun r_2 =>
 Option.bind (vC 1 0 ([0])) fun r_3 =>
 Option.bind (vC 0 0 ([0])) fun r_4 =>
 Option.bind (vC 1 0 []) fun r_5 =>
 Option.bind (uW 0 0) fun r_6 =>
 Option.bind (uW 0 1) fun r_7 =>
 Option.bind (uW 1 0) fun r_8 =>
 Option.bind (uW 1 0) fun r_9 =>
 Option.bind (uW 0 1) fun r_10 =>
 bif r_1.2.2 != 0 then (
  some false)
 else (
  Option.bind (Xl r_1.1 r_1.2.1 ([r_2, r_3, r_4, r_5]) ([[(z6.mk r_6 1)], [(z6.mk r_7 2), (z6.mk r_8 3)], [(z6.mk r_9 0)], [(z6.mk r_10 0)]])) fun r_11 =>
  bif r_11 == 0 then (
   some false)
  else (
   Option.bind (jY r_ []) fun r_12 =>
   Option.bind (jY r_ ([0])) fun r_13 =>
   bif r_12.2 != 0 then (
    some false)
   else (
    bif r_13.2 != 0 then (
     some false)
    else (
     Option.bind (Zr r_12.1 (zG.mk 0 1 ([[(zg.mk 0 0 1)], [(zg.mk 0 0 3), (zg.mk 2 0 2)], [(zg.mk 0 0 0)], [(zg.mk 2 0 0)]]))) fun r_14 =>
     Option.bind (Zr r_13.1 (zG.mk 0 1 ([[(zg.mk 0 0 1)], [(zg.mk 0 0 2), (zg.mk 0 0 3)], [(zg.mk 0 0 0)], [(zg.mk 0 0 0)]]))) fun r_15 =>
     bif (w64 (r_14 * r_15)) == 0 then (
      some false)
     else (
      Option.bind (jf r_) fun r_16 =>
      Option.bind (YQ 1 []) fun r_17 =>
      Option.bind (jf r_17) fun r_18 =>
      Option.bind (YQ 0 ([(ze.mk 0 2 0 0 0)])) fun r_19 =>
      Option.bind (Zp r_19) fun r_20 =>
      bif r_16.2.2 != 7 then (
       some false)
      else (
       bif r_18.2.2 != 0 then (
        some false)
       else (
        Option.bind (uW 0 0) fun r_21 =>
        Option.bind (uW 0 1) fun r_22 =>
        Option.bind (V6 r_18.1 ([r_21, r_22])) fun r_23 =>
        bif r_23 == 0 then (
         some false)
        else (
         Option.bind (vC 0 0 ([0])) fun r_24 =>
         Option.bind (uR r_18.2.1 r_24) fun r_25 =>
         bif r_25 == 0 then (
          some false)
         else (
          bif r_20.2.2 != 0 then (
           some false)
          else (
           Option.bind (vC 0 0 []) fun r_26 =>
           Option.bind (vC 1 0 []) fun r_27 =>
           Option.bind (uW 0 1) fun r_28 =>
           Option.bind (Xl r_20.1 r_20.2.1 ([r_26, r_27]) ([[(z6.mk (za.mk 0 0 1 0) 1)], [(z6.mk r_28 0)]])) fun r_29 =>
           some (r_29 == 1)))))))))))
def vD (m_ : za) (r_ : z8) (u_ : z7) (there : Bool) : Option Bool :=
 Option.bind (jz r_ u_ m_) fun r_4 =>
 bif there then (
  bif r_4.2 == 0 then (
   Option.bind (ZP) fun r_5 =>
   some r_5)
  else (
   some false))
 else (
  bif r_4.2 == 7 then (
   bif (w64 (((r_4.1.States.length : Nat) : Int) + ((r_4.1.Queues.length : Nat) : Int))) == 0 then (
    Option.bind (ZP) fun r_6 =>
    some r_6)
   else (
    some false))
  else (
   some false))
def wB (i_ : Int) (there2 : Bool) (x87 : Int) (x88 : Bool) (x91_States : List Int) (x91_Queues : List (List Int)) (x96_States : List Int) (x96_Queues : List (List Int)) (x97 : Int) (x98 : Bool) : Option (LR (Bool × Int) (Bool ⊕ Bool)) :=
 some (.next (there2, w64 (i_ + 1)))
def xL (m_ : za) (r_ : z8) (u_ : z7) (r_2 : List za × Int) (r_3 : List zh) (there1 : Bool) (i_ : Int) : Option (LR (Bool × Int) (Bool ⊕ Bool)) :=
 bif decide (i_ < ((r_3.length : Nat) : Int)) then (
  Option.bind (idx r_2.1 i_) fun u_1 =>
  Option.bind (jz r_ u_ u_1) fun r_7 =>
  Option.bind (idx r_2.1 i_) fun u_2 =>
  Option.bind (idx r_3 i_) fun r__e =>
  bif !((u_2.Part == r__e.Move.Part) && ((u_2.Arc == r__e.Move.Arc) && ((u_2.Other == r__e.Move.Other) && ((u_2.With == r__e.Move.With) && true)))) then (
   some (.done (.inr false)))
  else (
   bif r_7.2 != 0 then (
    some (.done (.inr false)))
   else (
    Option.bind (idx r_3 i_) fun r__e1 =>
    Option.bind (uR r_7.1 r__e1.To) fun r_8 =>
    bif r_8 == 0 then (
     some (.done (.inr false)))
    else (
     bif there1 then (
      wB i_ true r_7.2 (r_7.2 != 0) r_7.1.States r_7.1.Queues r__e1.To.States r__e1.To.Queues r_8 (r_8 == 0))
     else (
      Option.bind (idx r_2.1 i_) fun u_3 =>
      wB i_ ((u_3.Part == m_.Part) && ((u_3.Arc == m_.Arc) && ((u_3.Other == m_.Other) && ((u_3.With == m_.With) && true)))) r_7.2 (r_7.2 != 0) r_7.1.States r_7.1.Queues r__e1.To.States r__e1.To.Queues r_8 (r_8 == 0))))))
 else (
  some (.done (.inl there1)))
def qh (x_ : ya) (n_ : Int) (m_ : za) : Option Bool :=
 Option.bind (YR (ya.mk x_.Channels x_.Parts)) fun r_ =>
 Option.bind (ZJ r_ 60) fun r_1 =>
 gd ((((r_1.1.length : Nat) : Int) : Int) ≠ 0) <|
 Option.bind (idx r_1.1 (Int.tmod (w64 (n_)) ((r_1.1.length : Nat) : Int))) fun u_ =>
 Option.bind (jZ r_ u_) fun r_2 =>
 Option.bind (kC r_ u_) fun r_3 =>
 bif r_2.2 != 0 then (
  some false)
 else (
  bif ((r_2.1.length : Nat) : Int) != ((r_3.length : Nat) : Int) then (
   some false)
  else (
   bif ((r_2.1.length : Nat) : Int) != ((r_2.1.length : Nat) : Int) then (
    some false)
   else (
    Option.bind (loop (fun s => xL m_ r_ u_ r_2 r_3 s.1 s.2) (false, 0)) fun t2 =>
    match t2 with
    | .inl p => vD m_ r_ u_ p
    | .inr p => some p)))
abbrev F0_ := Wg (eI .i64)
abbrev F1_ := eSl 1 true (eI .i64)
abbrev F2_ := eSl 1 false (eI .i64)
abbrev F3_ := eOs 1 false (eI .i64)
abbrev F4_ := eSl 5 false (XN (eI .u8))
abbrev F5_ := eSl 1 true F1_
abbrev F6_ := eSl 1 true F2_
abbrev F7_ := eSl 1 false F2_
abbrev F8_ := wL (eI .u8) (eI .i64) (eI .i64)
abbrev F9_ := yk (eI .i64) F0_
abbrev z3C := Wg F9_
abbrev U0 := eSl 3 true F8_
abbrev xu := yM (eI .i64) (eI .i64) (eI .i64) (eI .i64)
abbrev YM := eSl 3 false F8_
abbrev Vw := uO (eI .u8) (eI .u8) F4_
abbrev vW := xD (eI .i64) (eI .u8) (eI .i64) (eI .i64) (eI .i64)
abbrev z5r := eSl 4 true xu
abbrev zce := eSl 1 true YM
abbrev z9q := eSl 4 false xu
abbrev zeY := eSl 1 false YM
abbrev zfV := eSl 3 false Vw
abbrev Kj := zK F1_ F5_
abbrev z3a := eSl 5 true vW
abbrev z9c := eSl 5 false vW
abbrev zfU := eOs 5 false vW
abbrev z7x := zK F1_ F6_
abbrev xh := zK F2_ F7_
abbrev qH := xc xu (eI .i64)
abbrev Qj := Qq (eI .i64) xu
abbrev yH := yI F0_ z3C
abbrev zcd := eSl 2 true z7x
abbrev z5h := eSl 2 true xh
abbrev z9b := eSl 2 false xh
abbrev wE := eSl 5 true qH
abbrev XZ := eSl 5 false qH
abbrev Ki := eOs 5 false qH
abbrev K6 := kT (Kf (eI .u8)) zfV
abbrev z3B := wY (eI .i64) (eI .i64) zeY
abbrev z2s := eSl 1 true wE
abbrev z9p := eSl 1 false XZ
abbrev z9o := yK (eI .i64) z3a F1_
abbrev wH := yK (eI .i64) z9c F2_
abbrev QO := yK (eI .i64) zfU F3_
abbrev z7w := eSp wH
abbrev zfT := eSl 3 true z9o
abbrev z7v := eSl 3 false wH
abbrev qA := Wf xu xh
abbrev z7u := w6 (eI .i64) (eI .i64) F1_ zfT
abbrev z5g := w6 (eI .i64) (eI .i64) F1_ z7v
abbrev yV := w6 (eI .i64) (eI .i64) F2_ z7v
abbrev z0z := eSp yV
def rpN {α : Type _} (n : Nat) (a : α) (l : List α) : List α := Nat.rec l (fun _ r => a :: r) n
end Go.Own

namespace Go.Proofs
open Go.Shelf
def Tryz.so48_ren : Go.Shelf.Ren := ⟨fun | 6 => 48 | 15 => 79 | 14 => 78 | 28 => 101 | 29 => 102 | 20 => 93 | 21 => 94 | 22 => 95 | 23 => 96 | 24 => 97 | 25 => 98 | 26 => 99 | 27 => 100 | 46 => 108 | 47 => 109 | 48 => 110 | 49 => 111 | 50 => 112 | 57 => 113 | n => n, fun | 22 => 59 | 24 => 61 | 25 => 126 | 3 => 3 | 39 => 50 | 0 => 0 | 53 => 171 | 55 => 173 | 4 => 4 | 46 => 165 | 45 => 164 | 50 => 120 | 5 => 5 | 9 => 9 | 66 => 181 | 70 => 185 | 76 => 198 | 77 => 199 | n => n, fun | n => n⟩
theorem Tryz.so48 : Go.Proofs.SlLaysF0.n6 Tryz.prog Tryz.so48_ren := {
 mixed := by kernel_rfl
 f6 := ⟨Tryz.f48.name, by decide, Tryz.func48.trans (congrArg some (by kernel_rfl))⟩
 f14 := ⟨Tryz.f78.name, by decide, Tryz.func78.trans (congrArg some (by kernel_rfl))⟩
 f15 := Tryz.func79.trans (congrArg some (by kernel_rfl))
 f20 := ⟨Tryz.f93.name, by decide, Tryz.func93.trans (congrArg some (by kernel_rfl))⟩
 f21 := ⟨Tryz.f94.name, by decide, Tryz.func94.trans (congrArg some (by kernel_rfl))⟩
 f22 := ⟨Tryz.f95.name, by decide, Tryz.func95.trans (congrArg some (by kernel_rfl))⟩
 f23 := ⟨Tryz.f96.name, by decide, Tryz.func96.trans (congrArg some (by kernel_rfl))⟩
 f24 := ⟨Tryz.f97.name, by decide, Tryz.func97.trans (congrArg some (by kernel_rfl))⟩
 f25 := ⟨Tryz.f98.name, by decide, Tryz.func98.trans (congrArg some (by kernel_rfl))⟩
 f26 := ⟨Tryz.f99.name, by decide, Tryz.func99.trans (congrArg some (by kernel_rfl))⟩
 f27 := ⟨Tryz.f100.name, by decide, Tryz.func100.trans (congrArg some (by kernel_rfl))⟩
 f28 := Tryz.func101.trans (congrArg some (by kernel_rfl))
 f29 := Tryz.func102.trans (congrArg some (by kernel_rfl))
 f46 := ⟨Tryz.f108.name, by decide, Tryz.func108.trans (congrArg some (by kernel_rfl))⟩
 f47 := Tryz.func109.trans (congrArg some (by kernel_rfl))
 f48 := Tryz.func110.trans (congrArg some (by kernel_rfl))
 f49 := ⟨Tryz.f111.name, by decide, Tryz.func111.trans (congrArg some (by kernel_rfl))⟩
 f50 := ⟨Tryz.f112.name, by decide, Tryz.func112.trans (congrArg some (by kernel_rfl))⟩
 f57 := ⟨Tryz.f113.name, by decide, Tryz.func113.trans (congrArg some (by kernel_rfl))⟩
 t0 := Tryz.underlying0
 a0 := Tryz.isAgg0
 z0 := Tryz.sizeOf0
 v0 := Tryz.zeroValue0
 t3 := Tryz.underlying3
 a3 := Tryz.isAgg3
 z3 := Tryz.sizeOf3
 v3 := Tryz.zeroValue3
 t4 := Tryz.underlying4
 a4 := Tryz.isAgg4
 z4 := Tryz.sizeOf4
 v4 := Tryz.zeroValue4
 t5 := Tryz.underlying5
 a5 := Tryz.isAgg5
 z5 := Tryz.sizeOf5
 v5 := Tryz.zeroValue5
 t9 := Tryz.underlying9
 a9 := Tryz.isAgg9
 z9 := Tryz.sizeOf9
 v9 := Tryz.zeroValue9
 t22 := Tryz.underlying59
 a22 := Tryz.isAgg59
 z22 := Tryz.sizeOf59
 v22 := Tryz.zeroValue59
 t25 := Tryz.underlying126
 a25 := Tryz.isAgg126
 z25 := Tryz.sizeOf126
 v25 := Tryz.zeroValue126
 t39 := Tryz.underlying50
 a39 := Tryz.isAgg50
 z39 := Tryz.sizeOf50
 v39 := Tryz.zeroValue50
 t45 := Tryz.underlying164
 a45 := Tryz.isAgg164
 z45 := Tryz.sizeOf164
 v45 := Tryz.zeroValue164
 t46 := Tryz.underlying165
 a46 := Tryz.isAgg165
 z46 := Tryz.sizeOf165
 v46 := Tryz.zeroValue165
 t50 := Tryz.underlying120
 a50 := Tryz.isAgg120
 z50 := Tryz.sizeOf120
 v50 := Tryz.zeroValue120
 t53 := Tryz.underlying171
 a53 := Tryz.isAgg171
 z53 := Tryz.sizeOf171
 v53 := Tryz.zeroValue171
 t55 := Tryz.underlying173
 a55 := Tryz.isAgg173
 z55 := Tryz.sizeOf173
 v55 := Tryz.zeroValue173
 t66 := Tryz.underlying181
 a66 := Tryz.isAgg181
 z66 := Tryz.sizeOf181
 v66 := Tryz.zeroValue181
 t70 := Tryz.underlying185
 a70 := Tryz.isAgg185
 z70 := Tryz.sizeOf185
 v70 := Tryz.zeroValue185
 t76 := Tryz.underlying198
 a76 := Tryz.isAgg198
 z76 := Tryz.sizeOf198
 v76 := Tryz.zeroValue198
 t77 := Tryz.underlying199
 a77 := Tryz.isAgg199
 z77 := Tryz.sizeOf199
 v77 := Tryz.zeroValue199 }
end Go.Proofs
