/- -/
import Derived.Test.YtcldlioffanjaaaGreatDoorPartB
import Derived.Test.YtcldlioffanjaaaGreatDoorProg
import Derived.Test.YtcldlioffanjaaaGreatDoorChecked
import Derived.Test.YtcldlioffanjaaaGreatDoorPartD
import Derived.LaidEql
import Derived.Stop.Asserts
import Derived.RowKitTokens
import Derived.Test.YtcldlioffanjaaaGreatDoorPartC
import Derived.Shelf.SlSortCmp.NoneTotal
import Derived.Ground.SlsfProg
set_option linter.unusedVariables false
set_option linter.unusedSimpArgs false
namespace Go.Ex
open Go.Proofs
theorem q5 : EqP Tryz.prog 5 [.int .u8 0] false 1 := z2V (k := .int .u8) Tryz.underlying5 ⟨_, (by kernel_rfl : Tryz.prog.info? 5 = some Tryz.t5), rfl⟩ rfl
theorem q22 : EqP Tryz.prog 22 (z3n 2 [.int .u8 0]) true 2 := Vw Tryz.underlying22 q5 ⟨_, (by kernel_rfl : Tryz.prog.info? 22 = some Tryz.t22), rfl⟩
def i22 : EI := ⟨.array 2 5, 2, 2, some [.int .u8 0, .int .u8 0], true⟩
theorem zen : z0n Tryz.prog 22 i22 := ⟨⟨Tryz.t22, by kernel_rfl, rfl, rfl, fun z h => by cases h; exact ⟨_, rfl, rfl, kj rfl, rfl, ⟨_, rfl⟩⟩⟩, Tryz.underlying22, fun _ => qa q22 rfl rfl (Nat.le_of_ble_eq_true (by kernel_rfl)) (by decide)⟩
theorem q3 : EqP Tryz.prog 3 [.int .i64 0] false 1 := z2V (k := .int .i64) Tryz.underlying3 ⟨_, (by kernel_rfl : Tryz.prog.info? 3 = some Tryz.t3), rfl⟩ rfl
theorem q60 : EqP Tryz.prog 60 (ke [([.int .u8 0], false), ([.int .i64 0], false), ([.int .i64 0], false)]) true 2 := wN Tryz.underlying60 (by kernel_rfl) ⟨_, (by kernel_rfl : Tryz.prog.info? 60 = some Tryz.t60), rfl⟩ (by decide) (zB.cons (by decide) rfl (q5.mono (by decide)) (zB.cons (by decide) rfl (q3.mono (by decide)) (zB.cons (by decide) rfl (q3.mono (by decide)) (zB.nil))))
def i60 : EI := ⟨.struct [(0, 5), (1, 3), (2, 3)], 3, 24, some [.int .u8 0, .int .i64 0, .int .i64 0], true⟩
theorem zem : z0n Tryz.prog 60 i60 := ⟨⟨Tryz.t60, by kernel_rfl, rfl, rfl, fun z h => by cases h; exact ⟨_, rfl, rfl, kj rfl, rfl, ⟨_, rfl⟩⟩⟩, ⟨_, Tryz.underlying60, by kernel_rfl, by
  intro f hf
  simp only [List.mem_cons, List.not_mem_nil, or_false] at hf
  rcases hf with rfl | rfl | rfl
  ·exact ⟨Tryz.t5, by kernel_rfl⟩
  ·exact ⟨Tryz.t3, by kernel_rfl⟩
  ·exact ⟨Tryz.t3, by kernel_rfl⟩⟩, fun _ => qa q60 rfl rfl (Nat.le_of_ble_eq_true (by kernel_rfl)) (by decide)⟩
theorem q61 : EqP Tryz.prog 61 (ke [([.int .u8 0], false), ([.int .i64 0], false), ([.int .i64 0], false)]) true 2 := wN Tryz.underlying61 (by kernel_rfl) ⟨_, (by kernel_rfl : Tryz.prog.info? 61 = some Tryz.t61), rfl⟩ (by decide) (zB.cons (by decide) rfl (q5.mono (by decide)) (zB.cons (by decide) rfl (q3.mono (by decide)) (zB.cons (by decide) rfl (q3.mono (by decide)) (zB.nil))))
def i61 : EI := ⟨.struct [(0, 5), (1, 3), (2, 3)], 3, 24, some [.int .u8 0, .int .i64 0, .int .i64 0], true⟩
theorem zat : z0n Tryz.prog 61 i61 := ⟨⟨Tryz.t61, by kernel_rfl, rfl, rfl, fun z h => by cases h; exact ⟨_, rfl, rfl, kj rfl, rfl, ⟨_, rfl⟩⟩⟩, ⟨_, Tryz.underlying61, by kernel_rfl, by
  intro f hf
  simp only [List.mem_cons, List.not_mem_nil, or_false] at hf
  rcases hf with rfl | rfl | rfl
  ·exact ⟨Tryz.t5, by kernel_rfl⟩
  ·exact ⟨Tryz.t3, by kernel_rfl⟩
  ·exact ⟨Tryz.t3, by kernel_rfl⟩⟩, fun _ => qa q61 rfl rfl (Nat.le_of_ble_eq_true (by kernel_rfl)) (by decide)⟩
theorem q64 : EqP Tryz.prog 64 (ke [([.int .i64 0], false), ([.int .i64 0], false), ([.int .i64 0], false), ([.int .i64 0], false)]) true 2 := wN Tryz.underlying64 (by kernel_rfl) ⟨_, (by kernel_rfl : Tryz.prog.info? 64 = some Tryz.t64), rfl⟩ (by decide) (zB.cons (by decide) rfl (q3.mono (by decide)) (zB.cons (by decide) rfl (q3.mono (by decide)) (zB.cons (by decide) rfl (q3.mono (by decide)) (zB.cons (by decide) rfl (q3.mono (by decide)) (zB.nil)))))
def i64 : EI := ⟨.struct [(0, 3), (1, 3), (2, 3), (3, 3)], 4, 32, some [.int .i64 0, .int .i64 0, .int .i64 0, .int .i64 0], true⟩
theorem zel : z0n Tryz.prog 64 i64 := ⟨⟨Tryz.t64, by kernel_rfl, rfl, rfl, fun z h => by cases h; exact ⟨_, rfl, rfl, kj rfl, rfl, ⟨_, rfl⟩⟩⟩, ⟨_, Tryz.underlying64, by kernel_rfl, by
  intro f hf
  simp only [List.mem_cons, List.not_mem_nil, or_false] at hf
  rcases hf with rfl | rfl | rfl | rfl
  ·exact ⟨Tryz.t3, by kernel_rfl⟩
  ·exact ⟨Tryz.t3, by kernel_rfl⟩
  ·exact ⟨Tryz.t3, by kernel_rfl⟩
  ·exact ⟨Tryz.t3, by kernel_rfl⟩⟩, fun _ => qa q64 rfl rfl (Nat.le_of_ble_eq_true (by kernel_rfl)) (by decide)⟩
theorem q65 : EqP Tryz.prog 65 (ke [([.int .i64 0], false), ([.int .i64 0], false), ([.int .i64 0], false), ([.int .i64 0], false)]) true 2 := wN Tryz.underlying65 (by kernel_rfl) ⟨_, (by kernel_rfl : Tryz.prog.info? 65 = some Tryz.t65), rfl⟩ (by decide) (zB.cons (by decide) rfl (q3.mono (by decide)) (zB.cons (by decide) rfl (q3.mono (by decide)) (zB.cons (by decide) rfl (q3.mono (by decide)) (zB.cons (by decide) rfl (q3.mono (by decide)) (zB.nil)))))
def i65 : EI := ⟨.struct [(0, 3), (1, 3), (2, 3), (3, 3)], 4, 32, some [.int .i64 0, .int .i64 0, .int .i64 0, .int .i64 0], true⟩
theorem zas : z0n Tryz.prog 65 i65 := ⟨⟨Tryz.t65, by kernel_rfl, rfl, rfl, fun z h => by cases h; exact ⟨_, rfl, rfl, kj rfl, rfl, ⟨_, rfl⟩⟩⟩, ⟨_, Tryz.underlying65, by kernel_rfl, by
  intro f hf
  simp only [List.mem_cons, List.not_mem_nil, or_false] at hf
  rcases hf with rfl | rfl | rfl | rfl
  ·exact ⟨Tryz.t3, by kernel_rfl⟩
  ·exact ⟨Tryz.t3, by kernel_rfl⟩
  ·exact ⟨Tryz.t3, by kernel_rfl⟩
  ·exact ⟨Tryz.t3, by kernel_rfl⟩⟩, fun _ => qa q65 rfl rfl (Nat.le_of_ble_eq_true (by kernel_rfl)) (by decide)⟩
theorem q96 : EqP Tryz.prog 96 (z3n 5 [.int .u8 0]) true 2 := Vw Tryz.underlying96 q5 ⟨_, (by kernel_rfl : Tryz.prog.info? 96 = some Tryz.t96), rfl⟩
def i96 : EI := ⟨.array 5 5, 5, 5, some [.int .u8 0, .int .u8 0, .int .u8 0, .int .u8 0, .int .u8 0], true⟩
theorem zek : z0n Tryz.prog 96 i96 := ⟨⟨Tryz.t96, by kernel_rfl, rfl, rfl, fun z h => by cases h; exact ⟨_, rfl, rfl, kj rfl, rfl, ⟨_, rfl⟩⟩⟩, Tryz.underlying96, fun _ => qa q96 rfl rfl (Nat.le_of_ble_eq_true (by kernel_rfl)) (by decide)⟩
theorem q97 : EqP Tryz.prog 97 (ke [([.int .i64 0], false), ([.int .u8 0], false), ([.int .i64 0], false), ([.int .i64 0], false), ([.int .i64 0], false)]) true 2 := wN Tryz.underlying97 (by kernel_rfl) ⟨_, (by kernel_rfl : Tryz.prog.info? 97 = some Tryz.t97), rfl⟩ (by decide) (zB.cons (by decide) rfl (q3.mono (by decide)) (zB.cons (by decide) rfl (q5.mono (by decide)) (zB.cons (by decide) rfl (q3.mono (by decide)) (zB.cons (by decide) rfl (q3.mono (by decide)) (zB.cons (by decide) rfl (q3.mono (by decide)) (zB.nil))))))
def i97 : EI := ⟨.struct [(0, 3), (1, 5), (2, 3), (3, 3), (4, 3)], 5, 40, some [.int .i64 0, .int .u8 0, .int .i64 0, .int .i64 0, .int .i64 0], true⟩
theorem zej : z0n Tryz.prog 97 i97 := ⟨⟨Tryz.t97, by kernel_rfl, rfl, rfl, fun z h => by cases h; exact ⟨_, rfl, rfl, kj rfl, rfl, ⟨_, rfl⟩⟩⟩, ⟨_, Tryz.underlying97, by kernel_rfl, by
  intro f hf
  simp only [List.mem_cons, List.not_mem_nil, or_false] at hf
  rcases hf with rfl | rfl | rfl | rfl | rfl
  ·exact ⟨Tryz.t3, by kernel_rfl⟩
  ·exact ⟨Tryz.t5, by kernel_rfl⟩
  ·exact ⟨Tryz.t3, by kernel_rfl⟩
  ·exact ⟨Tryz.t3, by kernel_rfl⟩
  ·exact ⟨Tryz.t3, by kernel_rfl⟩⟩, fun _ => qa q97 rfl rfl (Nat.le_of_ble_eq_true (by kernel_rfl)) (by decide)⟩
theorem q98 : EqP Tryz.prog 98 (ke [([.int .i64 0], false), ([.int .u8 0], false), ([.int .i64 0], false), ([.int .i64 0], false), ([.int .i64 0], false)]) true 2 := wN Tryz.underlying98 (by kernel_rfl) ⟨_, (by kernel_rfl : Tryz.prog.info? 98 = some Tryz.t98), rfl⟩ (by decide) (zB.cons (by decide) rfl (q3.mono (by decide)) (zB.cons (by decide) rfl (q5.mono (by decide)) (zB.cons (by decide) rfl (q3.mono (by decide)) (zB.cons (by decide) rfl (q3.mono (by decide)) (zB.cons (by decide) rfl (q3.mono (by decide)) (zB.nil))))))
def i98 : EI := ⟨.struct [(0, 3), (1, 5), (2, 3), (3, 3), (4, 3)], 5, 40, some [.int .i64 0, .int .u8 0, .int .i64 0, .int .i64 0, .int .i64 0], true⟩
theorem zar : z0n Tryz.prog 98 i98 := ⟨⟨Tryz.t98, by kernel_rfl, rfl, rfl, fun z h => by cases h; exact ⟨_, rfl, rfl, kj rfl, rfl, ⟨_, rfl⟩⟩⟩, ⟨_, Tryz.underlying98, by kernel_rfl, by
  intro f hf
  simp only [List.mem_cons, List.not_mem_nil, or_false] at hf
  rcases hf with rfl | rfl | rfl | rfl | rfl
  ·exact ⟨Tryz.t3, by kernel_rfl⟩
  ·exact ⟨Tryz.t5, by kernel_rfl⟩
  ·exact ⟨Tryz.t3, by kernel_rfl⟩
  ·exact ⟨Tryz.t3, by kernel_rfl⟩
  ·exact ⟨Tryz.t3, by kernel_rfl⟩⟩, fun _ => qa q98 rfl rfl (Nat.le_of_ble_eq_true (by kernel_rfl)) (by decide)⟩
theorem q99 : EqP Tryz.prog 99 (ke [([.int .i64 0, .int .i64 0, .int .i64 0, .int .i64 0], true), ([.int .i64 0], false)]) true 3 := wN Tryz.underlying99 (by kernel_rfl) ⟨_, (by kernel_rfl : Tryz.prog.info? 99 = some Tryz.t99), rfl⟩ (by decide) (zB.cons (by decide) rfl (q65.mono (by decide)) (zB.cons (by decide) rfl (q3.mono (by decide)) (zB.nil)))
def i99 : EI := ⟨.struct [(0, 65), (4, 3)], 5, 40, some [.int .i64 0, .int .i64 0, .int .i64 0, .int .i64 0, .int .i64 0], true⟩
theorem zei : z0n Tryz.prog 99 i99 := ⟨⟨Tryz.t99, by kernel_rfl, rfl, rfl, fun z h => by cases h; exact ⟨_, rfl, rfl, kj rfl, rfl, ⟨_, rfl⟩⟩⟩, ⟨_, Tryz.underlying99, by kernel_rfl, by
  intro f hf
  simp only [List.mem_cons, List.not_mem_nil, or_false] at hf
  rcases hf with rfl | rfl
  ·exact ⟨Tryz.t65, by kernel_rfl⟩
  ·exact ⟨Tryz.t3, by kernel_rfl⟩⟩, fun _ => qa q99 rfl rfl (Nat.le_of_ble_eq_true (by kernel_rfl)) (by decide)⟩
theorem zfa : EqP Tryz.prog 100 (ke [([.int .i64 0, .int .i64 0, .int .i64 0, .int .i64 0], true), ([.int .i64 0], false)]) true 3 := wN Tryz.underlying100 (by kernel_rfl) ⟨_, (by kernel_rfl : Tryz.prog.info? 100 = some Tryz.t100), rfl⟩ (by decide) (zB.cons (by decide) rfl (q65.mono (by decide)) (zB.cons (by decide) rfl (q3.mono (by decide)) (zB.nil)))
def zfl : EI := ⟨.struct [(0, 65), (4, 3)], 5, 40, some [.int .i64 0, .int .i64 0, .int .i64 0, .int .i64 0, .int .i64 0], true⟩
theorem z8M : z0n Tryz.prog 100 zfl := ⟨⟨Tryz.t100, by kernel_rfl, rfl, rfl, fun z h => by cases h; exact ⟨_, rfl, rfl, kj rfl, rfl, ⟨_, rfl⟩⟩⟩, ⟨_, Tryz.underlying100, by kernel_rfl, by
  intro f hf
  simp only [List.mem_cons, List.not_mem_nil, or_false] at hf
  rcases hf with rfl | rfl
  ·exact ⟨Tryz.t65, by kernel_rfl⟩
  ·exact ⟨Tryz.t3, by kernel_rfl⟩⟩, fun _ => qa zfa rfl rfl (Nat.le_of_ble_eq_true (by kernel_rfl)) (by decide)⟩
theorem zf9 : EqP Tryz.prog 107 (ke [([.int .i64 0], false), ([.int .i64 0, .int .i64 0, .int .i64 0, .int .i64 0], true)]) true 3 := wN Tryz.underlying107 (by kernel_rfl) ⟨_, (by kernel_rfl : Tryz.prog.info? 107 = some Tryz.t107), rfl⟩ (by decide) (zB.cons (by decide) rfl (q3.mono (by decide)) (zB.cons (by decide) rfl (q65.mono (by decide)) (zB.nil)))
def zfk : EI := ⟨.struct [(0, 3), (1, 65)], 5, 40, some [.int .i64 0, .int .i64 0, .int .i64 0, .int .i64 0, .int .i64 0], true⟩
theorem zcM : z0n Tryz.prog 107 zfk := ⟨⟨Tryz.t107, by kernel_rfl, rfl, rfl, fun z h => by cases h; exact ⟨_, rfl, rfl, kj rfl, rfl, ⟨_, rfl⟩⟩⟩, ⟨_, Tryz.underlying107, by kernel_rfl, by
  intro f hf
  simp only [List.mem_cons, List.not_mem_nil, or_false] at hf
  rcases hf with rfl | rfl
  ·exact ⟨Tryz.t3, by kernel_rfl⟩
  ·exact ⟨Tryz.t65, by kernel_rfl⟩⟩, fun _ => qa zf9 rfl rfl (Nat.le_of_ble_eq_true (by kernel_rfl)) (by decide)⟩
theorem zf8 : EqP Tryz.prog 108 (ke [([.int .i64 0], false), ([.int .i64 0, .int .i64 0, .int .i64 0, .int .i64 0], true)]) true 3 := wN Tryz.underlying108 (by kernel_rfl) ⟨_, (by kernel_rfl : Tryz.prog.info? 108 = some Tryz.t108), rfl⟩ (by decide) (zB.cons (by decide) rfl (q3.mono (by decide)) (zB.cons (by decide) rfl (q65.mono (by decide)) (zB.nil)))
def zfj : EI := ⟨.struct [(0, 3), (1, 65)], 5, 40, some [.int .i64 0, .int .i64 0, .int .i64 0, .int .i64 0, .int .i64 0], true⟩
theorem z8L : z0n Tryz.prog 108 zfj := ⟨⟨Tryz.t108, by kernel_rfl, rfl, rfl, fun z h => by cases h; exact ⟨_, rfl, rfl, kj rfl, rfl, ⟨_, rfl⟩⟩⟩, ⟨_, Tryz.underlying108, by kernel_rfl, by
  intro f hf
  simp only [List.mem_cons, List.not_mem_nil, or_false] at hf
  rcases hf with rfl | rfl
  ·exact ⟨Tryz.t3, by kernel_rfl⟩
  ·exact ⟨Tryz.t65, by kernel_rfl⟩⟩, fun _ => qa zf8 rfl rfl (Nat.le_of_ble_eq_true (by kernel_rfl)) (by decide)⟩
theorem za8 : EqP Tryz.prog 110 (z3n 4 [.int .i64 0]) true 2 := Vw Tryz.underlying110 q3 ⟨_, (by kernel_rfl : Tryz.prog.info? 110 = some Tryz.t110), rfl⟩
def zfi : EI := ⟨.array 4 3, 4, 32, some [.int .i64 0, .int .i64 0, .int .i64 0, .int .i64 0], true⟩
theorem z8K : z0n Tryz.prog 110 zfi := ⟨⟨Tryz.t110, by kernel_rfl, rfl, rfl, fun z h => by cases h; exact ⟨_, rfl, rfl, kj rfl, rfl, ⟨_, rfl⟩⟩⟩, Tryz.underlying110, fun _ => qa za8 rfl rfl (Nat.le_of_ble_eq_true (by kernel_rfl)) (by decide)⟩
theorem zf7 : EqP Tryz.prog 111 (ke [([.int .i64 0], false), ([.int .i64 0, .int .i64 0, .int .i64 0, .int .i64 0], true)]) true 3 := wN Tryz.underlying111 (by kernel_rfl) ⟨_, (by kernel_rfl : Tryz.prog.info? 111 = some Tryz.t111), rfl⟩ (by decide) (zB.cons (by decide) rfl (q3.mono (by decide)) (zB.cons (by decide) rfl (za8.mono (by decide)) (zB.nil)))
def zfh : EI := ⟨.struct [(0, 3), (1, 110)], 5, 40, some [.int .i64 0, .int .i64 0, .int .i64 0, .int .i64 0, .int .i64 0], true⟩
theorem zcL : z0n Tryz.prog 111 zfh := ⟨⟨Tryz.t111, by kernel_rfl, rfl, rfl, fun z h => by cases h; exact ⟨_, rfl, rfl, kj rfl, rfl, ⟨_, rfl⟩⟩⟩, ⟨_, Tryz.underlying111, by kernel_rfl, by
  intro f hf
  simp only [List.mem_cons, List.not_mem_nil, or_false] at hf
  rcases hf with rfl | rfl
  ·exact ⟨Tryz.t3, by kernel_rfl⟩
  ·exact ⟨Tryz.t110, by kernel_rfl⟩⟩, fun _ => qa zf7 rfl rfl (Nat.le_of_ble_eq_true (by kernel_rfl)) (by decide)⟩
theorem zdZ : EqP Tryz.prog 112 (ke [([.int .i64 0], false), ([.int .i64 0, .int .i64 0, .int .i64 0, .int .i64 0], true)]) true 3 := wN Tryz.underlying112 (by kernel_rfl) ⟨_, (by kernel_rfl : Tryz.prog.info? 112 = some Tryz.t112), rfl⟩ (by decide) (zB.cons (by decide) rfl (q3.mono (by decide)) (zB.cons (by decide) rfl (za8.mono (by decide)) (zB.nil)))
def zfg : EI := ⟨.struct [(0, 3), (1, 110)], 5, 40, some [.int .i64 0, .int .i64 0, .int .i64 0, .int .i64 0, .int .i64 0], true⟩
theorem z8J : z0n Tryz.prog 112 zfg := ⟨⟨Tryz.t112, by kernel_rfl, rfl, rfl, fun z h => by cases h; exact ⟨_, rfl, rfl, kj rfl, rfl, ⟨_, rfl⟩⟩⟩, ⟨_, Tryz.underlying112, by kernel_rfl, by
  intro f hf
  simp only [List.mem_cons, List.not_mem_nil, or_false] at hf
  rcases hf with rfl | rfl
  ·exact ⟨Tryz.t3, by kernel_rfl⟩
  ·exact ⟨Tryz.t110, by kernel_rfl⟩⟩, fun _ => qa zdZ rfl rfl (Nat.le_of_ble_eq_true (by kernel_rfl)) (by decide)⟩
theorem zcw : EqP Tryz.prog 113 (z3n 4 [.int .i64 0, .int .i64 0, .int .i64 0, .int .i64 0, .int .i64 0]) true 4 := Vw Tryz.underlying113 zdZ ⟨_, (by kernel_rfl : Tryz.prog.info? 113 = some Tryz.t113), rfl⟩
def zff : EI := ⟨.array 4 112, 20, 160, some [.int .i64 0, .int .i64 0, .int .i64 0, .int .i64 0, .int .i64 0, .int .i64 0, .int .i64 0, .int .i64 0, .int .i64 0, .int .i64 0, .int .i64 0, .int .i64 0, .int .i64 0, .int .i64 0, .int .i64 0, .int .i64 0, .int .i64 0, .int .i64 0, .int .i64 0, .int .i64 0], true⟩
theorem z8I : z0n Tryz.prog 113 zff := ⟨⟨Tryz.t113, by kernel_rfl, rfl, rfl, fun z h => by cases h; exact ⟨_, rfl, rfl, kj rfl, rfl, ⟨_, rfl⟩⟩⟩, Tryz.underlying113, fun _ => qa zcw rfl rfl (Nat.le_of_ble_eq_true (by kernel_rfl)) (by decide)⟩
theorem zf6 : EqP Tryz.prog 114 (ke [([.int .i64 0, .int .i64 0, .int .i64 0, .int .i64 0], true), ([.int .i64 0, .int .i64 0, .int .i64 0, .int .i64 0, .int .i64 0, .int .i64 0, .int .i64 0, .int .i64 0, .int .i64 0, .int .i64 0, .int .i64 0, .int .i64 0, .int .i64 0, .int .i64 0, .int .i64 0, .int .i64 0, .int .i64 0, .int .i64 0, .int .i64 0, .int .i64 0], true)]) true 5 := wN Tryz.underlying114 (by kernel_rfl) ⟨_, (by kernel_rfl : Tryz.prog.info? 114 = some Tryz.t114), rfl⟩ (by decide) (zB.cons (by decide) rfl (za8.mono (by decide)) (zB.cons (by decide) rfl (zcw.mono (by decide)) (zB.nil)))
def zfe : EI := ⟨.struct [(0, 110), (4, 113)], 24, 192, some [.int .i64 0, .int .i64 0, .int .i64 0, .int .i64 0, .int .i64 0, .int .i64 0, .int .i64 0, .int .i64 0, .int .i64 0, .int .i64 0, .int .i64 0, .int .i64 0, .int .i64 0, .int .i64 0, .int .i64 0, .int .i64 0, .int .i64 0, .int .i64 0, .int .i64 0, .int .i64 0, .int .i64 0, .int .i64 0, .int .i64 0, .int .i64 0], true⟩
theorem zcK : z0n Tryz.prog 114 zfe := ⟨⟨Tryz.t114, by kernel_rfl, rfl, rfl, fun z h => by cases h; exact ⟨_, rfl, rfl, kj rfl, rfl, ⟨_, rfl⟩⟩⟩, ⟨_, Tryz.underlying114, by kernel_rfl, by
  intro f hf
  simp only [List.mem_cons, List.not_mem_nil, or_false] at hf
  rcases hf with rfl | rfl
  ·exact ⟨Tryz.t110, by kernel_rfl⟩
  ·exact ⟨Tryz.t113, by kernel_rfl⟩⟩, fun _ => qa zf6 rfl rfl (Nat.le_of_ble_eq_true (by kernel_rfl)) (by decide)⟩
theorem zf5 : EqP Tryz.prog 115 (ke [([.int .i64 0, .int .i64 0, .int .i64 0, .int .i64 0], true), ([.int .i64 0, .int .i64 0, .int .i64 0, .int .i64 0, .int .i64 0, .int .i64 0, .int .i64 0, .int .i64 0, .int .i64 0, .int .i64 0, .int .i64 0, .int .i64 0, .int .i64 0, .int .i64 0, .int .i64 0, .int .i64 0, .int .i64 0, .int .i64 0, .int .i64 0, .int .i64 0], true)]) true 5 := wN Tryz.underlying115 (by kernel_rfl) ⟨_, (by kernel_rfl : Tryz.prog.info? 115 = some Tryz.t115), rfl⟩ (by decide) (zB.cons (by decide) rfl (za8.mono (by decide)) (zB.cons (by decide) rfl (zcw.mono (by decide)) (zB.nil)))
def zfd : EI := ⟨.struct [(0, 110), (4, 113)], 24, 192, some [.int .i64 0, .int .i64 0, .int .i64 0, .int .i64 0, .int .i64 0, .int .i64 0, .int .i64 0, .int .i64 0, .int .i64 0, .int .i64 0, .int .i64 0, .int .i64 0, .int .i64 0, .int .i64 0, .int .i64 0, .int .i64 0, .int .i64 0, .int .i64 0, .int .i64 0, .int .i64 0, .int .i64 0, .int .i64 0, .int .i64 0, .int .i64 0], true⟩
theorem z4w : z0n Tryz.prog 115 zfd := ⟨⟨Tryz.t115, by kernel_rfl, rfl, rfl, fun z h => by cases h; exact ⟨_, rfl, rfl, kj rfl, rfl, ⟨_, rfl⟩⟩⟩, ⟨_, Tryz.underlying115, by kernel_rfl, by
  intro f hf
  simp only [List.mem_cons, List.not_mem_nil, or_false] at hf
  rcases hf with rfl | rfl
  ·exact ⟨Tryz.t110, by kernel_rfl⟩
  ·exact ⟨Tryz.t113, by kernel_rfl⟩⟩, fun _ => qa zf5 rfl rfl (Nat.le_of_ble_eq_true (by kernel_rfl)) (by decide)⟩
end Go.Ex

namespace Go.Own
open Go.Proofs
def zcF : Value → Bool
 | .int _ _ => true
 | _ => false
theorem z1j : ∀ {z vs us : List Value} {r : Bool}, z.all zcF = true → z.length = vs.length → xO vs us = some r → Go.Ex.z0k z vs = true ∧ Go.Ex.xO vs us = some r
 | [], [], us, r, _, _, h => by
  cases us with
  | nil => simp only [xO, Option.some.injEq] at h; subst h; exact ⟨rfl, rfl⟩
  | cons u us => simp [xO] at h
 | a :: z, v :: vs, us, r, hz, hl, h => by
  have q : ∃ k x u' k' y, v = .int k x ∧ us = .int k' y :: u' ∧ k = k' := by
   cases us with
   | nil => cases v <;> simp [xO] at h
   | cons u us =>
    cases v <;> cases u <;> simp [xO] at h
    exact ⟨_, _, _, _, _, rfl, rfl, h.1⟩
  obtain ⟨k, x, u', k', y, rfl, rfl, hk⟩ := q
  simp only [xO, hk, if_true, Option.map_eq_some_iff] at h
  obtain ⟨r', e1, rfl⟩ := h
  simp only [List.all_cons, Bool.and_eq_true] at hz
  obtain ⟨q1, q2⟩ := z1j hz.2 (by simpa using hl) e1
  refine ⟨?_, by simp [Go.Ex.xO, hk, q2]⟩
  cases a <;> first | (simp [zcF] at hz; done) | simpa [Go.Ex.z0k] using q1
 | [], _ :: _, _, _, _, hl, _ => by simp at hl
 | _ :: _, [], _, _, _, hl, _ => by simp at hl
theorem Xf {P : Program} {t n : Nat} {i : Go.Ex.EI} (h : Go.Ex.z7E P t i) {z : List Value} (hz : i.zero = some z) (hi : z.all zcF = true) (hs : i.size = n) (hn : z.length = n) : z7E P t n := {
 guard := h.guard
 run := fun vs us r w hv hu he => by
  obtain ⟨q1, q2⟩ := z1j hi (by rw [hn, hv]) he
  exact h.run vs us r w (by rw [hs]; exact hv) (by rw [hs]; exact hu) (by simpa only [Go.Ex.zcO, hz] using q1) q2 }
theorem zn {S : zq} {h : Array Obj} {v : Value} (hv : v.oneCell' = true) : zP S h (.atom v) [v] [] := by simp only [zP, Rep]; exact ⟨⟨trivial, hv⟩, trivial⟩
theorem wk {S : zq} {h : Array Obj} (sz : Nat) : zP S h (.osl sz true []) [.slice none 0 0] [] := by
 simp only [zP]
 exact ⟨none, 0, rfl, (fun _ => rfl), Nat.le_refl _, Nat.zero_le _, by simp, .inl ⟨trivial, rfl, rfl, trivial⟩⟩
theorem yl {S : zq} {h : Array Obj} {fs : List A} {cs : List Value} (q : y3 S h fs cs []) : zP S h (.agg fs) cs [] := by simpa only [zP] using q
theorem y4 {S : zq} {h : Array Obj} : y3 S h [] [] [] := by simp [y3]
theorem zj {S : zq} {h : Array Obj} {a : A} {fs : List A} {c1 c2 : List Value} (q1 : zP S h a c1 []) (q2 : y3 S h fs c2 []) : y3 S h (a :: fs) (c1 ++ c2) [] := by simp only [y3]; exact ⟨c1, c2, [], [], rfl, rfl, q1, q2⟩
def ti1 : TI := ⟨.other, 1, 8, some (.atom .nilFunc), false⟩
theorem z9D : kZ Tryz.prog 1 ti1 := ⟨⟨Tryz.t1, by kernel_rfl, rfl, rfl, fun z h => by cases h; exact ⟨_, rfl, rfl, fun S h => zn rfl⟩⟩, ⟨_, Tryz.underlying1, rfl⟩, by intro h; cases h⟩
def ti2 : TI := ⟨.int .i64, 1, 8, some (.atom (.int .i64 0)), false⟩
theorem z9C : kZ Tryz.prog 2 ti2 := ⟨⟨Tryz.t2, by kernel_rfl, rfl, rfl, fun z h => by cases h; exact ⟨_, rfl, rfl, fun S h => zn rfl⟩⟩, Tryz.underlying2, by intro h; cases h⟩
def ti3 : TI := ⟨.int .i64, 1, 8, some (.atom (.int .i64 0)), false⟩
theorem z9B : kZ Tryz.prog 3 ti3 := ⟨⟨Tryz.t3, by kernel_rfl, rfl, rfl, fun z h => by cases h; exact ⟨_, rfl, rfl, fun S h => zn rfl⟩⟩, Tryz.underlying3, by intro h; cases h⟩
def ti4 : TI := ⟨.bool, 1, 1, some (.atom (.bool false)), false⟩
theorem z9A : kZ Tryz.prog 4 ti4 := ⟨⟨Tryz.t4, by kernel_rfl, rfl, rfl, fun z h => by cases h; exact ⟨_, rfl, rfl, fun S h => zn rfl⟩⟩, Tryz.underlying4, by intro h; cases h⟩
def ti5 : TI := ⟨.int .u8, 1, 1, some (.atom (.int .u8 0)), false⟩
theorem z9z : kZ Tryz.prog 5 ti5 := ⟨⟨Tryz.t5, by kernel_rfl, rfl, rfl, fun z h => by cases h; exact ⟨_, rfl, rfl, fun S h => zn rfl⟩⟩, Tryz.underlying5, by intro h; cases h⟩
def zdW : TI := ⟨.slice 3, 1, 24, some (.osl 1 true []), false⟩
theorem z83 : kZ Tryz.prog 26 zdW := ⟨⟨Tryz.t26, by kernel_rfl, rfl, rfl, fun z h => by cases h; exact ⟨_, rfl, rfl, fun S h => wk _⟩⟩, Tryz.underlying26, by intro h; cases h⟩
def zdV : TI := ⟨.slice 87, 1, 24, some (.osl 3 true []), false⟩
theorem z82 : kZ Tryz.prog 27 zdV := ⟨⟨Tryz.t27, by kernel_rfl, rfl, rfl, fun z h => by cases h; exact ⟨_, rfl, rfl, fun S h => wk _⟩⟩, Tryz.underlying27, by intro h; cases h⟩
def zdU : TI := ⟨.struct [(0, 1), (1, 1), (2, 1), (3, 1)], 4, 64, some (.agg [.atom (.int .i64 0), .atom (.int .i64 0), .osl 1 true [], .osl 3 true []]), false⟩
theorem z81 : kZ Tryz.prog 29 zdU := ⟨⟨Tryz.t29, by kernel_rfl, rfl, rfl, fun z h => by cases h; exact ⟨_, rfl, rfl, fun S h => yl (zj (zn rfl) (zj (zn rfl) (zj (wk _) (zj (wk _) (y4)))))⟩⟩, ⟨_, Tryz.underlying29, by kernel_rfl, by
  intro f hf
  simp only [List.mem_cons, List.not_mem_nil, or_false] at hf
  rcases hf with rfl | rfl | rfl | rfl
  ·exact ⟨Tryz.t3, by kernel_rfl⟩
  ·exact ⟨Tryz.t3, by kernel_rfl⟩
  ·exact ⟨Tryz.t26, by kernel_rfl⟩
  ·exact ⟨Tryz.t27, by kernel_rfl⟩⟩, by intro h; cases h⟩
def zdT : TI := ⟨.slice 39, 1, 24, some (.osl 2 true []), false⟩
theorem z80 : kZ Tryz.prog 31 zdT := ⟨⟨Tryz.t31, by kernel_rfl, rfl, rfl, fun z h => by cases h; exact ⟨_, rfl, rfl, fun S h => wk _⟩⟩, Tryz.underlying31, by intro h; cases h⟩
def zdS : TI := ⟨.slice 45, 1, 24, some (.osl 1 true []), false⟩
theorem z7Z : kZ Tryz.prog 32 zdS := ⟨⟨Tryz.t32, by kernel_rfl, rfl, rfl, fun z h => by cases h; exact ⟨_, rfl, rfl, fun S h => wk _⟩⟩, Tryz.underlying32, by intro h; cases h⟩
def zdR : TI := ⟨.slice 65, 1, 24, some (.osl 4 true []), false⟩
theorem z7Y : kZ Tryz.prog 36 zdR := ⟨⟨Tryz.t36, by kernel_rfl, rfl, rfl, fun z h => by cases h; exact ⟨_, rfl, rfl, fun S h => wk _⟩⟩, Tryz.underlying36, by intro h; cases h⟩
def zdQ : TI := ⟨.slice 26, 1, 24, some (.osl 1 true []), false⟩
theorem z7X : kZ Tryz.prog 37 zdQ := ⟨⟨Tryz.t37, by kernel_rfl, rfl, rfl, fun z h => by cases h; exact ⟨_, rfl, rfl, fun S h => wk _⟩⟩, Tryz.underlying37, by intro h; cases h⟩
def zdP : TI := ⟨.struct [(0, 1), (1, 1)], 2, 48, some (.agg [.osl 1 true [], .osl 1 true []]), false⟩
theorem z7W : kZ Tryz.prog 39 zdP := ⟨⟨Tryz.t39, by kernel_rfl, rfl, rfl, fun z h => by cases h; exact ⟨_, rfl, rfl, fun S h => yl (zj (wk _) (zj (wk _) (y4)))⟩⟩, ⟨_, Tryz.underlying39, by kernel_rfl, by
  intro f hf
  simp only [List.mem_cons, List.not_mem_nil, or_false] at hf
  rcases hf with rfl | rfl
  ·exact ⟨Tryz.t26, by kernel_rfl⟩
  ·exact ⟨Tryz.t37, by kernel_rfl⟩⟩, by intro h; cases h⟩
def zdO : TI := ⟨.int .i64, 1, 8, some (.atom (.int .i64 0)), false⟩
theorem z7V : kZ Tryz.prog 40 zdO := ⟨⟨Tryz.t40, by kernel_rfl, rfl, rfl, fun z h => by cases h; exact ⟨_, rfl, rfl, fun S h => zn rfl⟩⟩, Tryz.underlying40, by intro h; cases h⟩
def zdN : TI := ⟨.slice 100, 1, 24, some (.osl 5 true []), false⟩
theorem z7U : kZ Tryz.prog 45 zdN := ⟨⟨Tryz.t45, by kernel_rfl, rfl, rfl, fun z h => by cases h; exact ⟨_, rfl, rfl, fun S h => wk _⟩⟩, Tryz.underlying45, by intro h; cases h⟩
def zdM : TI := ⟨.int .u64, 1, 8, some (.atom (.int .u64 0)), false⟩
theorem z7T : kZ Tryz.prog 50 zdM := ⟨⟨Tryz.t50, by kernel_rfl, rfl, rfl, fun z h => by cases h; exact ⟨_, rfl, rfl, fun S h => zn rfl⟩⟩, Tryz.underlying50, by intro h; cases h⟩
def zdL : TI := ⟨.slice 59, 1, 24, some (.osl 1 true []), false⟩
theorem z7S : kZ Tryz.prog 51 zdL := ⟨⟨Tryz.t51, by kernel_rfl, rfl, rfl, fun z h => by cases h; exact ⟨_, rfl, rfl, fun S h => wk _⟩⟩, Tryz.underlying51, by intro h; cases h⟩
def zdK : TI := ⟨.struct [(0, 1), (1, 1), (2, 1)], 3, 40, some (.agg [.atom (.int .i64 0), .atom (.int .i64 0), .osl 1 true []]), false⟩
theorem z7R : kZ Tryz.prog 53 zdK := ⟨⟨Tryz.t53, by kernel_rfl, rfl, rfl, fun z h => by cases h; exact ⟨_, rfl, rfl, fun S h => yl (zj (zn rfl) (zj (zn rfl) (zj (wk _) (y4))))⟩⟩, ⟨_, Tryz.underlying53, by kernel_rfl, by
  intro f hf
  simp only [List.mem_cons, List.not_mem_nil, or_false] at hf
  rcases hf with rfl | rfl | rfl
  ·exact ⟨Tryz.t3, by kernel_rfl⟩
  ·exact ⟨Tryz.t3, by kernel_rfl⟩
  ·exact ⟨Tryz.t51, by kernel_rfl⟩⟩, by intro h; cases h⟩
def zdJ : TI := ⟨.slice 61, 1, 24, some (.osl 3 true []), false⟩
theorem z7Q : kZ Tryz.prog 59 zdJ := ⟨⟨Tryz.t59, by kernel_rfl, rfl, rfl, fun z h => by cases h; exact ⟨_, rfl, rfl, fun S h => wk _⟩⟩, Tryz.underlying59, by intro h; cases h⟩
def zdI : TI := ⟨.struct [(0, 1), (1, 1), (2, 1)], 3, 24, some (.agg [.atom (.int .u8 0), .atom (.int .i64 0), .atom (.int .i64 0)]), true⟩
theorem z7P : kZ Tryz.prog 61 zdI := ⟨⟨Tryz.t61, by kernel_rfl, rfl, rfl, fun z h => by cases h; exact ⟨_, rfl, rfl, fun S h => yl (zj (zn rfl) (zj (zn rfl) (zj (zn rfl) (y4))))⟩⟩, ⟨_, Tryz.underlying61, by kernel_rfl, by
  intro f hf
  simp only [List.mem_cons, List.not_mem_nil, or_false] at hf
  rcases hf with rfl | rfl | rfl
  ·exact ⟨Tryz.t5, by kernel_rfl⟩
  ·exact ⟨Tryz.t3, by kernel_rfl⟩
  ·exact ⟨Tryz.t3, by kernel_rfl⟩⟩, fun _ => Xf (Go.Ex.zat.eqn rfl) rfl rfl rfl rfl⟩
def zdH : TI := ⟨.struct [(0, 1), (1, 1), (2, 1), (3, 1)], 4, 32, some (.agg [.atom (.int .i64 0), .atom (.int .i64 0), .atom (.int .i64 0), .atom (.int .i64 0)]), true⟩
theorem z7O : kZ Tryz.prog 65 zdH := ⟨⟨Tryz.t65, by kernel_rfl, rfl, rfl, fun z h => by cases h; exact ⟨_, rfl, rfl, fun S h => yl (zj (zn rfl) (zj (zn rfl) (zj (zn rfl) (zj (zn rfl) (y4)))))⟩⟩, ⟨_, Tryz.underlying65, by kernel_rfl, by
  intro f hf
  simp only [List.mem_cons, List.not_mem_nil, or_false] at hf
  rcases hf with rfl | rfl | rfl | rfl
  ·exact ⟨Tryz.t3, by kernel_rfl⟩
  ·exact ⟨Tryz.t3, by kernel_rfl⟩
  ·exact ⟨Tryz.t3, by kernel_rfl⟩
  ·exact ⟨Tryz.t3, by kernel_rfl⟩⟩, fun _ => Xf (Go.Ex.zas.eqn rfl) rfl rfl rfl rfl⟩
def zdG : TI := ⟨.slice 73, 1, 24, some (.osl 6 true []), false⟩
theorem z7N : kZ Tryz.prog 68 zdG := ⟨⟨Tryz.t68, by kernel_rfl, rfl, rfl, fun z h => by cases h; exact ⟨_, rfl, rfl, fun S h => wk _⟩⟩, Tryz.underlying68, by intro h; cases h⟩
def zdF : TI := ⟨.struct [(0, 4), (4, 2)], 6, 80, some (.agg [.agg [.atom (.int .i64 0), .atom (.int .i64 0), .atom (.int .i64 0), .atom (.int .i64 0)], .agg [.osl 1 true [], .osl 1 true []]]), false⟩
theorem z7M : kZ Tryz.prog 73 zdF := ⟨⟨Tryz.t73, by kernel_rfl, rfl, rfl, fun z h => by cases h; exact ⟨_, rfl, rfl, fun S h => yl (zj (yl (zj (zn rfl) (zj (zn rfl) (zj (zn rfl) (zj (zn rfl) (y4)))))) (zj (yl (zj (wk _) (zj (wk _) (y4)))) (y4)))⟩⟩, ⟨_, Tryz.underlying73, by kernel_rfl, by
  intro f hf
  simp only [List.mem_cons, List.not_mem_nil, or_false] at hf
  rcases hf with rfl | rfl
  ·exact ⟨Tryz.t65, by kernel_rfl⟩
  ·exact ⟨Tryz.t39, by kernel_rfl⟩⟩, by intro h; cases h⟩
def zdE : TI := ⟨.other, 1, 8, some (.atom .nilFunc), false⟩
theorem z7L : kZ Tryz.prog 82 zdE := ⟨⟨Tryz.t82, by kernel_rfl, rfl, rfl, fun z h => by cases h; exact ⟨_, rfl, rfl, fun S h => zn rfl⟩⟩, ⟨_, Tryz.underlying82, rfl⟩, by intro h; cases h⟩
def zdD : TI := ⟨.slice 98, 1, 24, some (.osl 5 true []), false⟩
theorem z7K : kZ Tryz.prog 85 zdD := ⟨⟨Tryz.t85, by kernel_rfl, rfl, rfl, fun z h => by cases h; exact ⟨_, rfl, rfl, fun S h => wk _⟩⟩, Tryz.underlying85, by intro h; cases h⟩
def zdC : TI := ⟨.struct [(0, 1), (1, 1), (2, 1)], 3, 56, some (.agg [.atom (.int .i64 0), .osl 5 true [], .osl 1 true []]), false⟩
theorem z7J : kZ Tryz.prog 87 zdC := ⟨⟨Tryz.t87, by kernel_rfl, rfl, rfl, fun z h => by cases h; exact ⟨_, rfl, rfl, fun S h => yl (zj (zn rfl) (zj (wk _) (zj (wk _) (y4))))⟩⟩, ⟨_, Tryz.underlying87, by kernel_rfl, by
  intro f hf
  simp only [List.mem_cons, List.not_mem_nil, or_false] at hf
  rcases hf with rfl | rfl | rfl
  ·exact ⟨Tryz.t3, by kernel_rfl⟩
  ·exact ⟨Tryz.t85, by kernel_rfl⟩
  ·exact ⟨Tryz.t26, by kernel_rfl⟩⟩, by intro h; cases h⟩
def zdB : TI := ⟨.struct [(0, 1), (1, 1), (2, 1), (3, 1), (4, 1)], 5, 40, some (.agg [.atom (.int .i64 0), .atom (.int .u8 0), .atom (.int .i64 0), .atom (.int .i64 0), .atom (.int .i64 0)]), true⟩
theorem z7I : kZ Tryz.prog 98 zdB := ⟨⟨Tryz.t98, by kernel_rfl, rfl, rfl, fun z h => by cases h; exact ⟨_, rfl, rfl, fun S h => yl (zj (zn rfl) (zj (zn rfl) (zj (zn rfl) (zj (zn rfl) (zj (zn rfl) (y4))))))⟩⟩, ⟨_, Tryz.underlying98, by kernel_rfl, by
  intro f hf
  simp only [List.mem_cons, List.not_mem_nil, or_false] at hf
  rcases hf with rfl | rfl | rfl | rfl | rfl
  ·exact ⟨Tryz.t3, by kernel_rfl⟩
  ·exact ⟨Tryz.t5, by kernel_rfl⟩
  ·exact ⟨Tryz.t3, by kernel_rfl⟩
  ·exact ⟨Tryz.t3, by kernel_rfl⟩
  ·exact ⟨Tryz.t3, by kernel_rfl⟩⟩, fun _ => Xf (Go.Ex.zar.eqn rfl) rfl rfl rfl rfl⟩
def z9W : TI := ⟨.struct [(0, 4), (4, 1)], 5, 40, some (.agg [.agg [.atom (.int .i64 0), .atom (.int .i64 0), .atom (.int .i64 0), .atom (.int .i64 0)], .atom (.int .i64 0)]), true⟩
theorem z5J : kZ Tryz.prog 100 z9W := ⟨⟨Tryz.t100, by kernel_rfl, rfl, rfl, fun z h => by cases h; exact ⟨_, rfl, rfl, fun S h => yl (zj (yl (zj (zn rfl) (zj (zn rfl) (zj (zn rfl) (zj (zn rfl) (y4)))))) (zj (zn rfl) (y4)))⟩⟩, ⟨_, Tryz.underlying100, by kernel_rfl, by
  intro f hf
  simp only [List.mem_cons, List.not_mem_nil, or_false] at hf
  rcases hf with rfl | rfl
  ·exact ⟨Tryz.t65, by kernel_rfl⟩
  ·exact ⟨Tryz.t3, by kernel_rfl⟩⟩, fun _ => Xf (Go.Ex.z8M.eqn rfl) rfl rfl rfl rfl⟩
def z9V : TI := ⟨.slice 115, 1, 24, some (.osl 24 true []), false⟩
theorem z5I : kZ Tryz.prog 103 z9V := ⟨⟨Tryz.t103, by kernel_rfl, rfl, rfl, fun z h => by cases h; exact ⟨_, rfl, rfl, fun S h => wk _⟩⟩, Tryz.underlying103, by intro h; cases h⟩
def z9U : TI := ⟨.slice 108, 1, 24, some (.osl 5 true []), false⟩
theorem z5H : kZ Tryz.prog 106 z9U := ⟨⟨Tryz.t106, by kernel_rfl, rfl, rfl, fun z h => by cases h; exact ⟨_, rfl, rfl, fun S h => wk _⟩⟩, Tryz.underlying106, by intro h; cases h⟩
def z9T : TI := ⟨.struct [(0, 1), (1, 4)], 5, 40, some (.agg [.atom (.int .i64 0), .agg [.atom (.int .i64 0), .atom (.int .i64 0), .atom (.int .i64 0), .atom (.int .i64 0)]]), true⟩
theorem z5G : kZ Tryz.prog 108 z9T := ⟨⟨Tryz.t108, by kernel_rfl, rfl, rfl, fun z h => by cases h; exact ⟨_, rfl, rfl, fun S h => yl (zj (zn rfl) (zj (yl (zj (zn rfl) (zj (zn rfl) (zj (zn rfl) (zj (zn rfl) (y4)))))) (y4)))⟩⟩, ⟨_, Tryz.underlying108, by kernel_rfl, by
  intro f hf
  simp only [List.mem_cons, List.not_mem_nil, or_false] at hf
  rcases hf with rfl | rfl
  ·exact ⟨Tryz.t3, by kernel_rfl⟩
  ·exact ⟨Tryz.t65, by kernel_rfl⟩⟩, fun _ => Xf (Go.Ex.z8L.eqn rfl) rfl rfl rfl rfl⟩
def z9S : TI := ⟨.array 4 3, 4, 32, some (.agg [.atom (.int .i64 0), .atom (.int .i64 0), .atom (.int .i64 0), .atom (.int .i64 0)]), true⟩
theorem z5F : kZ Tryz.prog 110 z9S := ⟨⟨Tryz.t110, by kernel_rfl, rfl, rfl, fun z h => by cases h; exact ⟨_, rfl, rfl, fun S h => yl (zj (zn rfl) (zj (zn rfl) (zj (zn rfl) (zj (zn rfl) (y4)))))⟩⟩, Tryz.underlying110, fun _ => Xf (Go.Ex.z8K.eqn rfl) rfl rfl rfl rfl⟩
def z9R : TI := ⟨.struct [(0, 1), (1, 4)], 5, 40, some (.agg [.atom (.int .i64 0), .agg [.atom (.int .i64 0), .atom (.int .i64 0), .atom (.int .i64 0), .atom (.int .i64 0)]]), true⟩
theorem z5E : kZ Tryz.prog 112 z9R := ⟨⟨Tryz.t112, by kernel_rfl, rfl, rfl, fun z h => by cases h; exact ⟨_, rfl, rfl, fun S h => yl (zj (zn rfl) (zj (yl (zj (zn rfl) (zj (zn rfl) (zj (zn rfl) (zj (zn rfl) (y4)))))) (y4)))⟩⟩, ⟨_, Tryz.underlying112, by kernel_rfl, by
  intro f hf
  simp only [List.mem_cons, List.not_mem_nil, or_false] at hf
  rcases hf with rfl | rfl
  ·exact ⟨Tryz.t3, by kernel_rfl⟩
  ·exact ⟨Tryz.t110, by kernel_rfl⟩⟩, fun _ => Xf (Go.Ex.z8J.eqn rfl) rfl rfl rfl rfl⟩
def z9Q : TI := ⟨.array 4 112, 20, 160, some (.agg [.agg [.atom (.int .i64 0), .agg [.atom (.int .i64 0), .atom (.int .i64 0), .atom (.int .i64 0), .atom (.int .i64 0)]], .agg [.atom (.int .i64 0), .agg [.atom (.int .i64 0), .atom (.int .i64 0), .atom (.int .i64 0), .atom (.int .i64 0)]], .agg [.atom (.int .i64 0), .agg [.atom (.int .i64 0), .atom (.int .i64 0), .atom (.int .i64 0), .atom (.int .i64 0)]], .agg [.atom (.int .i64 0), .agg [.atom (.int .i64 0), .atom (.int .i64 0), .atom (.int .i64 0), .atom (.int .i64 0)]]]), true⟩
theorem z5D : kZ Tryz.prog 113 z9Q := ⟨⟨Tryz.t113, by kernel_rfl, rfl, rfl, fun z h => by cases h; exact ⟨_, rfl, rfl, fun S h => yl (zj (yl (zj (zn rfl) (zj (yl (zj (zn rfl) (zj (zn rfl) (zj (zn rfl) (zj (zn rfl) (y4)))))) (y4)))) (zj (yl (zj (zn rfl) (zj (yl (zj (zn rfl) (zj (zn rfl) (zj (zn rfl) (zj (zn rfl) (y4)))))) (y4)))) (zj (yl (zj (zn rfl) (zj (yl (zj (zn rfl) (zj (zn rfl) (zj (zn rfl) (zj (zn rfl) (y4)))))) (y4)))) (zj (yl (zj (zn rfl) (zj (yl (zj (zn rfl) (zj (zn rfl) (zj (zn rfl) (zj (zn rfl) (y4)))))) (y4)))) (y4)))))⟩⟩, Tryz.underlying113, fun _ => Xf (Go.Ex.z8I.eqn rfl) rfl rfl rfl rfl⟩
def z9P : TI := ⟨.struct [(0, 4), (4, 20)], 24, 192, some (.agg [.agg [.atom (.int .i64 0), .atom (.int .i64 0), .atom (.int .i64 0), .atom (.int .i64 0)], .agg [.agg [.atom (.int .i64 0), .agg [.atom (.int .i64 0), .atom (.int .i64 0), .atom (.int .i64 0), .atom (.int .i64 0)]], .agg [.atom (.int .i64 0), .agg [.atom (.int .i64 0), .atom (.int .i64 0), .atom (.int .i64 0), .atom (.int .i64 0)]], .agg [.atom (.int .i64 0), .agg [.atom (.int .i64 0), .atom (.int .i64 0), .atom (.int .i64 0), .atom (.int .i64 0)]], .agg [.atom (.int .i64 0), .agg [.atom (.int .i64 0), .atom (.int .i64 0), .atom (.int .i64 0), .atom (.int .i64 0)]]]]), true⟩
theorem z2k : kZ Tryz.prog 115 z9P := ⟨⟨Tryz.t115, by kernel_rfl, rfl, rfl, fun z h => by cases h; exact ⟨_, rfl, rfl, fun S h => yl (zj (yl (zj (zn rfl) (zj (zn rfl) (zj (zn rfl) (zj (zn rfl) (y4)))))) (zj (yl (zj (yl (zj (zn rfl) (zj (yl (zj (zn rfl) (zj (zn rfl) (zj (zn rfl) (zj (zn rfl) (y4)))))) (y4)))) (zj (yl (zj (zn rfl) (zj (yl (zj (zn rfl) (zj (zn rfl) (zj (zn rfl) (zj (zn rfl) (y4)))))) (y4)))) (zj (yl (zj (zn rfl) (zj (yl (zj (zn rfl) (zj (zn rfl) (zj (zn rfl) (zj (zn rfl) (y4)))))) (y4)))) (zj (yl (zj (zn rfl) (zj (yl (zj (zn rfl) (zj (zn rfl) (zj (zn rfl) (zj (zn rfl) (y4)))))) (y4)))) (y4)))))) (y4)))⟩⟩, ⟨_, Tryz.underlying115, by kernel_rfl, by
  intro f hf
  simp only [List.mem_cons, List.not_mem_nil, or_false] at hf
  rcases hf with rfl | rfl
  ·exact ⟨Tryz.t110, by kernel_rfl⟩
  ·exact ⟨Tryz.t113, by kernel_rfl⟩⟩, fun _ => Xf (Go.Ex.z4w.eqn rfl) rfl rfl rfl rfl⟩
def z9O : TI := ⟨.other, 1, 8, some (.atom .nilFunc), false⟩
theorem z5C : kZ Tryz.prog 129 z9O := ⟨⟨Tryz.t129, by kernel_rfl, rfl, rfl, fun z h => by cases h; exact ⟨_, rfl, rfl, fun S h => zn rfl⟩⟩, ⟨_, Tryz.underlying129, rfl⟩, by intro h; cases h⟩
def z9N : TI := ⟨.other, 1, 8, some (.atom .nilFunc), false⟩
theorem z5B : kZ Tryz.prog 130 z9N := ⟨⟨Tryz.t130, by kernel_rfl, rfl, rfl, fun z h => by cases h; exact ⟨_, rfl, rfl, fun S h => zn rfl⟩⟩, ⟨_, Tryz.underlying130, rfl⟩, by intro h; cases h⟩
def z9M : TI := ⟨.other, 1, 8, some (.atom .nilFunc), false⟩
theorem z5A : kZ Tryz.prog 136 z9M := ⟨⟨Tryz.t136, by kernel_rfl, rfl, rfl, fun z h => by cases h; exact ⟨_, rfl, rfl, fun S h => zn rfl⟩⟩, ⟨_, Tryz.underlying136, rfl⟩, by intro h; cases h⟩
def z9L : TI := ⟨.other, 1, 8, some (.atom .nilFunc), false⟩
theorem z5z : kZ Tryz.prog 139 z9L := ⟨⟨Tryz.t139, by kernel_rfl, rfl, rfl, fun z h => by cases h; exact ⟨_, rfl, rfl, fun S h => zn rfl⟩⟩, ⟨_, Tryz.underlying139, rfl⟩, by intro h; cases h⟩
def z9K : TI := ⟨.other, 1, 8, some (.atom (.map none)), false⟩
theorem z5y : kZ Tryz.prog 142 z9K := ⟨⟨Tryz.t142, by kernel_rfl, rfl, rfl, fun z h => by cases h; exact ⟨_, rfl, rfl, fun S h => zn rfl⟩⟩, ⟨_, Tryz.underlying142, rfl⟩, by intro h; cases h⟩
def z9J : TI := ⟨.other, 1, 8, some (.atom .nilFunc), false⟩
theorem z5x : kZ Tryz.prog 149 z9J := ⟨⟨Tryz.t149, by kernel_rfl, rfl, rfl, fun z h => by cases h; exact ⟨_, rfl, rfl, fun S h => zn rfl⟩⟩, ⟨_, Tryz.underlying149, rfl⟩, by intro h; cases h⟩
def z9I : TI := ⟨.other, 1, 8, some (.atom .nilFunc), false⟩
theorem z5w : kZ Tryz.prog 150 z9I := ⟨⟨Tryz.t150, by kernel_rfl, rfl, rfl, fun z h => by cases h; exact ⟨_, rfl, rfl, fun S h => zn rfl⟩⟩, ⟨_, Tryz.underlying150, rfl⟩, by intro h; cases h⟩
def z9H : TI := ⟨.other, 1, 8, some (.atom .nilFunc), false⟩
theorem z5v : kZ Tryz.prog 151 z9H := ⟨⟨Tryz.t151, by kernel_rfl, rfl, rfl, fun z h => by cases h; exact ⟨_, rfl, rfl, fun S h => zn rfl⟩⟩, ⟨_, Tryz.underlying151, rfl⟩, by intro h; cases h⟩
def z9G : TI := ⟨.other, 1, 16, some (.atom .nilIface), false⟩
theorem z5u : kZ Tryz.prog 154 z9G := ⟨⟨Tryz.t154, by kernel_rfl, rfl, rfl, fun z h => by cases h; exact ⟨_, rfl, rfl, fun S h => zn rfl⟩⟩, ⟨_, Tryz.underlying154, rfl⟩, by intro h; cases h⟩
def z9F : TI := ⟨.other, 1, 8, some (.atom .nilFunc), false⟩
theorem z5t : kZ Tryz.prog 160 z9F := ⟨⟨Tryz.t160, by kernel_rfl, rfl, rfl, fun z h => by cases h; exact ⟨_, rfl, rfl, fun S h => zn rfl⟩⟩, ⟨_, Tryz.underlying160, rfl⟩, by intro h; cases h⟩
def z9E : TI := ⟨.other, 1, 8, some (.atom .nilFunc), false⟩
theorem z5s : kZ Tryz.prog 174 z9E := ⟨⟨Tryz.t174, by kernel_rfl, rfl, rfl, fun z h => by cases h; exact ⟨_, rfl, rfl, fun S h => zn rfl⟩⟩, ⟨_, Tryz.underlying174, rfl⟩, by intro h; cases h⟩
def tiL : List (Nat × TI) := [(1, ti1), (2, ti2), (3, ti3), (4, ti4), (5, ti5), (26, zdW), (27, zdV), (29, zdU), (31, zdT), (32, zdS), (36, zdR), (37, zdQ), (39, zdP), (40, zdO), (45, zdN), (50, zdM), (51, zdL), (53, zdK), (59, zdJ), (61, zdI), (65, zdH), (68, zdG), (73, zdF), (82, zdE), (85, zdD), (87, zdC), (98, zdB), (100, z9W), (103, z9V), (106, z9U), (108, z9T), (110, z9S), (112, z9R), (113, z9Q), (115, z9P), (129, z9O), (130, z9N), (136, z9M), (139, z9L), (142, z9K), (149, z9J), (150, z9I), (151, z9H), (154, z9G), (160, z9F), (174, z9E)]
def wB : TT := fun t => (tiL.find? fun p => p.1 == t).map (·.2)
def z5g (P : Program) : List (Nat × TI) → Prop
 | [] => True
 | p :: l => kZ P p.1 p.2 ∧ z5g P l
theorem z5g.mem {P : Program} : ∀ {l : List (Nat × TI)}, z5g P l → ∀ p ∈ l, kZ P p.1 p.2
 | p :: _, h, q, hq => by
  rcases List.mem_cons.1 hq with rfl | hq
  ·exact h.1
  ·exact z5g.mem h.2 q hq
 | [], _, _, hq => by cases hq
theorem z9y : z5g Tryz.prog tiL := ⟨z9D, z9C, z9B, z9A, z9z, z83, z82, z81, z80, z7Z, z7Y, z7X, z7W, z7V, z7U, z7T, z7S, z7R, z7Q, z7P, z7O, z7N, z7M, z7L, z7K, z7J, z7I, z5J, z5I, z5H, z5G, z5F, z5E, z5D, z2k, z5C, z5B, z5A, z5z, z5y, z5x, z5w, z5v, z5u, z5t, z5s, trivial⟩
theorem zS : wZ Tryz.prog wB := by
 intro t i h
 unfold wB at h
 rw [Option.map_eq_some_iff] at h
 obtain ⟨p, h1, rfl⟩ := h
 have h2 := List.find?_some h1
 have h3 := z9y.mem p (List.mem_of_find?_eq_some h1)
 rw [beq_iff_eq.1 h2] at h3
 exact h3
theorem zft : wB 1 = some ⟨.other, 1, 8, some (.atom .nilFunc), false⟩ := rfl
theorem zfs : wB 2 = some ⟨.int .i64, 1, 8, some (.atom (.int .i64 0)), false⟩ := rfl
theorem zfr : wB 3 = some ⟨.int .i64, 1, 8, some (.atom (.int .i64 0)), false⟩ := rfl
theorem zfq : wB 4 = some ⟨.bool, 1, 1, some (.atom (.bool false)), false⟩ := rfl
theorem zfp : wB 5 = some ⟨.int .u8, 1, 1, some (.atom (.int .u8 0)), false⟩ := rfl
theorem zdj : wB 26 = some ⟨.slice 3, 1, 24, some (.osl 1 true []), false⟩ := rfl
theorem zdi : wB 27 = some ⟨.slice 87, 1, 24, some (.osl 3 true []), false⟩ := rfl
theorem zdh : wB 29 = some ⟨.struct [(0, 1), (1, 1), (2, 1), (3, 1)], 4, 64, some (.agg [.atom (.int .i64 0), .atom (.int .i64 0), .osl 1 true [], .osl 3 true []]), false⟩ := rfl
theorem zdg : wB 31 = some ⟨.slice 39, 1, 24, some (.osl 2 true []), false⟩ := rfl
theorem zdf : wB 32 = some ⟨.slice 45, 1, 24, some (.osl 1 true []), false⟩ := rfl
theorem zde : wB 36 = some ⟨.slice 65, 1, 24, some (.osl 4 true []), false⟩ := rfl
theorem zdd : wB 37 = some ⟨.slice 26, 1, 24, some (.osl 1 true []), false⟩ := rfl
theorem zdc : wB 39 = some ⟨.struct [(0, 1), (1, 1)], 2, 48, some (.agg [.osl 1 true [], .osl 1 true []]), false⟩ := rfl
theorem zdb : wB 40 = some ⟨.int .i64, 1, 8, some (.atom (.int .i64 0)), false⟩ := rfl
theorem zda : wB 45 = some ⟨.slice 100, 1, 24, some (.osl 5 true []), false⟩ := rfl
theorem zd9 : wB 50 = some ⟨.int .u64, 1, 8, some (.atom (.int .u64 0)), false⟩ := rfl
theorem zd8 : wB 51 = some ⟨.slice 59, 1, 24, some (.osl 1 true []), false⟩ := rfl
theorem zd7 : wB 53 = some ⟨.struct [(0, 1), (1, 1), (2, 1)], 3, 40, some (.agg [.atom (.int .i64 0), .atom (.int .i64 0), .osl 1 true []]), false⟩ := rfl
theorem zd6 : wB 59 = some ⟨.slice 61, 1, 24, some (.osl 3 true []), false⟩ := rfl
theorem zd5 : wB 61 = some ⟨.struct [(0, 1), (1, 1), (2, 1)], 3, 24, some (.agg [.atom (.int .u8 0), .atom (.int .i64 0), .atom (.int .i64 0)]), true⟩ := rfl
theorem zd4 : wB 65 = some ⟨.struct [(0, 1), (1, 1), (2, 1), (3, 1)], 4, 32, some (.agg [.atom (.int .i64 0), .atom (.int .i64 0), .atom (.int .i64 0), .atom (.int .i64 0)]), true⟩ := rfl
theorem zd3 : wB 68 = some ⟨.slice 73, 1, 24, some (.osl 6 true []), false⟩ := rfl
theorem zd2 : wB 73 = some ⟨.struct [(0, 4), (4, 2)], 6, 80, some (.agg [.agg [.atom (.int .i64 0), .atom (.int .i64 0), .atom (.int .i64 0), .atom (.int .i64 0)], .agg [.osl 1 true [], .osl 1 true []]]), false⟩ := rfl
theorem zd1 : wB 82 = some ⟨.other, 1, 8, some (.atom .nilFunc), false⟩ := rfl
theorem zd0 : wB 85 = some ⟨.slice 98, 1, 24, some (.osl 5 true []), false⟩ := rfl
theorem zcZ : wB 87 = some ⟨.struct [(0, 1), (1, 1), (2, 1)], 3, 56, some (.agg [.atom (.int .i64 0), .osl 5 true [], .osl 1 true []]), false⟩ := rfl
theorem zcY : wB 98 = some ⟨.struct [(0, 1), (1, 1), (2, 1), (3, 1), (4, 1)], 5, 40, some (.agg [.atom (.int .i64 0), .atom (.int .u8 0), .atom (.int .i64 0), .atom (.int .i64 0), .atom (.int .i64 0)]), true⟩ := rfl
theorem zb9 : wB 100 = some ⟨.struct [(0, 4), (4, 1)], 5, 40, some (.agg [.agg [.atom (.int .i64 0), .atom (.int .i64 0), .atom (.int .i64 0), .atom (.int .i64 0)], .atom (.int .i64 0)]), true⟩ := rfl
theorem zb8 : wB 103 = some ⟨.slice 115, 1, 24, some (.osl 24 true []), false⟩ := rfl
theorem zb7 : wB 106 = some ⟨.slice 108, 1, 24, some (.osl 5 true []), false⟩ := rfl
theorem zb6 : wB 108 = some ⟨.struct [(0, 1), (1, 4)], 5, 40, some (.agg [.atom (.int .i64 0), .agg [.atom (.int .i64 0), .atom (.int .i64 0), .atom (.int .i64 0), .atom (.int .i64 0)]]), true⟩ := rfl
theorem zb5 : wB 110 = some ⟨.array 4 3, 4, 32, some (.agg [.atom (.int .i64 0), .atom (.int .i64 0), .atom (.int .i64 0), .atom (.int .i64 0)]), true⟩ := rfl
theorem zb4 : wB 112 = some ⟨.struct [(0, 1), (1, 4)], 5, 40, some (.agg [.atom (.int .i64 0), .agg [.atom (.int .i64 0), .atom (.int .i64 0), .atom (.int .i64 0), .atom (.int .i64 0)]]), true⟩ := rfl
theorem zb3 : wB 113 = some ⟨.array 4 112, 20, 160, some (.agg [.agg [.atom (.int .i64 0), .agg [.atom (.int .i64 0), .atom (.int .i64 0), .atom (.int .i64 0), .atom (.int .i64 0)]], .agg [.atom (.int .i64 0), .agg [.atom (.int .i64 0), .atom (.int .i64 0), .atom (.int .i64 0), .atom (.int .i64 0)]], .agg [.atom (.int .i64 0), .agg [.atom (.int .i64 0), .atom (.int .i64 0), .atom (.int .i64 0), .atom (.int .i64 0)]], .agg [.atom (.int .i64 0), .agg [.atom (.int .i64 0), .atom (.int .i64 0), .atom (.int .i64 0), .atom (.int .i64 0)]]]), true⟩ := rfl
theorem zb2 : wB 115 = some ⟨.struct [(0, 4), (4, 20)], 24, 192, some (.agg [.agg [.atom (.int .i64 0), .atom (.int .i64 0), .atom (.int .i64 0), .atom (.int .i64 0)], .agg [.agg [.atom (.int .i64 0), .agg [.atom (.int .i64 0), .atom (.int .i64 0), .atom (.int .i64 0), .atom (.int .i64 0)]], .agg [.atom (.int .i64 0), .agg [.atom (.int .i64 0), .atom (.int .i64 0), .atom (.int .i64 0), .atom (.int .i64 0)]], .agg [.atom (.int .i64 0), .agg [.atom (.int .i64 0), .atom (.int .i64 0), .atom (.int .i64 0), .atom (.int .i64 0)]], .agg [.atom (.int .i64 0), .agg [.atom (.int .i64 0), .atom (.int .i64 0), .atom (.int .i64 0), .atom (.int .i64 0)]]]]), true⟩ := rfl
theorem zb1 : wB 129 = some ⟨.other, 1, 8, some (.atom .nilFunc), false⟩ := rfl
theorem zb0 : wB 130 = some ⟨.other, 1, 8, some (.atom .nilFunc), false⟩ := rfl
theorem zaZ : wB 136 = some ⟨.other, 1, 8, some (.atom .nilFunc), false⟩ := rfl
theorem zaY : wB 139 = some ⟨.other, 1, 8, some (.atom .nilFunc), false⟩ := rfl
theorem zaX : wB 142 = some ⟨.other, 1, 8, some (.atom (.map none)), false⟩ := rfl
theorem zaW : wB 149 = some ⟨.other, 1, 8, some (.atom .nilFunc), false⟩ := rfl
theorem zaV : wB 150 = some ⟨.other, 1, 8, some (.atom .nilFunc), false⟩ := rfl
theorem zaU : wB 151 = some ⟨.other, 1, 8, some (.atom .nilFunc), false⟩ := rfl
theorem zaT : wB 154 = some ⟨.other, 1, 16, some (.atom .nilIface), false⟩ := rfl
theorem zaS : wB 160 = some ⟨.other, 1, 8, some (.atom .nilFunc), false⟩ := rfl
theorem zaR : wB 174 = some ⟨.other, 1, 8, some (.atom .nilFunc), false⟩ := rfl
attribute [go_sem] zft zfs zfr zfq zfp zdj zdi zdh zdg zdf zde zdd zdc zdb zda zd9 zd8 zd7 zd6 zd5 zd4 zd3 zd2 zd1 zd0 zcZ zcY zb9 zb8 zb7 zb6 zb5 zb4 zb3 zb2 zb1 zb0 zaZ zaY zaX zaW zaV zaU zaT zaS zaR
end Go.Own

namespace Go.Proofs
open Go.RowKit Go.Extern.Stop Go.Stop Go.Extern
set_option maxRecDepth 100000
theorem Tryz.isTypeOf (v : Value) (w : World) : (Extern.ReflectliteType.typeOf #[.iface 201 v]).run Tryz.prog w = .ok (.iface 188 (.agg #[.pointer (some ⟨1, 201, none⟩)])) w := by kernel_rfl
theorem Tryz.isComparable (w : World) : (callFunc 132 #[.agg #[.pointer (some ⟨1, 201, none⟩)]]).run Tryz.prog w = .ok (.value (.bool true)) w := by
 rw [@run_callFunc_extern Tryz.prog 132 _ (Extern.ReflectliteType.method fun t => do Extern.Rtype.noPackHeld "Comparable" t; pure (.bool (← typeInfo t).comparable)) Tryz.func132 (by kernel_rfl) (by kernel_rfl) (by kernel_rfl) (by kernel_rfl)]
 kernel_rfl
theorem Tryz.isMethodComparable (v : Value) (w : World) : (Go.method 338 188 v "Comparable").run Tryz.prog w = .ok (132, v) w := by kernel_rfl
theorem Tryz.isComp : (Tryz.prog.info? 201).map (·.comparable) = some true := by kernel_rfl
theorem Tryz.isSize : (Tryz.prog.info? 226).map (·.size) = some 1 := by kernel_rfl
theorem Tryz.is_same (a : Addr) (w : World) :
  Calls Tryz.prog 85 #[.iface 201 (.pointer (some a)), .iface 201 (.pointer (some a))] w fun e w' => e = .returned (.bool true) ∧ w' = w := by
 obtain ⟨i, hi, hcmp⟩ := Option.map_eq_some_iff.1 Tryz.isComp
 obtain ⟨j, hj, hjs⟩ := Option.map_eq_some_iff.1 Tryz.isSize
 have h8 := @run_callFunc_extern Tryz.prog 105 _ Extern.ReflectliteType.typeOf Tryz.func105 (by kernel_rfl) (by kernel_rfl) (by kernel_rfl) (by kernel_rfl)
 have tT := Tryz.isTypeOf
 have cT := Tryz.isComparable
 have mR := Tryz.isMethodComparable
 have heq := run_eql_iface_ptr_same (P := Tryz.prog) w a Tryz.underlying154 Tryz.underlying201 hi hcmp hj
 go_enter Tryz.func85, Tryz.ntmps85
 go_wp2
 refine wp_loop_rounds 1 ?_
 rw [rounds_succ]
 go_wp2
 go_ret
 exact ⟨rfl, rfl⟩
theorem Tryz.is_nil (b : Addr) (w : World) :
  Calls Tryz.prog 85 #[.nilIface, .iface 201 (.pointer (some b))] w fun e w' => e = .returned (.bool false) ∧ w' = w := by
 have hn := run_eql_iface_nil_left (P := Tryz.prog) w 201 (.pointer (some b)) Tryz.underlying154
 go_enter Tryz.func85, Tryz.ntmps85
 go_wp2
 go_ret
 exact ⟨rfl, rfl⟩
end Go.Proofs
namespace Go.Own
open Go.Proofs
theorem z6z {S : zq} {h : Array Obj} {x y : A} {vs : List Value} {F : List Nat} (hx : x.isD = true) (hy : y.isD = true) (q : YG S h [x, y] vs F) : ∃ u v, vs = [u, v] ∧ vY S x u ∧ vY S y v ∧ F = [] := by
 match vs, q with
 | [u, v], q =>
  obtain ⟨F1, F2, rfl, q1, F3, F4, rfl, q2, q3⟩ := q
  have e3 : F4 = [] := q3
  subst e3
  have d : ∀ {x : A} {u : Value} {F : List Nat}, x.isD = true → Has S h x u F → vY S x u ∧ F = [] := by
   intro x u F hx q
   rcases q with ⟨q, rfl⟩ | ⟨cs, q1, q2, q3⟩
   ·exact ⟨q.rep1 hx, rfl⟩
   ·obtain ⟨r, rfl⟩ := q1.isD hx
    exact ⟨⟨cs, r, q3⟩, rfl⟩
  obtain ⟨r1, rfl⟩ := d hx q1
  obtain ⟨r2, rfl⟩ := d hy q2
  exact ⟨u, v, rfl, r1, r2, rfl⟩
theorem z8D (e : Bool) : Xt Tryz.prog 85 [eEr 0 201 e, eEr 0 201 true] (eB e) := by
 refine ⟨⟨_, Tryz.func85, by kernel_rfl, by kernel_rfl⟩, ?_⟩
 intro S w vs F hS hq hF
 obtain ⟨u, v, rfl, r1, r2, rfl⟩ := z6z rfl rfl hq
 obtain ⟨g1, g2⟩ := z7s r1
 obtain ⟨⟨s1, a, rfl⟩, _⟩ : (S 0 0 = some v ∧ ∃ a, v = .iface 201 (.pointer (some a))) ∧ True := ⟨(z7s r2).1 rfl, trivial⟩
 have fin : ∀ (b : Bool) {e' : Ending} {w' : World}, e' = .returned (.bool b) ∧ w' = w → b = e → ∃ v S' F', e' = .returned v ∧ ZT (fun k => w.heap.size ≤ k ∨ k ∈ ([] : List Nat)) w w' ∧ (∀ b o u, S b o = some u → S' b o = some u) ∧ (∀ b o, b < w.heap.size → b ∉ ([] : List Nat) → S' b o = S b o) ∧ wV S' w' ∧ Has S' w'.heap (eB e) v F' ∧ F'.Nodup ∧ ∀ k ∈ F', w.heap.size ≤ k ∨ k ∈ ([] : List Nat) := by
  rintro b e' w' ⟨rfl, rfl⟩ rfl
  exact ⟨_, S, [], rfl, ZT.refl _ _, fun _ _ _ h => h, fun _ _ _ _ => rfl, hS, .inl ⟨zy.2 ⟨rfl, rfl⟩, rfl⟩, by simp, by simp⟩
 cases e with
 | true =>
  obtain ⟨s2, b, rfl⟩ := g1 rfl
  rw [s1] at s2
  cases s2
  exact (Tryz.is_same _ w).mono fun e' w' h => fin true h rfl
 | false =>
  have := g2 rfl
  subst this
  exact (Tryz.is_nil _ w).mono fun e' w' h => fin false h rfl
structure zF (α : Type) where
 e0 : α
 e1 : α
 e2 : α
 e3 : α
 deriving DecidableEq
instance {α : Type} [BEq α] : BEq (zF α) := ⟨fun x y => (x.e0 == y.e0) && (x.e1 == y.e1) && (x.e2 == y.e2) && (x.e3 == y.e3)⟩
section
variable {α : Type}
def W4 (f : α → A) (x : zF α) : A := .agg [f x.e0, f x.e1, f x.e2, f x.e3]
instance (f : α → A) [h : VX f] : VX (W4 f) := ⟨fun x => by simp [W4, A.isD, A.areD, h.isD]⟩
instance (f g : α → A) [h : kh f g] : kh (W4 f) (W4 g) := ⟨fun x => by simp [W4, A.loose, A.looses, h.lo]⟩
instance (f g : α → A) [h : Xs f g] : Xs (W4 f) (W4 g) := ⟨fun x => by simp [W4, A.live, A.lives, h.live], fun x => by simp [W4, A.shut, A.shuts, h.sh]⟩
instance (f : α → A) [h : vT f] : vT (W4 f) := ⟨fun x y q => by
 simp only [W4, A.agg.injEq, List.cons.injEq, and_true] at q
 cases x; cases y
 simp only [zF.mk.injEq]
 exact ⟨h.inj _ _ q.1, h.inj _ _ q.2.1, h.inj _ _ q.2.2.1, h.inj _ _ q.2.2.2⟩⟩
end
section
variable {α : Type}
def zF.toL (x : zF α) : List α := [x.e0, x.e1, x.e2, x.e3]
def zF.ofL : List α → zF α → zF α
 | [x0, x1, x2, x3], _ => ⟨x0, x1, x2, x3⟩
 | _, d => d
theorem zF.toL_ofL (l : List α) (d : zF α) (h : l.length = 4) : (zF.ofL l d).toL = l := by
 match l, h with
 | [x0, x1, x2, x3], _ => rfl
def zF.setI (x : zF α) (i : Int) (v : α) : zF α := zF.ofL (x.toL.set i.toNat v) x
theorem zF.setL (f : α → A) (x : zF α) (i : Int) (v : α) : (x.toL.map f).set i.toNat (f v) = ((zF.setI x i v).toL).map f := by
 unfold zF.setI
 rw [zF.toL_ofL _ _ (by simp [zF.toL]), List.map_set]
end
structure zf where
 From : Int
 Kind : Int
 Channel : Int
 Message : Int
 To : Int
def y8 (f0 : Int → A) (f1 : Int → A) (f2 : Int → A) (f3 : Int → A) (f4 : Int → A) (x : zf) : A := .agg [f0 x.From, f1 x.Kind, f2 x.Channel, f3 x.Message, f4 x.To]
instance (f0 : Int → A) (f1 : Int → A) (f2 : Int → A) (f3 : Int → A) (f4 : Int → A) (g0 : Int → A) (g1 : Int → A) (g2 : Int → A) (g3 : Int → A) (g4 : Int → A) [h0 : kh f0 g0] [h1 : kh f1 g1] [h2 : kh f2 g2] [h3 : kh f3 g3] [h4 : kh f4 g4] : kh (y8 f0 f1 f2 f3 f4) (y8 g0 g1 g2 g3 g4) := ⟨fun x => by simp [y8, A.loose, A.looses, h0.lo, h1.lo, h2.lo, h3.lo, h4.lo]⟩
instance (f0 : Int → A) (f1 : Int → A) (f2 : Int → A) (f3 : Int → A) (f4 : Int → A) (g0 : Int → A) (g1 : Int → A) (g2 : Int → A) (g3 : Int → A) (g4 : Int → A) [h0 : Xs f0 g0] [h1 : Xs f1 g1] [h2 : Xs f2 g2] [h3 : Xs f3 g3] [h4 : Xs f4 g4] : Xs (y8 f0 f1 f2 f3 f4) (y8 g0 g1 g2 g3 g4) := ⟨fun x => by simp [y8, A.live, A.lives, h0.live, h1.live, h2.live, h3.live, h4.live], fun x => by simp [y8, A.shut, A.shuts, h0.sh, h1.sh, h2.sh, h3.sh, h4.sh]⟩
instance (f0 : Int → A) (f1 : Int → A) (f2 : Int → A) (f3 : Int → A) (f4 : Int → A) [h0 : vT f0] [h1 : vT f1] [h2 : vT f2] [h3 : vT f3] [h4 : vT f4] : vT (y8 f0 f1 f2 f3 f4) := ⟨fun x y h => by
 simp only [y8, A.agg.injEq, List.cons.injEq, and_true] at h
 cases x; cases y
 simp only [zf.mk.injEq]
 exact ⟨h0.inj _ _ h.1, h1.inj _ _ h.2.1, h2.inj _ _ h.2.2.1, h3.inj _ _ h.2.2.2.1, h4.inj _ _ h.2.2.2.2⟩⟩
structure zk where
 States : Int
 Arcs : List zf
 Final : List Int
def yg (f0 : Int → A) (f1 : List zf → A) (f2 : List Int → A) (x : zk) : A := .agg [f0 x.States, f1 x.Arcs, f2 x.Final]
instance (f0 : Int → A) (f1 : List zf → A) (f2 : List Int → A) (g0 : Int → A) (g1 : List zf → A) (g2 : List Int → A) [h0 : kh f0 g0] [h1 : kh f1 g1] [h2 : kh f2 g2] : kh (yg f0 f1 f2) (yg g0 g1 g2) := ⟨fun x => by simp [yg, A.loose, A.looses, h0.lo, h1.lo, h2.lo]⟩
instance (f0 : Int → A) (f1 : List zf → A) (f2 : List Int → A) (g0 : Int → A) (g1 : List zf → A) (g2 : List Int → A) [h0 : Xs f0 g0] [h1 : Xs f1 g1] [h2 : Xs f2 g2] : Xs (yg f0 f1 f2) (yg g0 g1 g2) := ⟨fun x => by simp [yg, A.live, A.lives, h0.live, h1.live, h2.live], fun x => by simp [yg, A.shut, A.shuts, h0.sh, h1.sh, h2.sh]⟩
instance (f0 : Int → A) (f1 : List zf → A) (f2 : List Int → A) [h0 : vT f0] [h1 : vT f1] [h2 : vT f2] : vT (yg f0 f1 f2) := ⟨fun x y h => by
 simp only [yg, A.agg.injEq, List.cons.injEq, and_true] at h
 cases x; cases y
 simp only [zk.mk.injEq]
 exact ⟨h0.inj _ _ h.1, h1.inj _ _ h.2.1, h2.inj _ _ h.2.2⟩⟩
structure z6 where
 Messages : Int
 Labels : Int
 Channels : List Int
 Parts : List zk
def xP (f0 : Int → A) (f1 : Int → A) (f2 : List Int → A) (f3 : List zk → A) (x : z6) : A := .agg [f0 x.Messages, f1 x.Labels, f2 x.Channels, f3 x.Parts]
instance (f0 : Int → A) (f1 : Int → A) (f2 : List Int → A) (f3 : List zk → A) (g0 : Int → A) (g1 : Int → A) (g2 : List Int → A) (g3 : List zk → A) [h0 : kh f0 g0] [h1 : kh f1 g1] [h2 : kh f2 g2] [h3 : kh f3 g3] : kh (xP f0 f1 f2 f3) (xP g0 g1 g2 g3) := ⟨fun x => by simp [xP, A.loose, A.looses, h0.lo, h1.lo, h2.lo, h3.lo]⟩
instance (f0 : Int → A) (f1 : Int → A) (f2 : List Int → A) (f3 : List zk → A) [h0 : vT f0] [h1 : vT f1] [h2 : vT f2] [h3 : vT f3] : vT (xP f0 f1 f2 f3) := ⟨fun x y h => by
 simp only [xP, A.agg.injEq, List.cons.injEq, and_true] at h
 cases x; cases y
 simp only [z6.mk.injEq]
 exact ⟨h0.inj _ _ h.1, h1.inj _ _ h.2.1, h2.inj _ _ h.2.2.1, h3.inj _ _ h.2.2.2⟩⟩
structure z8 where
 States : List Int
 Queues : List (List Int)
def zD (f0 : List Int → A) (f1 : List (List Int) → A) (x : z8) : A := .agg [f0 x.States, f1 x.Queues]
instance (f0 : List Int → A) (f1 : List (List Int) → A) [h0 : VX f0] [h1 : VX f1] : VX (zD f0 f1) := ⟨fun x => by simp [zD, A.isD, A.areD, h0.isD, h1.isD]⟩
instance (f0 : List Int → A) (f1 : List (List Int) → A) (g0 : List Int → A) (g1 : List (List Int) → A) [h0 : kh f0 g0] [h1 : kh f1 g1] : kh (zD f0 f1) (zD g0 g1) := ⟨fun x => by simp [zD, A.loose, A.looses, h0.lo, h1.lo]⟩
instance (f0 : List Int → A) (f1 : List (List Int) → A) (g0 : List Int → A) (g1 : List (List Int) → A) [h0 : Xs f0 g0] [h1 : Xs f1 g1] : Xs (zD f0 f1) (zD g0 g1) := ⟨fun x => by simp [zD, A.live, A.lives, h0.live, h1.live], fun x => by simp [zD, A.shut, A.shuts, h0.sh, h1.sh]⟩
instance (f0 : List Int → A) (f1 : List (List Int) → A) [h0 : vT f0] [h1 : vT f1] : vT (zD f0 f1) := ⟨fun x y h => by
 simp only [zD, A.agg.injEq, List.cons.injEq, and_true] at h
 cases x; cases y
 simp only [z8.mk.injEq]
 exact ⟨h0.inj _ _ h.1, h1.inj _ _ h.2⟩⟩
instance (f0 : List Int → A) (f1 : List (List Int) → A) (g0 : List Int → A) (g1 : List (List Int) → A) (x : z8) [∀ y, LeA (f0 y) (g0 y)] [∀ y, LeA (f1 y) (g1 y)] [∀ y, SzA (f0 y) (g0 y)] [∀ y, SzA (f1 y) (g1 y)] : LeA (zD f0 f1 x) (zD g0 g1 x) := by unfold zD; infer_instance
instance (f0 : List Int → A) (f1 : List (List Int) → A) (g0 : List Int → A) (g1 : List (List Int) → A) (x y : z8) [∀ y z, SzA (f0 y) (g0 z)] [∀ y z, SzA (f1 y) (g1 z)] : SzA (zD f0 f1 x) (zD g0 g1 y) := by unfold zD; infer_instance
structure zg where
 many_ : Int
 l_ : zF Int
instance : BEq zg := ⟨fun x y => (x.many_ == y.many_) && (x.l_ == y.l_)⟩
def yz (f0 : Int → A) (f1 : zF Int → A) (x : zg) : A := .agg [f0 x.many_, f1 x.l_]
instance (f0 : Int → A) (f1 : zF Int → A) [h0 : VX f0] [h1 : VX f1] : VX (yz f0 f1) := ⟨fun x => by simp [yz, A.isD, A.areD, h0.isD, h1.isD]⟩
instance (f0 : Int → A) (f1 : zF Int → A) (g0 : Int → A) (g1 : zF Int → A) [h0 : kh f0 g0] [h1 : kh f1 g1] : kh (yz f0 f1) (yz g0 g1) := ⟨fun x => by simp [yz, A.loose, A.looses, h0.lo, h1.lo]⟩
instance (f0 : Int → A) (f1 : zF Int → A) (g0 : Int → A) (g1 : zF Int → A) [h0 : Xs f0 g0] [h1 : Xs f1 g1] : Xs (yz f0 f1) (yz g0 g1) := ⟨fun x => by simp [yz, A.live, A.lives, h0.live, h1.live], fun x => by simp [yz, A.shut, A.shuts, h0.sh, h1.sh]⟩
instance (f0 : Int → A) (f1 : zF Int → A) [h0 : vT f0] [h1 : vT f1] : vT (yz f0 f1) := ⟨fun x y h => by
 simp only [yz, A.agg.injEq, List.cons.injEq, and_true] at h
 cases x; cases y
 simp only [zg.mk.injEq]
 exact ⟨h0.inj _ _ h.1, h1.inj _ _ h.2⟩⟩
structure za where
 states_ : zF Int
 queues_ : zF zg
instance : BEq za := ⟨fun x y => (x.states_ == y.states_) && (x.queues_ == y.queues_)⟩
def xa (f0 : zF Int → A) (f1 : zF zg → A) (x : za) : A := .agg [f0 x.states_, f1 x.queues_]
instance (f0 : zF Int → A) (f1 : zF zg → A) [h0 : VX f0] [h1 : VX f1] : VX (xa f0 f1) := ⟨fun x => by simp [xa, A.isD, A.areD, h0.isD, h1.isD]⟩
instance (f0 : zF Int → A) (f1 : zF zg → A) (g0 : zF Int → A) (g1 : zF zg → A) [h0 : kh f0 g0] [h1 : kh f1 g1] : kh (xa f0 f1) (xa g0 g1) := ⟨fun x => by simp [xa, A.loose, A.looses, h0.lo, h1.lo]⟩
instance (f0 : zF Int → A) (f1 : zF zg → A) (g0 : zF Int → A) (g1 : zF zg → A) [h0 : Xs f0 g0] [h1 : Xs f1 g1] : Xs (xa f0 f1) (xa g0 g1) := ⟨fun x => by simp [xa, A.live, A.lives, h0.live, h1.live], fun x => by simp [xa, A.shut, A.shuts, h0.sh, h1.sh]⟩
instance (f0 : zF Int → A) (f1 : zF zg → A) [h0 : vT f0] [h1 : vT f1] : vT (xa f0 f1) := ⟨fun x y h => by
 simp only [xa, A.agg.injEq, List.cons.injEq, and_true] at h
 cases x; cases y
 simp only [za.mk.injEq]
 exact ⟨h0.inj _ _ h.1, h1.inj _ _ h.2⟩⟩
structure zc where
 Part : Int
 Arc : Int
 Other : Int
 With : Int
def xF (f0 : Int → A) (f1 : Int → A) (f2 : Int → A) (f3 : Int → A) (x : zc) : A := .agg [f0 x.Part, f1 x.Arc, f2 x.Other, f3 x.With]
instance (f0 : Int → A) (f1 : Int → A) (f2 : Int → A) (f3 : Int → A) [h0 : VX f0] [h1 : VX f1] [h2 : VX f2] [h3 : VX f3] : VX (xF f0 f1 f2 f3) := ⟨fun x => by simp [xF, A.isD, A.areD, h0.isD, h1.isD, h2.isD, h3.isD]⟩
instance (f0 : Int → A) (f1 : Int → A) (f2 : Int → A) (f3 : Int → A) (g0 : Int → A) (g1 : Int → A) (g2 : Int → A) (g3 : Int → A) [h0 : kh f0 g0] [h1 : kh f1 g1] [h2 : kh f2 g2] [h3 : kh f3 g3] : kh (xF f0 f1 f2 f3) (xF g0 g1 g2 g3) := ⟨fun x => by simp [xF, A.loose, A.looses, h0.lo, h1.lo, h2.lo, h3.lo]⟩
instance (f0 : Int → A) (f1 : Int → A) (f2 : Int → A) (f3 : Int → A) (g0 : Int → A) (g1 : Int → A) (g2 : Int → A) (g3 : Int → A) [h0 : Xs f0 g0] [h1 : Xs f1 g1] [h2 : Xs f2 g2] [h3 : Xs f3 g3] : Xs (xF f0 f1 f2 f3) (xF g0 g1 g2 g3) := ⟨fun x => by simp [xF, A.live, A.lives, h0.live, h1.live, h2.live, h3.live], fun x => by simp [xF, A.shut, A.shuts, h0.sh, h1.sh, h2.sh, h3.sh]⟩
instance (f0 : Int → A) (f1 : Int → A) (f2 : Int → A) (f3 : Int → A) [h0 : vT f0] [h1 : vT f1] [h2 : vT f2] [h3 : vT f3] : vT (xF f0 f1 f2 f3) := ⟨fun x y h => by
 simp only [xF, A.agg.injEq, List.cons.injEq, and_true] at h
 cases x; cases y
 simp only [zc.mk.injEq]
 exact ⟨h0.inj _ _ h.1, h1.inj _ _ h.2.1, h2.inj _ _ h.2.2.1, h3.inj _ _ h.2.2.2⟩⟩
structure z7 where
 Move : zc
 To : Int
def xE (f0 : zc → A) (f1 : Int → A) (x : z7) : A := .agg [f0 x.Move, f1 x.To]
instance (f0 : zc → A) (f1 : Int → A) [h0 : VX f0] [h1 : VX f1] : VX (xE f0 f1) := ⟨fun x => by simp [xE, A.isD, A.areD, h0.isD, h1.isD]⟩
instance (f0 : zc → A) (f1 : Int → A) (g0 : zc → A) (g1 : Int → A) [h0 : kh f0 g0] [h1 : kh f1 g1] : kh (xE f0 f1) (xE g0 g1) := ⟨fun x => by simp [xE, A.loose, A.looses, h0.lo, h1.lo]⟩
instance (f0 : zc → A) (f1 : Int → A) (g0 : zc → A) (g1 : Int → A) [h0 : Xs f0 g0] [h1 : Xs f1 g1] : Xs (xE f0 f1) (xE g0 g1) := ⟨fun x => by simp [xE, A.live, A.lives, h0.live, h1.live], fun x => by simp [xE, A.shut, A.shuts, h0.sh, h1.sh]⟩
instance (f0 : zc → A) (f1 : Int → A) [h0 : vT f0] [h1 : vT f1] : vT (xE f0 f1) := ⟨fun x y h => by
 simp only [xE, A.agg.injEq, List.cons.injEq, and_true] at h
 cases x; cases y
 simp only [z7.mk.injEq]
 exact ⟨h0.inj _ _ h.1, h1.inj _ _ h.2⟩⟩
structure ze where
 Kind : Int
 Label : Int
 To : Int
 deriving DecidableEq
def wU (f0 : Int → A) (f1 : Int → A) (f2 : Int → A) (x : ze) : A := .agg [f0 x.Kind, f1 x.Label, f2 x.To]
instance (f0 : Int → A) (f1 : Int → A) (f2 : Int → A) [h0 : VX f0] [h1 : VX f1] [h2 : VX f2] : VX (wU f0 f1 f2) := ⟨fun x => by simp [wU, A.isD, A.areD, h0.isD, h1.isD, h2.isD]⟩
instance (f0 : Int → A) (f1 : Int → A) (f2 : Int → A) (g0 : Int → A) (g1 : Int → A) (g2 : Int → A) [h0 : kh f0 g0] [h1 : kh f1 g1] [h2 : kh f2 g2] : kh (wU f0 f1 f2) (wU g0 g1 g2) := ⟨fun x => by simp [wU, A.loose, A.looses, h0.lo, h1.lo, h2.lo]⟩
instance (f0 : Int → A) (f1 : Int → A) (f2 : Int → A) (g0 : Int → A) (g1 : Int → A) (g2 : Int → A) [h0 : Xs f0 g0] [h1 : Xs f1 g1] [h2 : Xs f2 g2] : Xs (wU f0 f1 f2) (wU g0 g1 g2) := ⟨fun x => by simp [wU, A.live, A.lives, h0.live, h1.live, h2.live], fun x => by simp [wU, A.shut, A.shuts, h0.sh, h1.sh, h2.sh]⟩
instance (f0 : Int → A) (f1 : Int → A) (f2 : Int → A) [h0 : vT f0] [h1 : vT f1] [h2 : vT f2] : vT (wU f0 f1 f2) := ⟨fun x y h => by
 simp only [wU, A.agg.injEq, List.cons.injEq, and_true] at h
 cases x; cases y
 simp only [ze.mk.injEq]
 exact ⟨h0.inj _ _ h.1, h1.inj _ _ h.2.1, h2.inj _ _ h.2.2⟩⟩
structure zC where
 Inputs : Int
 Outputs : Int
 Rows : List (List ze)
def uL (f0 : Int → A) (f1 : Int → A) (f2 : List (List ze) → A) (x : zC) : A := .agg [f0 x.Inputs, f1 x.Outputs, f2 x.Rows]
instance (f0 : Int → A) (f1 : Int → A) (f2 : List (List ze) → A) (g0 : Int → A) (g1 : Int → A) (g2 : List (List ze) → A) [h0 : kh f0 g0] [h1 : kh f1 g1] [h2 : kh f2 g2] : kh (uL f0 f1 f2) (uL g0 g1 g2) := ⟨fun x => by simp [uL, A.loose, A.looses, h0.lo, h1.lo, h2.lo]⟩
instance (f0 : Int → A) (f1 : Int → A) (f2 : List (List ze) → A) [h0 : vT f0] [h1 : vT f1] [h2 : vT f2] : vT (uL f0 f1 f2) := ⟨fun x y h => by
 simp only [uL, A.agg.injEq, List.cons.injEq, and_true] at h
 cases x; cases y
 simp only [zC.mk.injEq]
 exact ⟨h0.inj _ _ h.1, h1.inj _ _ h.2.1, h2.inj _ _ h.2.2⟩⟩
structure zt where
 from_ : Int
 move_ : zc
def Qd (f0 : Int → A) (f1 : zc → A) (x : zt) : A := .agg [f0 x.from_, f1 x.move_]
instance : zeC (K := za) (xa (W4 (eI .i64)) (W4 (yz (eI .i64) (W4 (eI .i64))))) := ⟨fun x y => by
 obtain ⟨⟨_, _, _, _⟩, ⟨⟨_, ⟨_, _, _, _⟩⟩, ⟨_, ⟨_, _, _, _⟩⟩, ⟨_, ⟨_, _, _, _⟩⟩, ⟨_, ⟨_, _, _, _⟩⟩⟩⟩ := x
 obtain ⟨⟨_, _, _, _⟩, ⟨⟨_, ⟨_, _, _, _⟩⟩, ⟨_, ⟨_, _, _, _⟩⟩, ⟨_, ⟨_, _, _, _⟩⟩, ⟨_, ⟨_, _, _, _⟩⟩⟩⟩ := y
 simp only [W4, yz, xa, eI, Qa, Kk, Kk.keyLs, ye, BEq.beq, Option.map_some, Option.some.injEq, Value.agg.injEq, List.cons_append, List.nil_append, List.append_nil, Array.mk.injEq, List.cons.injEq, Value.int.injEq, true_and, and_true, Bool.and_eq_true, decide_eq_true_eq, and_assoc]⟩
def kz (arcs : Int) (final : Int) : Option Int :=
 bif decide (arcs > 600) then (
  some 1)
 else (
  bif decide (final > 300) then (
   some 1)
  else (
   some 0))
def je (x_ : z6) (arcs1 : Int) (final1 : Int) (i_ : Int) : Option (LR (Int × Int × Int) ((Int × Int))) :=
 bif decide (i_ < ((x_.Parts.length : Nat) : Int)) then (
  Option.bind (idx x_.Parts i_) fun Part_e =>
  Option.bind (idx x_.Parts i_) fun Part_e1 =>
  some (.next (w64 (arcs1 + ((Part_e.Arcs.length : Nat) : Int)), w64 (final1 + ((Part_e1.Final.length : Nat) : Int)), w64 (i_ + 1))))
 else (
  some (.done (arcs1, final1)))
def ZH (x_ : z6) : Option Int :=
 bif decide (((x_.Channels.length : Nat) : Int) > 6) then (
  some 1)
 else (
  bif decide (((x_.Parts.length : Nat) : Int) > 6) then (
   some 1)
  else (
   Option.bind (loop (fun s => je x_ s.1 s.2.1 s.2.2) (0, 0, 0)) fun t2 =>
   kz t2.1 t2.2))
def YK (capacity : Int) (arcs : List zf) : Option z6 :=
 some (z6.mk 1 1 ([capacity]) ([(zk.mk 2 ([(zf.mk 0 1 0 0 1), (zf.mk 1 0 0 0 0)]) []), (zk.mk 1 arcs [])]))
def jR (n_ : Int) : Option Bool :=
 some (decide (n_ > 4))
def wv : Option Int :=
 some (-1)
def yV (s_ : List Int) (x8 : Int) : Option (LR Int (Unit ⊕ Int)) :=
 bif decide (x8 < ((s_.length : Nat) : Int)) then (
  Option.bind (idx s_ x8) fun s__e =>
  Option.bind (jR s__e) fun r_ =>
  bif r_ then (
   some (.done (.inr x8)))
  else (
   some (.next (w64 (x8 + 1)))))
 else (
  some (.done (.inl ())))
def w4 (s_ : List Int) (f_ : Unit) : Option Int :=
 Option.bind (loop (fun s => yV s_ s) 0) fun t2 =>
 match t2 with
 | .inl p => wv
 | .inr p => some p
def yY (s_ : List Int) (f_ : Unit) : Option Bool :=
 Option.bind (w4 s_ ()) fun r_ =>
 some (decide (r_ ≥ 0))
def jQ (p_ : zk) : Option Bool :=
 bif decide (p_.States > 64) then (
  some true)
 else (
  some (decide (((p_.Arcs.length : Nat) : Int) > 256)))
def yS : Option Int :=
 some (-1)
def zN (s_ : List zk) (x8 : Int) : Option (LR Int (Unit ⊕ Int)) :=
 bif decide (x8 < ((s_.length : Nat) : Int)) then (
  Option.bind (idx s_ x8) fun s__e =>
  Option.bind (jQ s__e) fun r_ =>
  bif r_ then (
   some (.done (.inr x8)))
  else (
   some (.next (w64 (x8 + 1)))))
 else (
  some (.done (.inl ())))
def yi (s_ : List zk) (f_ : Unit) : Option Int :=
 Option.bind (loop (fun s => zN s_ s) 0) fun t2 =>
 match t2 with
 | .inl p => yS
 | .inr p => some p
def zO (s_ : List zk) (f_ : Unit) : Option Bool :=
 Option.bind (yi s_ ()) fun r_ =>
 some (decide (r_ ≥ 0))
def uu (x_ : z6) : Option Bool :=
 bif decide (x_.Messages > 16) then (
  some true)
 else (
  bif decide (x_.Labels > 16) then (
   some true)
  else (
   bif decide (((x_.Channels.length : Nat) : Int) > 4) then (
    some true)
   else (
    bif decide (((x_.Parts.length : Nat) : Int) > 4) then (
     some true)
    else (
     Option.bind (yY x_.Channels ()) fun r_ =>
     bif r_ then (
      some true)
     else (
      Option.bind (zO x_.Parts ()) fun r_1 =>
      some r_1)))))
def jT (n_ : Int) : Option Bool :=
 some (decide (n_ < 0))
def wu : Option Int :=
 some (-1)
def yU (s_ : List Int) (x8 : Int) : Option (LR Int (Unit ⊕ Int)) :=
 bif decide (x8 < ((s_.length : Nat) : Int)) then (
  Option.bind (idx s_ x8) fun s__e =>
  Option.bind (jT s__e) fun r_ =>
  bif r_ then (
   some (.done (.inr x8)))
  else (
   some (.next (w64 (x8 + 1)))))
 else (
  some (.done (.inl ())))
def xZ (s_ : List Int) (f_ : Unit) : Option Int :=
 Option.bind (loop (fun s => yU s_ s) 0) fun t2 =>
 match t2 with
 | .inl p => wu
 | .inr p => some p
def yX (s_ : List Int) (f_ : Unit) : Option Bool :=
 Option.bind (xZ s_ ()) fun r_ =>
 some (decide (r_ ≥ 0))
def vq (n_ : Int) (many : Int) : Option Bool :=
 bif decide (n_ ≥ 0) then (
  some (decide (n_ < many)))
 else (
  some false)
def km : Option Bool :=
 some true
def u7 (x9 : Int) (x29 : Bool) : Option (LR Int (Unit ⊕ Bool)) :=
 some (.next (w64 (x9 + 1)))
def wr (l_ : List Int) (many : Int) (x9 : Int) : Option (LR Int (Unit ⊕ Bool)) :=
 bif decide (x9 < ((l_.length : Nat) : Int)) then (
  Option.bind (idx l_ x9) fun l__e =>
  Option.bind (vq l__e many) fun r_ =>
  bif !r_ then (
   some (.done (.inr false)))
  else (
   bif decide (x9 > 0) then (
    Option.bind (idx l_ (w64 (x9 - 1))) fun l__e1 =>
    bif decide (l__e ≤ l__e1) then (
     some (.done (.inr false)))
    else (
     u7 x9 (decide (l__e ≤ l__e1))))
   else (
    u7 x9 false)))
 else (
  some (.done (.inl ())))
def v6 (l_ : List Int) (many : Int) : Option Bool :=
 Option.bind (loop (fun s => wr l_ many s) 0) fun t2 =>
 match t2 with
 | .inl p => km
 | .inr p => some p
def wW (x_ : z6) (p_ : zk) (a_ : zf) : Option Bool :=
 Option.bind (vq a_.From p_.States) fun r_ =>
 bif !r_ then (
  some false)
 else (
  Option.bind (vq a_.To p_.States) fun r_1 =>
  bif !r_1 then (
   some false)
  else (
   bif decide (a_.Kind > 2) then (
    some false)
   else (
    bif a_.Kind == 0 then (
     bif a_.Channel == 0 then (
      Option.bind (vq a_.Message x_.Labels) fun r_2 =>
      some r_2)
     else (
      some false))
    else (
     Option.bind (vq a_.Channel ((x_.Channels.length : Nat) : Int)) fun r_3 =>
     bif r_3 then (
      Option.bind (vq a_.Message x_.Messages) fun r_4 =>
      some r_4)
     else (
      some false)))))
def jS (a_ : zf) (x1 : z6) (x2 : zk) : Option Bool :=
 Option.bind (wW x1 x2 a_) fun r_ =>
 some (!r_)
def xk : Option Int :=
 some (-1)
def zT (s_ : List zf) (f_ : z6 × zk) (x8 : Int) : Option (LR Int (Unit ⊕ Int)) :=
 bif decide (x8 < ((s_.length : Nat) : Int)) then (
  Option.bind (idx s_ x8) fun s__e =>
  Option.bind (jS s__e f_.1 f_.2) fun r_ =>
  bif r_ then (
   some (.done (.inr x8)))
  else (
   some (.next (w64 (x8 + 1)))))
 else (
  some (.done (.inl ())))
def yo (s_ : List zf) (f_ : z6 × zk) : Option Int :=
 Option.bind (loop (fun s => zT s_ f_ s) 0) fun t2 =>
 match t2 with
 | .inl p => xk
 | .inr p => some p
def zU (s_ : List zf) (f_ : z6 × zk) : Option Bool :=
 Option.bind (yo s_ (f_.1, f_.2)) fun r_ =>
 some (decide (r_ ≥ 0))
def kO : Option Int :=
 some 0
def wh (x_ : z6) (x29 : Int) : Option (LR Int (Unit ⊕ Int)) :=
 bif decide (x29 < ((x_.Parts.length : Nat) : Int)) then (
  Option.bind (idx x_.Parts x29) fun Part_e =>
  bif decide (Part_e.States < 1) then (
   some (.done (.inr 1)))
  else (
   Option.bind (v6 Part_e.Final Part_e.States) fun r_2 =>
   bif !r_2 then (
    some (.done (.inr 1)))
   else (
    Option.bind (zU Part_e.Arcs (x_, Part_e)) fun r_3 =>
    bif r_3 then (
     some (.done (.inr 1)))
    else (
     some (.next (w64 (x29 + 1)))))))
 else (
  some (.done (.inl ())))
def wa (x_ : z6) : Option Int :=
 Option.bind (uu x_) fun r_ =>
 bif r_ then (
  some 3)
 else (
  bif decide (x_.Messages < 0) then (
   some 1)
  else (
   bif decide (x_.Labels < 0) then (
    some 1)
   else (
    bif decide (((x_.Parts.length : Nat) : Int) < 1) then (
     some 1)
    else (
     Option.bind (yX x_.Channels ()) fun r_1 =>
     bif r_1 then (
      some 1)
     else (
      Option.bind (loop (fun s => wh x_ s) 0) fun t2 =>
      match t2 with
      | .inl p => kO
      | .inr p => some p)))))
def xr (x_ : z6) (s_ : za) : Option (z6 × za) :=
 some (x_, s_)
def ws (x_ : z6) (s_ : za) (part : Int) : Option (z6 × Int × za) :=
 some (x_, part, s_)
def wK {σ : Type} (x14 : Int) (sg2 : σ) : Option (LR (σ × Int) σ) :=
 some (.next (sg2, w64 (x14 + 1)))
def xT {σ : Type} (x1 : Int) (x2 : za) (yy : σ → (Int × zf) → Option (σ × Bool)) (Part_e : zk) (sg1 : σ) (x14 : Int) : Option (LR (σ × Int) σ) :=
 bif decide (x14 < ((Part_e.Arcs.length : Nat) : Int)) then (
  Option.bind (idx Part_e.Arcs x14) fun Arc_e =>
  Option.bind (idx (zF.toL x2.states_) x1) fun cell =>
  bif Arc_e.From == cell then (
   Option.bind (yy sg1 (x14, Arc_e)) fun yr =>
   bif !yr.2 then (
    some (.done yr.1))
   else (
    wK x14 yr.1))
  else (
   wK x14 sg1))
 else (
  some (.done sg1))
def yq (x0 : z6) (x1 : Int) (x2 : za) {σ : Type} (yy : σ → (Int × zf) → Option (σ × Bool)) (sg : σ) : Option σ :=
 Option.bind (idx x0.Parts x1) fun Part_e =>
 Option.bind (loop (fun s => xT x1 x2 yy Part_e s.1 s.2) (sg, 0)) fun t1 =>
 some t1
def u9 (q_ : zg) (m_ : Int) : Option zg :=
 Option.bind (idx (zF.toL q_.l_) q_.many_) fun cell =>
 Option.bind (some (zF.setI q_.l_ q_.many_ m_)) fun arr =>
 some (zg.mk (w64 (q_.many_ + 1)) arr)
def qg (q_ : zg) : Option zg :=
 Option.bind (some (zF.ofL (cpA (zF.toL q_.l_) 0 ((zF.toL q_.l_).drop 1)) q_.l_)) fun arr =>
 some (zg.mk (w64 (q_.many_ - 1)) (zF.mk arr.e0 arr.e1 arr.e2 0))
def ve (arr : zF Int) (s_queues : zF zg) : Option (za × Bool) :=
 some ((za.mk arr s_queues), false)
def zQ (s_ : za) (a_ : zf) (arr : zF Int) (cell1 : zg) (x33 : Bool) : Option (za × Bool) :=
 bif x33 then (
  some ((za.mk arr s_.queues_), true))
 else (
  bif a_.Kind == 1 then (
   Option.bind (u9 cell1 a_.Message) fun r_ =>
   Option.bind (idx (zF.toL s_.queues_) a_.Channel) fun cell2 =>
   Option.bind (some (zF.setI s_.queues_ a_.Channel r_)) fun arr1 =>
   ve arr arr1)
  else (
   Option.bind (qg cell1) fun r_1 =>
   Option.bind (idx (zF.toL s_.queues_) a_.Channel) fun cell3 =>
   Option.bind (some (zF.setI s_.queues_ a_.Channel r_1)) fun arr2 =>
   ve arr arr2))
def xR (x_ : z6) (s_ : za) (part : Int) (a_ : zf) : Option (za × Bool) :=
 Option.bind (idx (zF.toL s_.states_) part) fun cell =>
 Option.bind (some (zF.setI s_.states_ part a_.To)) fun arr =>
 Option.bind (idx (zF.toL s_.queues_) (mn a_.Channel 3)) fun cell1 =>
 bif a_.Kind == 0 then (
  some ((za.mk arr s_.queues_), false))
 else (
  Option.bind (idx x_.Channels a_.Channel) fun Channel_e =>
  bif Channel_e == 0 then (
   zQ s_ a_ arr cell1 (Channel_e == 0))
  else (
   bif a_.Kind == 1 then (
    Option.bind (idx x_.Channels a_.Channel) fun Channel_e1 =>
    bif cell1.many_ == Channel_e1 then (
     zQ s_ a_ arr cell1 (cell1.many_ == Channel_e1))
    else (
     bif a_.Kind == 2 then (
      bif cell1.many_ == 0 then (
       zQ s_ a_ arr cell1 true)
      else (
       zQ s_ a_ arr cell1 (cell1.l_.e0 != a_.Message)))
     else (
      zQ s_ a_ arr cell1 false)))
   else (
    bif a_.Kind == 2 then (
     bif cell1.many_ == 0 then (
      zQ s_ a_ arr cell1 true)
     else (
      zQ s_ a_ arr cell1 (cell1.l_.e0 != a_.Message)))
    else (
     zQ s_ a_ arr cell1 false))))
def Jx (e t : Bool) : Option Bool := bif t then some e else none
def vQ {σ : Type} (x16 : Int) (sg2 : σ) : Option (LR (σ × Int) σ) :=
 some (.next (sg2, w64 (x16 + 1)))
def wC {σ : Type} (x59 : Int) (sg5 : σ) : Option (LR (σ × Int) (σ ⊕ σ)) :=
 some (.next (sg5, w64 (x59 + 1)))
def xp {σ : Type} (x1 : za) (yy : σ → (zc × za) → Option (σ × Bool)) (x16 : Int) (x23 : Int) (x24 : zf) (x59 : Int) (sg6 : σ) (x69 : Int) (x70 : zf) : Option (LR σ σ) :=
 bif x70.Kind != 2 then (
  some (.next sg6))
 else (
  bif x70.Channel != x24.Channel then (
   some (.next sg6))
  else (
   bif x70.Message != x24.Message then (
    some (.next sg6))
   else (
    Option.bind (idx (zF.toL x1.states_) x16) fun cell =>
    Option.bind (some (zF.setI x1.states_ x16 x24.To)) fun arr =>
    Option.bind (idx (zF.toL arr) x59) fun cell1 =>
    Option.bind (some (zF.setI arr x59 x70.To)) fun arr1 =>
    Option.bind (yy sg6 ((zc.mk x16 x23 x59 x69), (za.mk arr1 x1.queues_))) fun yr1 =>
    bif !yr1.2 then (
     some (.done yr1.1))
    else (
     some (.next yr1.1)))))
def xo {σ : Type} (x0 : z6) (x1 : za) (yy : σ → (zc × za) → Option (σ × Bool)) (x16 : Int) (x23 : Int) (x24 : zf) (sg4 : σ) (x59 : Int) : Option (LR (σ × Int) (σ ⊕ σ)) :=
 bif decide (x59 < ((x0.Parts.length : Nat) : Int)) then (
  bif x59 == x16 then (
   wC x59 sg4)
  else (
   Option.bind (ws x0 x1 x59) fun r_3 =>
   Option.bind (yq r_3.1 r_3.2.1 r_3.2.2 (yOf (fun s x => xp x1 yy x16 x23 x24 x59 s x.1 x.2)) (.next sg4)) fun t6 =>
   match t6 with
   | .next sg6 => (
    wC x59 sg6)
   | .done sg6 => (
    some (.done (.inr sg6)))))
 else (
  some (.done (.inl sg4)))
def xq {σ : Type} (x0 : z6) (x1 : za) (yy : σ → (zc × za) → Option (σ × Bool)) (x16 : Int) (sg3 : σ) (x23 : Int) (x24 : zf) : Option (LR σ σ) :=
 Option.bind (xR x0 x1 x16 x24) fun r_1 =>
 Option.bind (Jx r_1.2 true) fun r_2 =>
 bif !r_2 then (
  Option.bind (yy sg3 ((zc.mk x16 x23 (-1) (-1)), r_1.1)) fun yr =>
  bif !yr.2 then (
   some (.done yr.1))
  else (
   some (.next yr.1)))
 else (
  bif x24.Kind != 1 then (
   some (.next sg3))
  else (
   Option.bind (idx x0.Channels x24.Channel) fun Channel_e =>
   bif decide (Channel_e > 0) then (
    some (.next sg3))
   else (
    Option.bind (loop (fun s => xo x0 x1 yy x16 x23 x24 s.1 s.2) (sg3, 0)) fun t4 =>
    match t4 with
    | .inl p => some (.next p)
    | .inr p => some (.done p))))
def xM {σ : Type} (x0 : z6) (x1 : za) (yy : σ → (zc × za) → Option (σ × Bool)) (sg1 : σ) (x16 : Int) : Option (LR (σ × Int) σ) :=
 bif decide (x16 < ((x0.Parts.length : Nat) : Int)) then (
  Option.bind (ws x0 x1 x16) fun r_ =>
  Option.bind (yq r_.1 r_.2.1 r_.2.2 (yOf (fun s x => xq x0 x1 yy x16 s x.1 x.2)) (.next sg1)) fun t3 =>
  match t3 with
  | .next sg3 => (
   vQ x16 sg3)
  | .done sg3 => (
   some (.done sg3)))
 else (
  some (.done sg1))
def y9 (x0 : z6) (x1 : za) {σ : Type} (yy : σ → (zc × za) → Option (σ × Bool)) (sg : σ) : Option σ :=
 Option.bind (loop (fun s => xM x0 x1 yy s.1 s.2) (sg, 0)) fun t1 =>
 some t1
def yb (s_ : List z7) : Option (List z7) :=
 gd ((0 : Int) ≤ 0 ∧ (0 : Int) ≤ ((s_.length : Nat) : Int) ∧ (((s_.length : Nat) : Int) : Int) ≤ ((s_.length : Nat) : Int) ∧ (((s_.length : Nat) : Int) : Int) ≤ ((s_.length : Nat) : Int)) <|
 some ((s_.drop 0).take (((s_.length : Nat) : Int).toNat - 0))
def yj (s_ : List (List z7)) : Option (List (List z7)) :=
 some s_
def uz (x4 : Int) (list : List za) (steps : List (List z7)) : Option (List za × List (List z7) × Int) :=
 Option.bind (yj steps) fun r_ =>
 some (list, r_, 0)
def wX (i_ : Int) (x42 : Int) (list2 : List za) (at_1 : List (za × Int)) (steps2 : List (List z7)) : Option (LR (Int × List za × (List (za × Int)) × List (List z7) × Int) ((Int × List za × List (List z7)) ⊕ (List za × List (List z7) × Int))) :=
 some (.next (x42, list2, at_1, steps2, w64 (i_ + 1)))
def w9 (steps1 : List (List z7)) (i_ : Int) (x43 : Int) (list3 : List za) (at_2 : List (za × Int)) (l_ : List z7) : Option (LR (Int × List za × (List (za × Int)) × List (List z7) × Int) ((Int × List za × List (List z7)) ⊕ (List za × List (List z7) × Int))) :=
 Option.bind (yb l_) fun r_1 =>
 gd (steps1.length + ([r_1] : List (List z7)).length ≤ 4294967296) <|
 wX i_ x43 list3 at_2 (steps1 ++ ([r_1] : List (List z7)))
def xG (x44 : Int) (l_1 : List z7) (x31 : zc) (list5 : List za) (at_4 : List (za × Int)) (n_ : Int) : Option (LR (Int × List za × (List (za × Int)) × List z7) ((Int × List za × (List (za × Int)) × List z7))) :=
 gd (l_1.length + ([(z7.mk x31 n_)] : List z7).length ≤ 4294967296) <|
 some (.next (x44, list5, at_4, (l_1 ++ ([(z7.mk x31 n_)] : List z7))))
def zL (x44 : Int) (list4 : List za) (at_3 : List (za × Int)) (l_1 : List z7) (x31 : zc) (x32 : za) : Option (LR (Int × List za × (List (za × Int)) × List z7) ((Int × List za × (List (za × Int)) × List z7))) :=
 Option.bind (some ((JJ at_3 x32).getD 0)) fun val =>
 bif !((JJ at_3 x32).isSome) then (
  bif ((list4.length : Nat) : Int) == 1024 then (
   some (.done (3, list4, at_3, l_1)))
  else (
   gd (list4.length + ([x32] : List za).length ≤ 4294967296) <|
   xG x44 l_1 x31 (list4 ++ ([x32] : List za)) (JI at_3 x32 ((list4.length : Nat) : Int)) ((list4.length : Nat) : Int)))
 else (
  xG x44 l_1 x31 list4 at_3 val)
def w8 (x_ : z6) (x41 : Int) (list1 : List za) (at_ : List (za × Int)) (steps1 : List (List z7)) (i_ : Int) : Option (LR (Int × List za × (List (za × Int)) × List (List z7) × Int) ((Int × List za × List (List z7)) ⊕ (List za × List (List z7) × Int))) :=
 bif decide (i_ < ((list1.length : Nat) : Int)) then (
  Option.bind (idx list1 i_) fun list_e =>
  Option.bind (xr x_ list_e) fun r_2 =>
  Option.bind (y9 r_2.1 r_2.2 (yOf (fun s x => zL s.1 s.2.1 s.2.2.1 s.2.2.2 x.1 x.2)) (.next (x41, list1, at_, ([] : List z7)))) fun t5 =>
  match t5 with
  | .next (x44, list4, at_3, l_1) => (
   w9 steps1 i_ x44 list4 at_3 l_1)
  | .done (x44, list4, at_3, l_1) => (
   some (.done (.inr (([] : List za), ([] : List (List z7)), x44)))))
 else (
  some (.done (.inl (x41, list1, steps1))))
def yP (x_ : z6) : Option (List za × List (List z7) × Int) :=
 Option.bind (loop (fun s => w8 x_ s.1 s.2.1 s.2.2.1 s.2.2.2.1 s.2.2.2.2) (0, ([(za.mk (zF.mk 0 0 0 0) (zF.mk (zg.mk 0 (zF.mk 0 0 0 0)) (zg.mk 0 (zF.mk 0 0 0 0)) (zg.mk 0 (zF.mk 0 0 0 0)) (zg.mk 0 (zF.mk 0 0 0 0))))] : List za), (JI ([] : List (za × Int)) (za.mk (zF.mk 0 0 0 0) (zF.mk (zg.mk 0 (zF.mk 0 0 0 0)) (zg.mk 0 (zF.mk 0 0 0 0)) (zg.mk 0 (zF.mk 0 0 0 0)) (zg.mk 0 (zF.mk 0 0 0 0)))) 0), ([] : List (List z7)), 0)) fun t2 =>
 match t2 with
 | .inl p => uz p.1 p.2.1 p.2.2
 | .inr p => some p
def wg (s_ : List Int) : Option (List Int) :=
 gd (([] : List Int).length + s_.length ≤ 4294967296) <|
 some s_
def ww (s_ : List Int) : Option (List Int) :=
 gd ((0 : Int) ≤ 0 ∧ (0 : Int) ≤ ((s_.length : Nat) : Int) ∧ (((s_.length : Nat) : Int) : Int) ≤ ((s_.length : Nat) : Int) ∧ (((s_.length : Nat) : Int) : Int) ≤ ((s_.length : Nat) : Int)) <|
 some ((s_.drop 0).take (((s_.length : Nat) : Int).toNat - 0))
def ua (r_1 : List Int) (c_Queues : List (List Int)) : Option z8 :=
 some (z8.mk r_1 c_Queues)
def xC (x_ : z6) (s_ : za) (c_Queues1 : List (List Int)) (x23 : Int) : Option (LR (List (List Int) × Int) (List (List Int))) :=
 bif decide (x23 < (((List.replicate ((x_.Channels.length : Nat) : Int).toNat ([] : List Int)).length : Nat) : Int)) then (
  Option.bind (idx (zF.toL s_.queues_) x23) fun cell =>
  gd ((0 : Int) ≤ cell.many_ ∧ (cell.many_ : Int) ≤ (([cell.l_.e0, cell.l_.e1, cell.l_.e2, cell.l_.e3].length : Nat) : Int)) <|
  Option.bind (wg ([cell.l_.e0, cell.l_.e1, cell.l_.e2, cell.l_.e3].take cell.many_.toNat)) fun r_2 =>
  Option.bind (ww r_2) fun r_3 =>
  Option.bind (idx c_Queues1 x23) fun c_Queue_e =>
  some (.next ((c_Queues1.set x23.toNat r_3), w64 (x23 + 1))))
 else (
  some (.done c_Queues1))
def xD (x_ : z6) (s_ : za) : Option z8 :=
 gd ((0 : Int) ≤ ((x_.Parts.length : Nat) : Int) ∧ (((x_.Parts.length : Nat) : Int) : Int) ≤ (([s_.states_.e0, s_.states_.e1, s_.states_.e2, s_.states_.e3].length : Nat) : Int)) <|
 Option.bind (wg ([s_.states_.e0, s_.states_.e1, s_.states_.e2, s_.states_.e3].take ((x_.Parts.length : Nat) : Int).toNat)) fun r_ =>
 Option.bind (ww r_) fun r_1 =>
 gd ((0 : Int) ≤ ((x_.Channels.length : Nat) : Int) ∧ (((x_.Channels.length : Nat) : Int) : Int) ≤ 4294967296) <|
 Option.bind (loop (fun s => xC x_ s_ s.1 s.2) ((List.replicate ((x_.Channels.length : Nat) : Int).toNat ([] : List Int)), 0)) fun t2 =>
 ua r_1 t2
def xy (s_ : List z8) : Option (List z8) :=
 gd ((0 : Int) ≤ 0 ∧ (0 : Int) ≤ ((s_.length : Nat) : Int) ∧ (((s_.length : Nat) : Int) : Int) ≤ ((s_.length : Nat) : Int) ∧ (((s_.length : Nat) : Int) : Int) ≤ ((s_.length : Nat) : Int)) <|
 some ((s_.drop 0).take (((s_.length : Nat) : Int).toNat - 0))
def kN (r_1 : List za × List (List z7) × Int) (out : List z8) : Option (List z8 × List (List z7) × Int) :=
 Option.bind (xy out) fun r_2 =>
 some (r_2, r_1.2.1, 0)
def kM (x_ : z6) (r_1 : List za × List (List z7) × Int) (out1 : List z8) (x28 : Int) : Option (LR (List z8 × Int) (List z8)) :=
 bif decide (x28 < ((r_1.1.length : Nat) : Int)) then (
  Option.bind (idx r_1.1 x28) fun u_ =>
  Option.bind (xD x_ u_) fun r_3 =>
  gd (out1.length + ([r_3] : List z8).length ≤ 4294967296) <|
  some (.next ((out1 ++ ([r_3] : List z8)), w64 (x28 + 1))))
 else (
  some (.done out1))
def uA (x_ : z6) : Option (List z8 × List (List z7) × Int) :=
 Option.bind (wa x_) fun r_ =>
 bif r_ != 0 then (
  some (([] : List z8), ([] : List (List z7)), r_))
 else (
  Option.bind (yP x_) fun r_1 =>
  bif r_1.2.2 != 0 then (
   some (([] : List z8), ([] : List (List z7)), r_1.2.2))
  else (
   Option.bind (loop (fun s => kM x_ r_1 s.1 s.2) (([] : List z8), 0)) fun t2 =>
   kN r_1 t2))
def vJ (a_ : Int) (b_ : Int) (queue : List Int) : Option z8 :=
 some (z8.mk ([a_, b_]) ([queue]))
def uW (part : Int) (arc : Int) : Option zc :=
 some (zc.mk part arc (-1) (-1))
def ZD : Option Int :=
 some 0
def ZC (a_ : List Int) (b_ : List Int) (i_ : Int) : Option (LR Int (Unit ⊕ Int)) :=
 bif decide (i_ < ((a_.length : Nat) : Int)) then (
  Option.bind (idx a_ i_) fun a__e =>
  Option.bind (idx b_ i_) fun b__e =>
  bif a__e != b__e then (
   Option.bind (idx a_ i_) fun a__e1 =>
   Option.bind (idx b_ i_) fun b__e1 =>
   bif decide (a__e1 < b__e1) then (
    some (.done (.inr 1)))
   else (
    some (.done (.inr 0))))
  else (
   some (.next (w64 (i_ + 1)))))
 else (
  some (.done (.inl ())))
def Ya (a_ : List Int) (b_ : List Int) : Option Int :=
 bif ((a_.length : Nat) : Int) != ((b_.length : Nat) : Int) then (
  bif decide (((a_.length : Nat) : Int) < ((b_.length : Nat) : Int)) then (
   some 1)
  else (
   some 0))
 else (
  Option.bind (loop (fun s => ZC a_ b_ s) 0) fun t2 =>
  match t2 with
  | .inl p => ZD
  | .inr p => some p)
def Wi (a_ : List Int) (b_ : List Int) : Option Int :=
 bif ((a_.length : Nat) : Int) != ((b_.length : Nat) : Int) then (
  some 0)
 else (
  Option.bind (Ya a_ b_) fun r_ =>
  bif r_ == 1 then (
   some 0)
  else (
   Option.bind (Ya b_ a_) fun r_1 =>
   bif r_1 == 1 then (
    some 0)
   else (
    some 1)))
def X6 : Option Int :=
 some 1
def X5 (a_ : z8) (b_ : z8) (i_ : Int) : Option (LR Int (Unit ⊕ Int)) :=
 bif decide (i_ < ((a_.Queues.length : Nat) : Int)) then (
  Option.bind (idx a_.Queues i_) fun Queue_e =>
  Option.bind (idx b_.Queues i_) fun Queue_e1 =>
  Option.bind (Wi Queue_e Queue_e1) fun r_1 =>
  bif r_1 == 0 then (
   some (.done (.inr 0)))
  else (
   some (.next (w64 (i_ + 1)))))
 else (
  some (.done (.inl ())))
def Wh (a_ : z8) (b_ : z8) : Option Int :=
 Option.bind (Wi a_.States b_.States) fun r_ =>
 bif r_ == 0 then (
  some 0)
 else (
  bif ((a_.Queues.length : Nat) : Int) != ((b_.Queues.length : Nat) : Int) then (
   some 0)
  else (
   Option.bind (loop (fun s => X5 a_ b_ s) 0) fun t2 =>
   match t2 with
   | .inl p => X6
   | .inr p => some p))
def Yr : Option Int :=
 some 1
def Yq (i_ : Int) (x74 : List z7) (x75 : List z7) (x76 : Int) (x79 : List z7) (x80 : List z7) (x81 : Int) (x82 : Bool) : Option (LR Int (Unit ⊕ Int)) :=
 some (.next (w64 (i_ + 1)))
def Yo (s_ : List (List z7)) (steps : List (List z7)) (i_ : Int) (s__e1 : List z7) (s__e2 : List z7) (k_ : Int) : Option (LR Int ((List z7 × List z7 × Int × List z7 × List z7 × Int × Bool) ⊕ Int)) :=
 Option.bind (idx s_ i_) fun s__e3 =>
 bif decide (k_ < ((s__e3.length : Nat) : Int)) then (
  Option.bind (idx s_ i_) fun s__e4 =>
  Option.bind (idx s__e4 k_) fun s__e_e =>
  Option.bind (idx steps i_) fun step_e1 =>
  Option.bind (idx step_e1 k_) fun step_e_e =>
  bif !((s__e_e.Move.Part == step_e_e.Move.Part) && ((s__e_e.Move.Arc == step_e_e.Move.Arc) && ((s__e_e.Move.Other == step_e_e.Move.Other) && ((s__e_e.Move.With == step_e_e.Move.With) && ((s__e_e.To == step_e_e.To) && true))))) then (
   some (.done (.inr 0)))
  else (
   some (.next (w64 (k_ + 1)))))
 else (
  some (.done (.inl (s__e1, s__e1, ((s__e1.length : Nat) : Int), s__e2, s__e2, ((s__e2.length : Nat) : Int), ((s__e1.length : Nat) : Int) != ((s__e2.length : Nat) : Int)))))
def Yp (s_ : List (List z7)) (steps : List (List z7)) (i_ : Int) : Option (LR Int (Unit ⊕ Int)) :=
 bif decide (i_ < ((s_.length : Nat) : Int)) then (
  Option.bind (idx s_ i_) fun s__e =>
  Option.bind (idx steps i_) fun step_e =>
  bif ((s__e.length : Nat) : Int) != ((step_e.length : Nat) : Int) then (
   some (.done (.inr 0)))
  else (
   Option.bind (idx s_ i_) fun s__e1 =>
   Option.bind (idx s_ i_) fun s__e2 =>
   bif ((s__e1.length : Nat) : Int) != ((s__e2.length : Nat) : Int) then (
    some (.done (.inr 0)))
   else (
    Option.bind (loop (fun s => Yo s_ steps i_ s__e1 s__e2 s) 0) fun t5 =>
    match t5 with
    | .inl p => Yq i_ p.1 p.2.1 p.2.2.1 p.2.2.2.1 p.2.2.2.2.1 p.2.2.2.2.2.1 p.2.2.2.2.2.2
    | .inr p => some (.done (.inr p)))))
 else (
  some (.done (.inl ())))
def Ys (s_ : List (List z7)) (steps : List (List z7)) : Option Int :=
 Option.bind (loop (fun s => Yp s_ steps s) 0) fun t3 =>
 match t3 with
 | .inl p => Yr
 | .inr p => some p
def Yn (c_ : List z8) (list : List z8) (i_1 : Int) : Option (LR Int (Unit ⊕ Int)) :=
 bif decide (i_1 < ((c_.length : Nat) : Int)) then (
  Option.bind (idx c_ i_1) fun c__e =>
  Option.bind (idx list i_1) fun list_e =>
  Option.bind (Wh c__e list_e) fun r_ =>
  bif r_ == 0 then (
   some (.done (.inr 0)))
  else (
   some (.next (w64 (i_1 + 1)))))
 else (
  some (.done (.inl ())))
def X9 (c_ : List z8) (s_ : List (List z7)) (list : List z8) (steps : List (List z7)) : Option Int :=
 bif ((c_.length : Nat) : Int) != ((list.length : Nat) : Int) then (
  some 0)
 else (
  bif ((s_.length : Nat) : Int) != ((steps.length : Nat) : Int) then (
   some 0)
  else (
   bif ((c_.length : Nat) : Int) != ((c_.length : Nat) : Int) then (
    some 0)
   else (
    bif ((s_.length : Nat) : Int) != ((s_.length : Nat) : Int) then (
     some 0)
    else (
     Option.bind (loop (fun s => Yn c_ list s) 0) fun t6 =>
     match t6 with
     | .inl p => Ys s_ steps
     | .inr p => some p))))
def vL (x_ : Int) : Option Bool :=
 some (x_ != x_)
def kH (x_ : Int) (y_ : Int) : Option Bool :=
 Option.bind (vL x_) fun r_ =>
 bif r_ then (
  Option.bind (vL y_) fun r_1 =>
  bif !r_1 then (
   some true)
  else (
   some (decide (x_ < y_))))
 else (
  some (decide (x_ < y_)))
def uR (x_ : Int) : Option Bool :=
 some (x_ != x_)
def xJ (x_ : List Int) (target : Int) (i_ : Int) : Option (Int × Bool) :=
 bif decide (i_ < ((x_.length : Nat) : Int)) then (
  Option.bind (idx x_ i_) fun x__e =>
  bif x__e == target then (
   some (i_, true))
  else (
   Option.bind (idx x_ i_) fun x__e1 =>
   Option.bind (uR x__e1) fun r_ =>
   bif r_ then (
    Option.bind (uR target) fun r_1 =>
    some (i_, r_1))
   else (
    some (i_, false))))
 else (
  some (i_, false))
def xh (x_ : List Int) (target : Int) (i_1 : Int) (j_ : Int) : Option (LR (Int × Int) Int) :=
 bif decide (i_1 < j_) then (
  Option.bind (idx x_ (w64 (Int.fdiv (IntKind.u64.wrap (w64 (i_1 + j_))) (2 ^ 1)))) fun x__e2 =>
  Option.bind (kH x__e2 target) fun r_2 =>
  bif r_2 then (
   some (.next (w64 ((w64 (Int.fdiv (IntKind.u64.wrap (w64 (i_1 + j_))) (2 ^ 1))) + 1), j_)))
  else (
   some (.next (i_1, w64 (Int.fdiv (IntKind.u64.wrap (w64 (i_1 + j_))) (2 ^ 1))))))
 else (
  some (.done i_1))
def x5 (x_ : List Int) (target : Int) : Option (Int × Bool) :=
 Option.bind (loop (fun s => xh x_ target s.1 s.2) (0, ((x_.length : Nat) : Int))) fun t2 =>
 xJ x_ target t2
def qP (x_ : Int) : Option Bool :=
 some (x_ != x_)
def uj (x_ : Int) (y_ : Int) : Option Int :=
 Option.bind (qP x_) fun r_ =>
 Option.bind (qP y_) fun r_1 =>
 bif r_ then (
  bif r_1 then (
   some 0)
  else (
   some (-1)))
 else (
  bif r_1 then (
   some 1)
  else (
   bif decide (x_ < y_) then (
    some (-1))
   else (
    bif decide (x_ > y_) then (
     some 1)
    else (
     some 0))))
def uk (x_ : Int) (y_ : Int) : Option Int :=
 Option.bind (vL x_) fun r_ =>
 Option.bind (vL y_) fun r_1 =>
 bif r_ then (
  bif r_1 then (
   some 0)
  else (
   some (-1)))
 else (
  bif r_1 then (
   some 1)
  else (
   bif decide (x_ < y_) then (
    some (-1))
   else (
    bif decide (x_ > y_) then (
     some 1)
    else (
     some 0))))
def Xg : Option Int :=
 some 0
def k8 (vals : List Int) (x8 : Int) : Option (LR Int (Unit ⊕ Int)) :=
 bif decide (x8 < ((vals.length : Nat) : Int)) then (
  Option.bind (idx vals x8) fun val_e =>
  bif val_e != 0 then (
   some (.done (.inr val_e)))
  else (
   some (.next (w64 (x8 + 1)))))
 else (
  some (.done (.inl ())))
def YM (vals : List Int) : Option Int :=
 Option.bind (loop (fun s => k8 vals s) 0) fun t2 =>
 match t2 with
 | .inl p => Xg
 | .inr p => some p
def xU (a_ : ze) (b_ : ze) : Option Int :=
 Option.bind (uj a_.Kind b_.Kind) fun r_ =>
 Option.bind (uk a_.Label b_.Label) fun r_1 =>
 Option.bind (uk a_.To b_.To) fun r_2 =>
 Option.bind (YM ([r_, r_1, r_2])) fun r_3 =>
 some r_3
def xI (s_ : List ze) : Option (List ze) :=
 some s_
def yQ (k_ : Int) : Option (LR Int (Unit ⊕ List ze)) :=
 some (.next (w64 (k_ + 1)))
def zZ (s_1 : List ze) (k_1 : Int) : Option (LR Int (Unit ⊕ List ze)) :=
 gd ((0 : Int) ≤ k_1 ∧ (k_1 : Int) ≤ ((s_1.length : Nat) : Int)) <|
 gd ((0 : Int) ≤ k_1 ∧ (k_1 : Int) ≤ ((s_1.length : Nat) : Int)) <|
 gd ((0 : Int) ≤ k_1 ∧ (k_1 : Int) ≤ (((s_1.take k_1.toNat ++ List.replicate (s_1.length - k_1.toNat) (ze.mk 0 0 0)).length : Nat) : Int)) <|
 some (.done (.inr ((s_1.take k_1.toNat ++ List.replicate (s_1.length - k_1.toNat) (ze.mk 0 0 0)).take k_1.toNat)))
def zY (k2 : Int) (s_3 : List ze) (k_3 : Int) : Option (LR (List ze × Int × Int) ((List ze × Int))) :=
 some (.next (s_3, k_3, w64 (k2 + 1)))
def zX (k_ : Int) (s_2 : List ze) (k_2 : Int) (k2 : Int) : Option (LR (List ze × Int × Int) ((List ze × Int))) :=
 bif decide (k2 < ((s_2.length - k_.toNat : Nat) : Int)) then (
  gd ((0 : Int) ≤ k_ ∧ (0 : Int) ≤ k2) <|
  Option.bind (idx s_2 (k_ + k2)) fun s__e2 =>
  gd ((0 : Int) ≤ k_ ∧ (0 : Int) ≤ w64 (k2 - 1)) <|
  Option.bind (idx s_2 (k_ + (w64 (k2 - 1)))) fun s__e3 =>
  bif !((s__e2.Kind == s__e3.Kind) && ((s__e2.Label == s__e3.Label) && ((s__e2.To == s__e3.To) && true))) then (
   gd ((0 : Int) ≤ k_ ∧ (0 : Int) ≤ k2) <|
   Option.bind (idx s_2 (k_ + k2)) fun s__e4 =>
   Option.bind (idx s_2 k_2) fun s__e5 =>
   zY k2 (s_2.set k_2.toNat s__e4) (w64 (k_2 + 1)))
  else (
   zY k2 s_2 k_2))
 else (
  some (.done (s_2, k_2)))
def ya (s_ : List ze) (k_ : Int) : Option (LR Int (Unit ⊕ List ze)) :=
 bif decide (k_ < ((s_.length : Nat) : Int)) then (
  Option.bind (idx s_ k_) fun s__e =>
  Option.bind (idx s_ (w64 (k_ - 1))) fun s__e1 =>
  bif (s__e.Kind == s__e1.Kind) && ((s__e.Label == s__e1.Label) && ((s__e.To == s__e1.To) && true)) then (
   gd ((0 : Int) ≤ k_ ∧ (k_ : Int) ≤ ((s_.length : Nat) : Int)) <|
   Option.bind (loop (fun s => zX k_ s.1 s.2.1 s.2.2) (s_, k_, 1)) fun t5 =>
   zZ t5.1 t5.2)
  else (
   yQ k_))
 else (
  some (.done (.inl ())))
def ym (s_ : List ze) : Option (List ze) :=
 bif decide (((s_.length : Nat) : Int) < 2) then (
  some s_)
 else (
  Option.bind (loop (fun s => ya s_ s) 1) fun t2 =>
  match t2 with
  | .inl p => xI s_
  | .inr p => some p)
def yZ (s_ : List ze) : Option (List ze) :=
 gd ((0 : Int) ≤ 0 ∧ (0 : Int) ≤ ((s_.length : Nat) : Int) ∧ (((s_.length : Nat) : Int) : Int) ≤ ((s_.length : Nat) : Int) ∧ (((s_.length : Nat) : Int) : Int) ≤ ((s_.length : Nat) : Int)) <|
 some ((s_.drop 0).take (((s_.length : Nat) : Int).toNat - 0))
def yH (s_ : List (List ze)) : Option (List (List ze)) :=
 gd ((0 : Int) ≤ 0 ∧ (0 : Int) ≤ ((s_.length : Nat) : Int) ∧ (((s_.length : Nat) : Int) : Int) ≤ ((s_.length : Nat) : Int) ∧ (((s_.length : Nat) : Int) : Int) ≤ ((s_.length : Nat) : Int)) <|
 some ((s_.drop 0).take (((s_.length : Nat) : Int).toNat - 0))
def vD (x_ : z6) (out_Rows : List (List ze)) : Option (zC × Int) :=
 Option.bind (yH out_Rows) fun r_3 =>
 some ((zC.mk 0 x_.Labels r_3), 0)
def qj (x51 : Int) (out_Rows2 : List (List ze)) : Option (LR (List (List ze) × Int) (List (List ze) ⊕ (zC × Int))) :=
 some (.next (out_Rows2, w64 (x51 + 1)))
def qh (out_Rows1 : List (List ze)) (x51 : Int) (row : List ze) : Option (LR (List (List ze) × Int) (List (List ze) ⊕ (zC × Int))) :=
 Option.bind (z3D (fun x y => xU x y) row) fun sorted =>
 Option.bind (ym sorted) fun r_4 =>
 Option.bind (yZ r_4) fun r_5 =>
 bif decide (((r_5.length : Nat) : Int) > 256) then (
  some (.done (.inr ((zC.mk 0 0 []), 3))))
 else (
  gd (out_Rows1.length + ([r_5] : List (List ze)).length ≤ 4294967296) <|
  qj x51 (out_Rows1 ++ ([r_5] : List (List ze))))
def wM (row1 : List ze) (x57 : Int) (u__e : z7) (arc_Kind : Int) (arc_Label : Int) : Option (LR (List ze × Int) (List ze)) :=
 gd (row1.length + ([(ze.mk arc_Kind arc_Label u__e.To)] : List ze).length ≤ 4294967296) <|
 some (.next ((row1 ++ ([(ze.mk arc_Kind arc_Label u__e.To)] : List ze)), w64 (x57 + 1)))
def wL (x_ : z6) (hidden : List Int) (u_ : List z7) (row1 : List ze) (x57 : Int) : Option (LR (List ze × Int) (List ze)) :=
 bif decide (x57 < ((u_.length : Nat) : Int)) then (
  Option.bind (idx u_ x57) fun u__e =>
  Option.bind (idx x_.Parts u__e.Move.Part) fun Part_e =>
  Option.bind (idx Part_e.Arcs u__e.Move.Arc) fun Arc_e =>
  Option.bind (x5 hidden Arc_e.Message) fun r_6 =>
  bif Arc_e.Kind == 0 then (
   bif !r_6.2 then (
    wM row1 x57 u__e 2 Arc_e.Message)
   else (
    wM row1 x57 u__e 0 0))
  else (
   wM row1 x57 u__e 0 0))
 else (
  some (.done row1))
def vC (x_ : z6) (hidden : List Int) (r_2 : List za × List (List z7) × Int) (out_Rows1 : List (List ze)) (x51 : Int) : Option (LR (List (List ze) × Int) (List (List ze) ⊕ (zC × Int))) :=
 bif decide (x51 < ((r_2.2.1.length : Nat) : Int)) then (
  Option.bind (idx r_2.2.1 x51) fun u_ =>
  Option.bind (loop (fun s => wL x_ hidden u_ s.1 s.2) (([] : List ze), 0)) fun t5 =>
  qh out_Rows1 x51 t5)
 else (
  some (.done (.inl out_Rows1)))
def yu (x_ : z6) (hidden : List Int) : Option (zC × Int) :=
 Option.bind (wa x_) fun r_ =>
 bif r_ != 0 then (
  some ((zC.mk 0 0 []), r_))
 else (
  Option.bind (v6 hidden x_.Labels) fun r_1 =>
  bif !r_1 then (
   some ((zC.mk 0 0 []), 1))
  else (
   Option.bind (yP x_) fun r_2 =>
   bif r_2.2.2 != 0 then (
    some ((zC.mk 0 0 []), r_2.2.2))
   else (
    bif decide (((r_2.1.length : Nat) : Int) > 64) then (
     some ((zC.mk 0 0 []), 3))
    else (
     Option.bind (loop (fun s => vC x_ hidden r_2 s.1 s.2) (([] : List (List ze)), 0)) fun t2 =>
     match t2 with
     | .inl p => vD x_ p
     | .inr p => some p))))
def kW : Option Int :=
 some 1
def kV (i_ : Int) : Option (LR Int (Unit ⊕ Int)) :=
 some (.next (w64 (i_ + 1)))
def kT (a_ : zC) (b_ : zC) (i_ : Int) (k_ : Int) : Option (LR Int (Unit ⊕ Int)) :=
 Option.bind (idx a_.Rows i_) fun Row_e2 =>
 bif decide (k_ < ((Row_e2.length : Nat) : Int)) then (
  Option.bind (idx a_.Rows i_) fun Row_e3 =>
  Option.bind (idx Row_e3 k_) fun Row_e_e =>
  Option.bind (idx b_.Rows i_) fun Row_e4 =>
  Option.bind (idx Row_e4 k_) fun Row_e_e1 =>
  bif !((Row_e_e.Kind == Row_e_e1.Kind) && ((Row_e_e.Label == Row_e_e1.Label) && ((Row_e_e.To == Row_e_e1.To) && true))) then (
   some (.done (.inr 0)))
  else (
   some (.next (w64 (k_ + 1)))))
 else (
  some (.done (.inl ())))
def kU (a_ : zC) (b_ : zC) (i_ : Int) : Option (LR Int (Unit ⊕ Int)) :=
 bif decide (i_ < ((a_.Rows.length : Nat) : Int)) then (
  Option.bind (idx a_.Rows i_) fun Row_e =>
  Option.bind (idx b_.Rows i_) fun Row_e1 =>
  bif ((Row_e.length : Nat) : Int) != ((Row_e1.length : Nat) : Int) then (
   some (.done (.inr 0)))
  else (
   Option.bind (loop (fun s => kT a_ b_ i_ s) 0) fun t4 =>
   match t4 with
   | .inl p => kV i_
   | .inr p => some (.done (.inr p))))
 else (
  some (.done (.inl ())))
def Ze (a_ : zC) (b_ : zC) : Option Int :=
 bif a_.Inputs != b_.Inputs then (
  some 0)
 else (
  bif a_.Outputs != b_.Outputs then (
   some 0)
  else (
   bif ((a_.Rows.length : Nat) : Int) != ((b_.Rows.length : Nat) : Int) then (
    some 0)
   else (
    Option.bind (loop (fun s => kU a_ b_ s) 0) fun t2 =>
    match t2 with
    | .inl p => kW
    | .inr p => some p)))
def uI : Option Int :=
 some (-1)
def uH (s_ : List Int) (v_ : Int) (x8 : Int) : Option (LR Int (Unit ⊕ Int)) :=
 bif decide (x8 < ((s_.length : Nat) : Int)) then (
  Option.bind (idx s_ x8) fun s__e =>
  bif v_ == s__e then (
   some (.done (.inr x8)))
  else (
   some (.next (w64 (x8 + 1)))))
 else (
  some (.done (.inl ())))
def j4 (s_ : List Int) (v_ : Int) : Option Int :=
 Option.bind (loop (fun s => uH s_ v_ s) 0) fun t2 =>
 match t2 with
 | .inl p => uI
 | .inr p => some p
def uJ (s_ : List Int) (v_ : Int) : Option Bool :=
 Option.bind (j4 s_ v_) fun r_ =>
 some (decide (r_ ≥ 0))
def uw (s_ : za) : Option Bool :=
 some ((s_.queues_.e0.many_ == 0) && ((s_.queues_.e0.l_.e0 == 0) && ((s_.queues_.e0.l_.e1 == 0) && ((s_.queues_.e0.l_.e2 == 0) && ((s_.queues_.e0.l_.e3 == 0) && ((s_.queues_.e1.many_ == 0) && ((s_.queues_.e1.l_.e0 == 0) && ((s_.queues_.e1.l_.e1 == 0) && ((s_.queues_.e1.l_.e2 == 0) && ((s_.queues_.e1.l_.e3 == 0) && ((s_.queues_.e2.many_ == 0) && ((s_.queues_.e2.l_.e0 == 0) && ((s_.queues_.e2.l_.e1 == 0) && ((s_.queues_.e2.l_.e2 == 0) && ((s_.queues_.e2.l_.e3 == 0) && ((s_.queues_.e3.many_ == 0) && ((s_.queues_.e3.l_.e0 == 0) && ((s_.queues_.e3.l_.e1 == 0) && ((s_.queues_.e3.l_.e2 == 0) && ((s_.queues_.e3.l_.e3 == 0) && true))))))))))))))))))))
def uv (x_ : z6) (s_ : za) (x10 : Int) : Option (LR Int (Unit ⊕ Bool)) :=
 bif decide (x10 < ((x_.Parts.length : Nat) : Int)) then (
  Option.bind (idx x_.Parts x10) fun Part_e =>
  Option.bind (idx (zF.toL s_.states_) x10) fun cell =>
  Option.bind (uJ Part_e.Final cell) fun r_ =>
  bif !r_ then (
   some (.done (.inr false)))
  else (
   some (.next (w64 (x10 + 1)))))
 else (
  some (.done (.inl ())))
def qY (x_ : z6) (s_ : za) : Option Bool :=
 Option.bind (loop (fun s => uv x_ s_ s) 0) fun t2 =>
 match t2 with
 | .inl p => uw s_
 | .inr p => some p
def xj (s_1 : List zc) (i_ : Int) (j_ : Int) : Option (LR (List zc × Int × Int) (List zc)) :=
 bif decide (i_ < j_) then (
  Option.bind (idx s_1 j_) fun s__e =>
  Option.bind (idx s_1 i_) fun s__e1 =>
  Option.bind (idx s_1 i_) fun s__e2 =>
  Option.bind (idx (s_1.set i_.toNat s__e) j_) fun u_e =>
  some (.next (((s_1.set i_.toNat s__e).set j_.toNat s__e1), w64 (i_ + 1), w64 (j_ - 1))))
 else (
  some (.done s_1))
def xA (s_ : List zc) : Option (List zc) :=
 Option.bind (loop (fun s => xj s.1 s.2.1 s.2.2) (s_, 0, w64 (((s_.length : Nat) : Int) - 1))) fun t1 =>
 some t1
def yc (s_ : List zc) : Option (List zc) :=
 gd ((0 : Int) ≤ 0 ∧ (0 : Int) ≤ ((s_.length : Nat) : Int) ∧ (((s_.length : Nat) : Int) : Int) ≤ ((s_.length : Nat) : Int) ∧ (((s_.length : Nat) : Int) : Int) ≤ ((s_.length : Nat) : Int)) <|
 some ((s_.drop 0).take (((s_.length : Nat) : Int).toNat - 0))
def jv : Option (List zc × z8 × Int) :=
 some (([] : List zc), (z8.mk [] []), 7)
def uB (x69 : Int) : Option (LR Int (Unit ⊕ (List zc × z8 × Int))) :=
 some (.next (w64 (x69 + 1)))
def ju (x_ : z6) (r_1 : List za × List (List z7) × Int) (x69 : Int) (run : List zc) : Option (LR Int (Unit ⊕ (List zc × z8 × Int))) :=
 Option.bind (xA run) fun r_3 =>
 Option.bind (yc r_3) fun r_4 =>
 Option.bind (idx r_1.1 x69) fun u_2 =>
 Option.bind (xD x_ u_2) fun r_5 =>
 some (.done (.inr (r_4, r_5, 0)))
def jr (by_ : List zt) (run1 : List zc) (n_ : Int) : Option (LR (List zc × Int) (List zc)) :=
 bif decide (n_ > 0) then (
  Option.bind (idx by_ n_) fun by__e =>
  gd (run1.length + ([by__e.move_] : List zc).length ≤ 4294967296) <|
  Option.bind (idx by_ n_) fun by__e1 =>
  some (.next ((run1 ++ ([by__e.move_] : List zc)), by__e1.from_)))
 else (
  some (.done run1))
def js (x_ : z6) (r_1 : List za × List (List z7) × Int) (by_ : List zt) (x69 : Int) : Option (LR Int (Unit ⊕ (List zc × z8 × Int))) :=
 bif decide (x69 < ((r_1.2.1.length : Nat) : Int)) then (
  Option.bind (idx r_1.2.1 x69) fun u_ =>
  bif decide (((u_.length : Nat) : Int) > 0) then (
   uB x69)
  else (
   Option.bind (idx r_1.1 x69) fun u_1 =>
   Option.bind (qY x_ u_1) fun r_2 =>
   bif r_2 then (
    uB x69)
   else (
    Option.bind (loop (fun s => jr by_ s.1 s.2) (([] : List zc), x69)) fun t6 =>
    ju x_ r_1 x69 t6)))
 else (
  some (.done (.inl ())))
def jw (x_ : z6) (r_1 : List za × List (List z7) × Int) (by_ : List zt) : Option (List zc × z8 × Int) :=
 Option.bind (loop (fun s => js x_ r_1 by_ s) 0) fun t3 =>
 match t3 with
 | .inl p => jv
 | .inr p => some p
def jt (x40 : Int) (by_2 : List zt) (seen1 : Int) : Option (LR (List zt × Int × Int) (List zt)) :=
 some (.next (by_2, seen1, w64 (x40 + 1)))
def vZ (x47 : Int) (by_4 : List zt) (seen3 : Int) : Option (LR (List zt × Int × Int) ((List zt × Int))) :=
 some (.next (by_4, seen3, w64 (x47 + 1)))
def jp (x40 : Int) (u_3 : List z7) (by_3 : List zt) (seen2 : Int) (x47 : Int) : Option (LR (List zt × Int × Int) ((List zt × Int))) :=
 bif decide (x47 < ((u_3.length : Nat) : Int)) then (
  Option.bind (idx u_3 x47) fun u__e =>
  bif u__e.To == seen2 then (
   Option.bind (idx by_3 u__e.To) fun by__e2 =>
   vZ x47 (by_3.set u__e.To.toNat (zt.mk x40 u__e.Move)) (w64 (seen2 + 1)))
  else (
   vZ x47 by_3 seen2))
 else (
  some (.done (by_3, seen2)))
def jq (r_1 : List za × List (List z7) × Int) (by_1 : List zt) (seen : Int) (x40 : Int) : Option (LR (List zt × Int × Int) (List zt)) :=
 bif decide (x40 < ((r_1.2.1.length : Nat) : Int)) then (
  Option.bind (idx r_1.2.1 x40) fun u_3 =>
  Option.bind (loop (fun s => jp x40 u_3 s.1 s.2.1 s.2.2) (by_1, seen, 0)) fun t9 =>
  jt x40 t9.1 t9.2)
 else (
  some (.done by_1))
def wQ (x_ : z6) : Option (List zc × z8 × Int) :=
 Option.bind (wa x_) fun r_ =>
 bif r_ != 0 then (
  some (([] : List zc), (z8.mk [] []), r_))
 else (
  Option.bind (yP x_) fun r_1 =>
  bif r_1.2.2 != 0 then (
   some (([] : List zc), (z8.mk [] []), r_1.2.2))
  else (
   gd ((0 : Int) ≤ ((r_1.1.length : Nat) : Int) ∧ (((r_1.1.length : Nat) : Int) : Int) ≤ 4294967296) <|
   Option.bind (loop (fun s => jq r_1 s.1 s.2.1 s.2.2) ((List.replicate ((r_1.1.length : Nat) : Int).toNat (zt.mk 0 (zc.mk 0 0 0 0))), 1, 0)) fun t7 =>
   jw x_ r_1 t7))
def Ym : Option Int :=
 some 1
def Yl (a_ : List zc) (b_ : List zc) (i_ : Int) : Option (LR Int (Unit ⊕ Int)) :=
 bif decide (i_ < ((a_.length : Nat) : Int)) then (
  Option.bind (idx a_ i_) fun a__e =>
  Option.bind (idx b_ i_) fun b__e =>
  bif !((a__e.Part == b__e.Part) && ((a__e.Arc == b__e.Arc) && ((a__e.Other == b__e.Other) && ((a__e.With == b__e.With) && true)))) then (
   some (.done (.inr 0)))
  else (
   some (.next (w64 (i_ + 1)))))
 else (
  some (.done (.inl ())))
def WT (a_ : List zc) (b_ : List zc) : Option Int :=
 bif ((a_.length : Nat) : Int) != ((b_.length : Nat) : Int) then (
  some 0)
 else (
  bif ((a_.length : Nat) : Int) != ((a_.length : Nat) : Int) then (
   some 0)
  else (
   Option.bind (loop (fun s => Yl a_ b_ s) 0) fun t2 =>
   match t2 with
   | .inl p => Ym
   | .inr p => some p))
def wS : Option Bool :=
 Option.bind (YK 1 ([(zf.mk 0 2 0 0 0)])) fun r_ =>
 Option.bind (uA r_) fun r_1 =>
 Option.bind (vJ 0 0 []) fun r_2 =>
 Option.bind (vJ 1 0 ([0])) fun r_3 =>
 Option.bind (vJ 0 0 ([0])) fun r_4 =>
 Option.bind (vJ 1 0 []) fun r_5 =>
 Option.bind (uW 0 0) fun r_6 =>
 Option.bind (uW 0 1) fun r_7 =>
 Option.bind (uW 1 0) fun r_8 =>
 Option.bind (uW 1 0) fun r_9 =>
 Option.bind (uW 0 1) fun r_10 =>
 bif r_1.2.2 != 0 then (
  some false)
 else (
  Option.bind (X9 r_1.1 r_1.2.1 ([r_2, r_3, r_4, r_5]) ([[(z7.mk r_6 1)], [(z7.mk r_7 2), (z7.mk r_8 3)], [(z7.mk r_9 0)], [(z7.mk r_10 0)]])) fun r_11 =>
  bif r_11 == 0 then (
   some false)
  else (
   Option.bind (yu r_ []) fun r_12 =>
   Option.bind (yu r_ ([0])) fun r_13 =>
   bif r_12.2 != 0 then (
    some false)
   else (
    bif r_13.2 != 0 then (
     some false)
    else (
     Option.bind (Ze r_12.1 (zC.mk 0 1 ([[(ze.mk 0 0 1)], [(ze.mk 0 0 3), (ze.mk 2 0 2)], [(ze.mk 0 0 0)], [(ze.mk 2 0 0)]]))) fun r_14 =>
     Option.bind (Ze r_13.1 (zC.mk 0 1 ([[(ze.mk 0 0 1)], [(ze.mk 0 0 2), (ze.mk 0 0 3)], [(ze.mk 0 0 0)], [(ze.mk 0 0 0)]]))) fun r_15 =>
     bif (w64 (r_14 * r_15)) == 0 then (
      some false)
     else (
      Option.bind (wQ r_) fun r_16 =>
      Option.bind (YK 1 []) fun r_17 =>
      Option.bind (wQ r_17) fun r_18 =>
      Option.bind (YK 0 ([(zf.mk 0 2 0 0 0)])) fun r_19 =>
      Option.bind (uA r_19) fun r_20 =>
      bif r_16.2.2 != 7 then (
       some false)
      else (
       bif r_18.2.2 != 0 then (
        some false)
       else (
        Option.bind (uW 0 0) fun r_21 =>
        Option.bind (uW 0 1) fun r_22 =>
        Option.bind (WT r_18.1 ([r_21, r_22])) fun r_23 =>
        bif r_23 == 0 then (
         some false)
        else (
         Option.bind (vJ 0 0 ([0])) fun r_24 =>
         Option.bind (Wh r_18.2.1 r_24) fun r_25 =>
         bif r_25 == 0 then (
          some false)
         else (
          bif r_20.2.2 != 0 then (
           some false)
          else (
           Option.bind (vJ 0 0 []) fun r_26 =>
           Option.bind (vJ 1 0 []) fun r_27 =>
           Option.bind (uW 0 1) fun r_28 =>
           Option.bind (X9 r_20.1 r_20.2.1 ([r_26, r_27]) ([[(z7.mk (zc.mk 0 0 1 0) 1)], [(z7.mk r_28 0)]])) fun r_29 =>
           some (r_29 == 1)))))))))))
def Zy : Option Int :=
 some 0
def jm (n_ : Int) (many : Int) : Option Int :=
 bif decide (n_ ≥ 0) then (
  bif decide (n_ < many) then (
   some 1)
  else (
   Zy))
 else (
  Zy)
def Zz : Option Int :=
 some 1
def qH (i_ : Int) (x33 : Bool) : Option (LR Int (Unit ⊕ Int)) :=
 some (.next (w64 (i_ + 1)))
def qG (l_ : List Int) (many : Int) (i_ : Int) : Option (LR Int (Unit ⊕ Int)) :=
 bif decide (i_ < ((l_.length : Nat) : Int)) then (
  Option.bind (idx l_ i_) fun l__e =>
  Option.bind (jm l__e many) fun r_ =>
  bif r_ == 0 then (
   some (.done (.inr 0)))
  else (
   bif decide (i_ > 0) then (
    Option.bind (idx l_ i_) fun l__e1 =>
    Option.bind (idx l_ (w64 (i_ - 1))) fun l__e2 =>
    bif decide (l__e1 ≤ l__e2) then (
     some (.done (.inr 0)))
    else (
     qH i_ (decide (l__e1 ≤ l__e2))))
   else (
    qH i_ false)))
 else (
  some (.done (.inl ())))
def jA (l_ : List Int) (many : Int) : Option Int :=
 Option.bind (loop (fun s => qG l_ many s) 0) fun t2 =>
 match t2 with
 | .inl p => Zz
 | .inr p => some p
def ky (wrong2 : Int) : Option Int :=
 bif wrong2 == 1 then (
  some 1)
 else (
  some 0)
def kx (i_ : Int) (wrong4 : Int) : Option (LR (Int × Int) Int) :=
 some (.next (wrong4, w64 (i_ + 1)))
def uV (k_ : Int) (wrong7 : Int) : Option (LR (Int × Int) Int) :=
 some (.next (wrong7, w64 (k_ + 1)))
def vb (Part_e : zk) (wrong6 : Int) (k_ : Int) (Arc_e : zf) (fits : Int) : Option (LR (Int × Int) Int) :=
 bif decide (Arc_e.Kind > 2) then (
  uV k_ 1)
 else (
  Option.bind (jm Arc_e.From Part_e.States) fun r_2 =>
  Option.bind (jm Arc_e.To Part_e.States) fun r_3 =>
  bif (w64 ((w64 (r_2 * r_3)) * fits)) == 0 then (
   uV k_ 1)
  else (
   uV k_ wrong6))
def j8 (x_ : z6) (Part_e : zk) (wrong6 : Int) (k_ : Int) : Option (LR (Int × Int) Int) :=
 bif decide (k_ < ((Part_e.Arcs.length : Nat) : Int)) then (
  Option.bind (idx Part_e.Arcs k_) fun Arc_e =>
  Option.bind (jm Arc_e.Channel ((x_.Channels.length : Nat) : Int)) fun r_ =>
  Option.bind (jm Arc_e.Message x_.Messages) fun r_1 =>
  bif Arc_e.Kind == 0 then (
   Option.bind (jm Arc_e.Message x_.Labels) fun r_4 =>
   bif Arc_e.Channel != 0 then (
    vb Part_e wrong6 k_ Arc_e 0)
   else (
    vb Part_e wrong6 k_ Arc_e r_4))
  else (
   vb Part_e wrong6 k_ Arc_e (w64 (r_ * r_1))))
 else (
  some (.done wrong6))
def vR (x_ : z6) (i_ : Int) (Part_e : zk) (wrong5 : Int) : Option (LR (Int × Int) Int) :=
 Option.bind (loop (fun s => j8 x_ Part_e s.1 s.2) (wrong5, 0)) fun t8 =>
 kx i_ t8
def j9 (x_ : z6) (wrong3 : Int) (i_ : Int) : Option (LR (Int × Int) Int) :=
 bif decide (i_ < ((x_.Parts.length : Nat) : Int)) then (
  Option.bind (idx x_.Parts i_) fun Part_e =>
  bif decide (Part_e.States < 1) then (
   vR x_ i_ Part_e 1)
  else (
   Option.bind (jA Part_e.Final Part_e.States) fun r_5 =>
   bif r_5 == 0 then (
    vR x_ i_ Part_e 1)
   else (
    vR x_ i_ Part_e wrong3)))
 else (
  some (.done wrong3))
def v7 (x_ : z6) (wrong1 : Int) : Option Int :=
 Option.bind (loop (fun s => j9 x_ s.1 s.2) (wrong1, 0)) fun t5 =>
 ky t5
def ja (x_ : z6) (wrong : Int) : Option Int :=
 bif decide (x_.Messages < 0) then (
  v7 x_ 1)
 else (
  bif decide (x_.Labels < 0) then (
   v7 x_ 1)
  else (
   bif ((x_.Parts.length : Nat) : Int) == 0 then (
    v7 x_ 1)
   else (
    v7 x_ wrong)))
def qN (x_ : z6) (i_1 : Int) : Option (LR Int (Unit ⊕ Int)) :=
 bif decide (i_1 < ((x_.Parts.length : Nat) : Int)) then (
  Option.bind (idx x_.Parts i_1) fun Part_e1 =>
  bif decide (Part_e1.States > 64) then (
   some (.done (.inr 3)))
  else (
   Option.bind (idx x_.Parts i_1) fun Part_e2 =>
   bif decide (((Part_e2.Arcs.length : Nat) : Int) > 256) then (
    some (.done (.inr 3)))
   else (
    some (.next (w64 (i_1 + 1))))))
 else (
  some (.done (.inl ())))
def jb (x_ : z6) (wrong : Int) : Option Int :=
 Option.bind (loop (fun s => qN x_ s) 0) fun t11 =>
 match t11 with
 | .inl p => ja x_ wrong
 | .inr p => some p
def qO (i_2 : Int) (wrong9 : Int) : Option (LR (Int × Int) (Int ⊕ Int)) :=
 some (.next (wrong9, w64 (i_2 + 1)))
def qM (x_ : z6) (wrong8 : Int) (i_2 : Int) : Option (LR (Int × Int) (Int ⊕ Int)) :=
 bif decide (i_2 < ((x_.Channels.length : Nat) : Int)) then (
  Option.bind (idx x_.Channels i_2) fun Channel_e =>
  bif decide (Channel_e > 4) then (
   some (.done (.inr 3)))
  else (
   Option.bind (idx x_.Channels i_2) fun Channel_e1 =>
   bif decide (Channel_e1 < 0) then (
    qO i_2 1)
   else (
    qO i_2 wrong8)))
 else (
  some (.done (.inl wrong8)))
def ZB (x_ : z6) : Option Int :=
 bif decide (x_.Messages > 16) then (
  some 3)
 else (
  bif decide (x_.Labels > 16) then (
   some 3)
  else (
   bif decide (((x_.Channels.length : Nat) : Int) > 4) then (
    some 3)
   else (
    bif decide (((x_.Parts.length : Nat) : Int) > 4) then (
     some 3)
    else (
     Option.bind (loop (fun s => qM x_ s.1 s.2) (0, 0)) fun t12 =>
     match t12 with
     | .inl p => jb x_ p
     | .inr p => some p))))
def vE (m_ : Int) (x1 : z6) : Option Bool :=
 Option.bind (vq m_ x1.Messages) fun r_ =>
 some (!r_)
def wt : Option Int :=
 some (-1)
def yT (s_ : List Int) (f_ : z6) (x8 : Int) : Option (LR Int (Unit ⊕ Int)) :=
 bif decide (x8 < ((s_.length : Nat) : Int)) then (
  Option.bind (idx s_ x8) fun s__e =>
  Option.bind (vE s__e f_) fun r_ =>
  bif r_ then (
   some (.done (.inr x8)))
  else (
   some (.next (w64 (x8 + 1)))))
 else (
  some (.done (.inl ())))
def xY (s_ : List Int) (f_ : z6) : Option Int :=
 Option.bind (loop (fun s => yT s_ f_ s) 0) fun t2 =>
 match t2 with
 | .inl p => wt
 | .inr p => some p
def yW (s_ : List Int) (f_ : z6) : Option Bool :=
 Option.bind (xY s_ f_) fun r_ =>
 some (decide (r_ ≥ 0))
def uX : Option Int :=
 some 0
def xw (x_ : z6) (c_ : z8) (x52 : Int) : Option (LR Int (Unit ⊕ Int)) :=
 bif decide (x52 < ((c_.Queues.length : Nat) : Int)) then (
  Option.bind (idx c_.Queues x52) fun Queue_e =>
  Option.bind (idx x_.Channels x52) fun Channel_e =>
  bif decide (((Queue_e.length : Nat) : Int) > Channel_e) then (
   some (.done (.inr 1)))
  else (
   Option.bind (yW Queue_e x_) fun r_1 =>
   bif r_1 then (
    some (.done (.inr 1)))
   else (
    some (.next (w64 (x52 + 1))))))
 else (
  some (.done (.inl ())))
def xx (x_ : z6) (c_ : z8) : Option Int :=
 Option.bind (loop (fun s => xw x_ c_ s) 0) fun t3 =>
 match t3 with
 | .inl p => uX
 | .inr p => some p
def xv (x_ : z6) (c_ : z8) (x34 : Int) : Option (LR Int (Unit ⊕ Int)) :=
 bif decide (x34 < ((x_.Parts.length : Nat) : Int)) then (
  Option.bind (idx x_.Parts x34) fun Part_e =>
  Option.bind (idx c_.States x34) fun State_e =>
  Option.bind (vq State_e Part_e.States) fun r_2 =>
  bif !r_2 then (
   some (.done (.inr 1)))
  else (
   some (.next (w64 (x34 + 1)))))
 else (
  some (.done (.inl ())))
def yk (x_ : z6) (c_ : z8) : Option Int :=
 Option.bind (wa x_) fun r_ =>
 bif r_ != 0 then (
  some r_)
 else (
  bif ((c_.States.length : Nat) : Int) != ((x_.Parts.length : Nat) : Int) then (
   some 1)
  else (
   bif ((c_.Queues.length : Nat) : Int) != ((x_.Channels.length : Nat) : Int) then (
    some 1)
   else (
    Option.bind (loop (fun s => xv x_ c_ s) 0) fun t4 =>
    match t4 with
    | .inl p => xx x_ c_
    | .inr p => some p)))
def kL (arr : zF Int) (s_queues : zF zg) : Option za :=
 some (za.mk arr s_queues)
def jh (x15 : Int) (s_queues2 : zF zg) : Option (LR (zF zg × Int) (zF zg)) :=
 some (.next (s_queues2, w64 (x15 + 1)))
def wO (x15 : Int) (Queue_e : List Int) (s_queues3 : zF zg) (x22 : Int) : Option (LR (zF zg × Int) (zF zg)) :=
 bif decide (x22 < ((Queue_e.length : Nat) : Int)) then (
  Option.bind (idx Queue_e x22) fun Queue_e_e =>
  Option.bind (idx (zF.toL s_queues3) x15) fun cell =>
  Option.bind (u9 cell Queue_e_e) fun r_ =>
  Option.bind (idx (zF.toL s_queues3) x15) fun cell1 =>
  Option.bind (some (zF.setI s_queues3 x15 r_)) fun arr1 =>
  some (.next (arr1, w64 (x22 + 1))))
 else (
  some (.done s_queues3))
def vp (c_ : z8) (s_queues1 : zF zg) (x15 : Int) : Option (LR (zF zg × Int) (zF zg)) :=
 bif decide (x15 < ((c_.Queues.length : Nat) : Int)) then (
  Option.bind (idx c_.Queues x15) fun Queue_e =>
  Option.bind (loop (fun s => wO x15 Queue_e s.1 s.2) (s_queues1, 0)) fun t4 =>
  jh x15 t4)
 else (
  some (.done s_queues1))
def qQ (c_ : z8) : Option za :=
 Option.bind (some (zF.ofL (cpA (zF.toL (zF.mk 0 0 0 0)) 0 c_.States) (zF.mk 0 0 0 0))) fun arr =>
 Option.bind (loop (fun s => vp c_ s.1 s.2) ((zF.mk (zg.mk 0 (zF.mk 0 0 0 0)) (zg.mk 0 (zF.mk 0 0 0 0)) (zg.mk 0 (zF.mk 0 0 0 0)) (zg.mk 0 (zF.mk 0 0 0 0))), 0)) fun t2 =>
 kL arr t2
def uQ (out : List zc) : Option (List zc × Int) :=
 Option.bind (yc out) fun r_1 =>
 some (r_1, 0)
def wP (out1 : List zc) (x19 : zc) (x20 : za) : Option (LR (List zc) Empty) :=
 gd (out1.length + ([x19] : List zc).length ≤ 4294967296) <|
 some (.next (out1 ++ ([x19] : List zc)))
def wY (x_ : z6) (c_ : z8) : Option (List zc × Int) :=
 Option.bind (yk x_ c_) fun r_ =>
 bif r_ != 0 then (
  some (([] : List zc), r_))
 else (
  Option.bind (qQ c_) fun r_2 =>
  Option.bind (xr x_ r_2) fun r_3 =>
  Option.bind (y9 r_3.1 r_3.2 (yOf (fun s x => wP s x.1 x.2)) (.next ([] : List zc))) fun t2 =>
  match t2 with
  | .next out1 => (
   uQ out1)
  | .done z => nomatch z)
def YS (x6_States : List Int) (x6_Queues : List (List Int)) : Option (z8 × Int) :=
 some ((z8.mk [] []), 7)
def wD (x_ : z6) (m_ : zc) (x6_States1 : List Int) (x6_Queues1 : List (List Int)) (x22 : zc) (x23 : za) : Option (LR (List Int × List (List Int)) ((List Int × List (List Int)))) :=
 bif (x22.Part == m_.Part) && ((x22.Arc == m_.Arc) && ((x22.Other == m_.Other) && ((x22.With == m_.With) && true))) then (
  Option.bind (xD x_ x23) fun r_3 =>
  some (.done (r_3.States, r_3.Queues)))
 else (
  some (.next (x6_States1, x6_Queues1)))
def ub (x_ : z6) (c_ : z8) (m_ : zc) : Option (z8 × Int) :=
 Option.bind (yk x_ c_) fun r_ =>
 bif r_ != 0 then (
  some ((z8.mk [] []), r_))
 else (
  Option.bind (qQ c_) fun r_1 =>
  Option.bind (xr x_ r_1) fun r_2 =>
  Option.bind (y9 r_2.1 r_2.2 (yOf (fun s x => wD x_ m_ s.1 s.2 x.1 x.2)) (.next (([] : List Int), ([] : List (List Int))))) fun t2 =>
  match t2 with
  | .next (x6_States1, x6_Queues1) => (
   YS x6_States1 x6_Queues1)
  | .done (x6_States1, x6_Queues1) => (
   some ((z8.mk x6_States1 x6_Queues1), 0)))
def ZA : Option Int :=
 some 1
def jZ (i_ : Int) : Option (LR Int (Unit ⊕ Int)) :=
 some (.next (w64 (i_ + 1)))
def qJ (x_ : z6) (c_ : z8) (i_ : Int) (k_ : Int) : Option (LR Int (Unit ⊕ Int)) :=
 Option.bind (idx c_.Queues i_) fun Queue_e1 =>
 bif decide (k_ < ((Queue_e1.length : Nat) : Int)) then (
  Option.bind (idx c_.Queues i_) fun Queue_e2 =>
  Option.bind (idx Queue_e2 k_) fun Queue_e_e =>
  Option.bind (jm Queue_e_e x_.Messages) fun r_ =>
  bif r_ == 0 then (
   some (.done (.inr 0)))
  else (
   some (.next (w64 (k_ + 1)))))
 else (
  some (.done (.inl ())))
def qK (x_ : z6) (c_ : z8) (i_ : Int) : Option (LR Int (Unit ⊕ Int)) :=
 bif decide (i_ < ((c_.Queues.length : Nat) : Int)) then (
  Option.bind (idx c_.Queues i_) fun Queue_e =>
  Option.bind (idx x_.Channels i_) fun Channel_e =>
  bif decide (((Queue_e.length : Nat) : Int) > Channel_e) then (
   some (.done (.inr 0)))
  else (
   Option.bind (loop (fun s => qJ x_ c_ i_ s) 0) fun t5 =>
   match t5 with
   | .inl p => jZ i_
   | .inr p => some (.done (.inr p))))
 else (
  some (.done (.inl ())))
def qL (x_ : z6) (c_ : z8) : Option Int :=
 Option.bind (loop (fun s => qK x_ c_ s) 0) fun t3 =>
 match t3 with
 | .inl p => ZA
 | .inr p => some p
def qI (x_ : z6) (c_ : z8) (i_1 : Int) : Option (LR Int (Unit ⊕ Int)) :=
 bif decide (i_1 < ((c_.States.length : Nat) : Int)) then (
  Option.bind (idx c_.States i_1) fun State_e =>
  Option.bind (idx x_.Parts i_1) fun Part_e =>
  Option.bind (jm State_e Part_e.States) fun r_1 =>
  bif r_1 == 0 then (
   some (.done (.inr 0)))
  else (
   some (.next (w64 (i_1 + 1)))))
 else (
  some (.done (.inl ())))
def kF (x_ : z6) (c_ : z8) : Option Int :=
 bif ((c_.States.length : Nat) : Int) != ((x_.Parts.length : Nat) : Int) then (
  some 0)
 else (
  bif ((c_.Queues.length : Nat) : Int) != ((x_.Channels.length : Nat) : Int) then (
   some 0)
  else (
   Option.bind (loop (fun s => qI x_ c_ s) 0) fun t6 =>
   match t6 with
   | .inl p => qL x_ c_
   | .inr p => some p))
def yK (x_ : z6) (hidden : List Int) (r_11 : zC × Int) : Option Bool :=
 Option.bind (jA hidden x_.Labels) fun r_15 =>
 bif r_15 == 0 then (
  bif r_11.2 == 1 then (
   bif ((r_11.1.Rows.length : Nat) : Int) == 0 then (
    Option.bind (wS) fun r_16 =>
    some r_16)
   else (
    some false))
  else (
   some false))
 else (
  bif r_11.2 == 0 then (
   Option.bind (wS) fun r_17 =>
   some r_17)
  else (
   bif r_11.2 == 3 then (
    bif ((r_11.1.Rows.length : Nat) : Int) == 0 then (
     Option.bind (wS) fun r_18 =>
     some r_18)
    else (
     some false))
   else (
    some false)))
def yM (x_ : z6) (hidden : List Int) (r_8 : List zc × Int) (r_9 : z8 × Int) (r_10 : Int) (r_11 : zC × Int) (bad : Int) : Option Bool :=
 bif r_10 != bad then (
  some false)
 else (
  bif r_8.2 != bad then (
   some false)
  else (
   bif bad != 0 then (
    bif r_9.2 != bad then (
     some false)
    else (
     bif ((r_8.1.length : Nat) : Int) != 0 then (
      some false)
     else (
      bif bad == 0 then (
       bif r_9.2 != 7 then (
        some false)
       else (
        yK x_ hidden r_11))
      else (
       yK x_ hidden r_11))))
   else (
    bif bad == 0 then (
     bif r_9.2 != 7 then (
      some false)
     else (
      yK x_ hidden r_11))
    else (
     yK x_ hidden r_11))))
def wo (x_ : z6) (c_ : z8) (hidden : List Int) (n_ : Int) : Option Bool :=
 Option.bind (ZB x_) fun r_5 =>
 bif decide (n_ > 40) then (
  Option.bind (wS) fun r_6 =>
  some r_6)
 else (
  Option.bind (wa x_) fun r_7 =>
  bif r_7 != r_5 then (
   some false)
  else (
   Option.bind (wY x_ c_) fun r_8 =>
   Option.bind (ub x_ c_ (zc.mk (-1) 0 0 0)) fun r_9 =>
   Option.bind (yk x_ c_) fun r_10 =>
   Option.bind (yu x_ hidden) fun r_11 =>
   bif r_5 != 0 then (
    Option.bind (uA x_) fun r_12 =>
    Option.bind (wQ x_) fun r_13 =>
    bif r_8.2 == r_5 then (
     bif r_9.2 == r_5 then (
      bif r_10 == r_5 then (
       bif r_11.2 == r_5 then (
        bif r_12.2.2 == r_5 then (
         bif r_13.2.2 == r_5 then (
          bif (w64 ((w64 ((w64 ((w64 ((w64 ((w64 (((r_8.1.length : Nat) : Int) + ((r_9.1.States.length : Nat) : Int))) + ((r_11.1.Rows.length : Nat) : Int))) + ((r_12.1.length : Nat) : Int))) + ((r_12.2.1.length : Nat) : Int))) + ((r_13.1.length : Nat) : Int))) + ((r_13.2.1.States.length : Nat) : Int))) == 0 then (
           Option.bind (wS) fun r_14 =>
           some r_14)
          else (
           some false))
         else (
          some false))
        else (
         some false))
       else (
        some false))
      else (
       some false))
     else (
      some false))
    else (
     some false))
   else (
    Option.bind (kF x_ c_) fun r_19 =>
    bif r_19 == 0 then (
     yM x_ hidden r_8 r_9 r_10 r_11 1)
    else (
     yM x_ hidden r_8 r_9 r_10 r_11 0))))
def wn (c_ : z8) (n_1 : Int) (i_ : Int) : Option (LR (Int × Int) Int) :=
 bif decide (i_ < ((c_.Queues.length : Nat) : Int)) then (
  Option.bind (idx c_.Queues i_) fun Queue_e =>
  some (.next (w64 (n_1 + ((Queue_e.length : Nat) : Int)), w64 (i_ + 1))))
 else (
  some (.done n_1))
def uK (x_ : z6) (c_ : z8) (hidden : List Int) : Option Bool :=
 Option.bind (ZH x_) fun r_ =>
 bif r_ == 1 then (
  Option.bind (wS) fun r_1 =>
  some r_1)
 else (
  bif decide (((c_.States.length : Nat) : Int) > 6) then (
   Option.bind (wS) fun r_2 =>
   some r_2)
  else (
   bif decide (((c_.Queues.length : Nat) : Int) > 6) then (
    Option.bind (wS) fun r_3 =>
    some r_3)
   else (
    bif decide (((hidden.length : Nat) : Int) > 20) then (
     Option.bind (wS) fun r_4 =>
     some r_4)
    else (
     Option.bind (loop (fun s => wn c_ s.1 s.2) (0, 0)) fun t4 =>
     wo x_ c_ hidden t4))))
abbrev F0_ := W4 (eI .i64)
abbrev F1_ := eSl 1 true (eI .i64)
abbrev F2_ := eSl 1 false (eI .i64)
abbrev F3_ := eSl 1 true F1_
abbrev F4_ := eSl 1 true F2_
abbrev F5_ := eSl 1 false F2_
abbrev F6_ := wU (eI .u8) (eI .i64) (eI .i64)
abbrev F7_ := yz (eI .i64) F0_
abbrev F8_ := W4 F7_
abbrev F9_ := eSl 3 true F6_
abbrev w6 := xF (eI .i64) (eI .i64) (eI .i64) (eI .i64)
abbrev Y7 := eSl 3 false F6_
abbrev kg := y8 (eI .i64) (eI .u8) (eI .i64) (eI .i64) (eI .i64)
abbrev zeB := eSl 1 true Y7
abbrev z5n := eSl 4 true w6
abbrev zeA := eSl 1 false Y7
abbrev z9t := eSl 4 false w6
abbrev z33 := eSl 5 true kg
abbrev z1u := zD F1_ F3_
abbrev z9f := eSl 5 false kg
abbrev z7D := zD F1_ F4_
abbrev qB := zD F2_ F5_
abbrev kB := xE w6 (eI .i64)
abbrev Q5 := Qd (eI .i64) w6
abbrev x7 := xa F0_ F8_
abbrev zcc := eSl 2 true z7D
abbrev z5f := eSl 2 true qB
abbrev z9s := eSl 2 false qB
abbrev wJ := eSl 5 true kB
abbrev Wd := eSl 5 false kB
abbrev z9e := uL (eI .i64) (eI .i64) zeB
abbrev z3r := uL (eI .i64) (eI .i64) zeA
abbrev z2i := eSl 1 true wJ
abbrev zc4 := eSl 1 false Wd
abbrev z9r := yg (eI .i64) z33 F1_
abbrev vg := yg (eI .i64) z9f F2_
abbrev z7C := eSp vg
abbrev zfu := eSl 3 true z9r
abbrev z9d := eSl 3 false vg
abbrev z7B := xP (eI .i64) (eI .i64) F1_ zfu
abbrev yN := xP (eI .i64) (eI .i64) F2_ z9d
abbrev z0m := eSp yN
def rpN {α : Type _} (n : Nat) (a : α) (l : List α) : List α := Nat.rec l (fun _ r => a :: r) n
end Go.Own

namespace Go.Proofs
open Go.Shelf
def Tryz.so48_ren : Go.Shelf.Ren := ⟨fun | 6 => 48 | 15 => 79 | 14 => 78 | 28 => 101 | 29 => 102 | 20 => 93 | 21 => 94 | 22 => 95 | 23 => 96 | 24 => 97 | 25 => 98 | 26 => 99 | 27 => 100 | 46 => 108 | 47 => 109 | 48 => 110 | 49 => 111 | 50 => 112 | 57 => 113 | n => n, fun | 22 => 59 | 24 => 61 | 25 => 126 | 3 => 3 | 39 => 50 | 0 => 0 | 53 => 171 | 55 => 173 | 4 => 4 | 46 => 165 | 45 => 164 | 50 => 120 | 5 => 5 | 9 => 9 | 66 => 181 | 70 => 185 | 76 => 198 | 77 => 199 | n => n, fun | n => n⟩
theorem Tryz.so48 : Go.Proofs.SlLaysF0.n6 Tryz.prog Tryz.so48_ren := {
 mixed := by kernel_rfl
 f6 := ⟨Tryz.f48.name, by decide, Tryz.func48.trans (congrArg some (by kernel_rfl))⟩
 f14 := ⟨Tryz.f78.name, by decide, Tryz.func78.trans (congrArg some (by kernel_rfl))⟩
 f15 := Tryz.func79.trans (congrArg some (by kernel_rfl))
 f20 := ⟨Tryz.f93.name, by decide, Tryz.func93.trans (congrArg some (by kernel_rfl))⟩
 f21 := ⟨Tryz.f94.name, by decide, Tryz.func94.trans (congrArg some (by kernel_rfl))⟩
 f22 := ⟨Tryz.f95.name, by decide, Tryz.func95.trans (congrArg some (by kernel_rfl))⟩
 f23 := ⟨Tryz.f96.name, by decide, Tryz.func96.trans (congrArg some (by kernel_rfl))⟩
 f24 := ⟨Tryz.f97.name, by decide, Tryz.func97.trans (congrArg some (by kernel_rfl))⟩
 f25 := ⟨Tryz.f98.name, by decide, Tryz.func98.trans (congrArg some (by kernel_rfl))⟩
 f26 := ⟨Tryz.f99.name, by decide, Tryz.func99.trans (congrArg some (by kernel_rfl))⟩
 f27 := ⟨Tryz.f100.name, by decide, Tryz.func100.trans (congrArg some (by kernel_rfl))⟩
 f28 := Tryz.func101.trans (congrArg some (by kernel_rfl))
 f29 := Tryz.func102.trans (congrArg some (by kernel_rfl))
 f46 := ⟨Tryz.f108.name, by decide, Tryz.func108.trans (congrArg some (by kernel_rfl))⟩
 f47 := Tryz.func109.trans (congrArg some (by kernel_rfl))
 f48 := Tryz.func110.trans (congrArg some (by kernel_rfl))
 f49 := ⟨Tryz.f111.name, by decide, Tryz.func111.trans (congrArg some (by kernel_rfl))⟩
 f50 := ⟨Tryz.f112.name, by decide, Tryz.func112.trans (congrArg some (by kernel_rfl))⟩
 f57 := ⟨Tryz.f113.name, by decide, Tryz.func113.trans (congrArg some (by kernel_rfl))⟩
 t0 := Tryz.underlying0
 a0 := Tryz.isAgg0
 z0 := Tryz.sizeOf0
 v0 := Tryz.zeroValue0
 t3 := Tryz.underlying3
 a3 := Tryz.isAgg3
 z3 := Tryz.sizeOf3
 v3 := Tryz.zeroValue3
 t4 := Tryz.underlying4
 a4 := Tryz.isAgg4
 z4 := Tryz.sizeOf4
 v4 := Tryz.zeroValue4
 t5 := Tryz.underlying5
 a5 := Tryz.isAgg5
 z5 := Tryz.sizeOf5
 v5 := Tryz.zeroValue5
 t9 := Tryz.underlying9
 a9 := Tryz.isAgg9
 z9 := Tryz.sizeOf9
 v9 := Tryz.zeroValue9
 t22 := Tryz.underlying59
 a22 := Tryz.isAgg59
 z22 := Tryz.sizeOf59
 v22 := Tryz.zeroValue59
 t25 := Tryz.underlying126
 a25 := Tryz.isAgg126
 z25 := Tryz.sizeOf126
 v25 := Tryz.zeroValue126
 t39 := Tryz.underlying50
 a39 := Tryz.isAgg50
 z39 := Tryz.sizeOf50
 v39 := Tryz.zeroValue50
 t45 := Tryz.underlying164
 a45 := Tryz.isAgg164
 z45 := Tryz.sizeOf164
 v45 := Tryz.zeroValue164
 t46 := Tryz.underlying165
 a46 := Tryz.isAgg165
 z46 := Tryz.sizeOf165
 v46 := Tryz.zeroValue165
 t50 := Tryz.underlying120
 a50 := Tryz.isAgg120
 z50 := Tryz.sizeOf120
 v50 := Tryz.zeroValue120
 t53 := Tryz.underlying171
 a53 := Tryz.isAgg171
 z53 := Tryz.sizeOf171
 v53 := Tryz.zeroValue171
 t55 := Tryz.underlying173
 a55 := Tryz.isAgg173
 z55 := Tryz.sizeOf173
 v55 := Tryz.zeroValue173
 t66 := Tryz.underlying181
 a66 := Tryz.isAgg181
 z66 := Tryz.sizeOf181
 v66 := Tryz.zeroValue181
 t70 := Tryz.underlying185
 a70 := Tryz.isAgg185
 z70 := Tryz.sizeOf185
 v70 := Tryz.zeroValue185
 t76 := Tryz.underlying198
 a76 := Tryz.isAgg198
 z76 := Tryz.sizeOf198
 v76 := Tryz.zeroValue198
 t77 := Tryz.underlying199
 a77 := Tryz.isAgg199
 z77 := Tryz.sizeOf199
 v77 := Tryz.zeroValue199 }
end Go.Proofs
