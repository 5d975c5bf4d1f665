/- -/
import Derived.Test.YtkelmheleahmpaaDoorPartB
import Derived.Test.YtkelmheleahmpaaDoorProg
import Derived.Test.YtkelmheleahmpaaDoorPartD
import Derived.Shelf.LaysM
import Derived.Ground.NamesProg
import Derived.Test.YtkelmheleahmpaaDoorChecked
import Derived.Shelf.Strconv.Itoa3
import Derived.Lib.ItoaNum
import Derived.Test.YtkelmheleahmpaaDoorPartC
import Derived.Shelf.SlSortCmp.NoneTotal
import Derived.Ground.SlsfProg
set_option linter.unusedVariables false
set_option linter.unusedSimpArgs false
namespace Go.Ex
open Go.Proofs
theorem q3 : EqP Tryd.prog 3 [.int .i64 0] false 1 := z5n (k := .int .i64) Tryd.underlying3 ⟨_, (by kernel_rfl : Tryd.prog.info? 3 = some Tryd.t3), rfl⟩ rfl
theorem q34 : EqP Tryd.prog 34 (z2y 2 [.int .i64 0]) true 2 := Ue Tryd.underlying34 q3 ⟨_, (by kernel_rfl : Tryd.prog.info? 34 = some Tryd.t34), rfl⟩
def i34 : EI := ⟨.array 2 3, 2, 16, some [.int .i64 0, .int .i64 0], true⟩
theorem z6k : z3Y Tryd.prog 34 i34 := ⟨⟨Tryd.t34, by kernel_rfl, rfl, rfl, fun z h => by cases h; exact ⟨_, rfl, rfl, Yf rfl, rfl, ⟨_, rfl⟩⟩⟩, Tryd.underlying34, fun _ => jF q34 rfl rfl (Nat.le_of_ble_eq_true (by kernel_rfl)) (by decide)⟩
theorem q35 : EqP Tryd.prog 35 (jU [([.int .i64 0, .int .i64 0], true), ([.int .i64 0, .int .i64 0], true), ([.int .i64 0, .int .i64 0], true)]) true 3 := ul Tryd.underlying35 (by kernel_rfl) ⟨_, (by kernel_rfl : Tryd.prog.info? 35 = some Tryd.t35), rfl⟩ (by decide) (zN.cons (by decide) rfl (q34.mono (by decide)) (zN.cons (by decide) rfl (q34.mono (by decide)) (zN.cons (by decide) rfl (q34.mono (by decide)) (zN.nil))))
def i35 : EI := ⟨.struct [(0, 34), (2, 34), (4, 34)], 6, 48, some [.int .i64 0, .int .i64 0, .int .i64 0, .int .i64 0, .int .i64 0, .int .i64 0], true⟩
theorem zdD : z3Y Tryd.prog 35 i35 := ⟨⟨Tryd.t35, by kernel_rfl, rfl, rfl, fun z h => by cases h; exact ⟨_, rfl, rfl, Yf rfl, rfl, ⟨_, rfl⟩⟩⟩, ⟨_, Tryd.underlying35, by kernel_rfl, by
  intro f hf
  simp only [List.mem_cons, List.not_mem_nil, or_false] at hf
  rcases hf with rfl | rfl | rfl
  ·exact ⟨Tryd.t34, by kernel_rfl⟩
  ·exact ⟨Tryd.t34, by kernel_rfl⟩
  ·exact ⟨Tryd.t34, by kernel_rfl⟩⟩, fun _ => jF q35 rfl rfl (Nat.le_of_ble_eq_true (by kernel_rfl)) (by decide)⟩
theorem q36 : EqP Tryd.prog 36 (jU [([.int .i64 0, .int .i64 0], true), ([.int .i64 0, .int .i64 0], true), ([.int .i64 0, .int .i64 0], true)]) true 3 := ul Tryd.underlying36 (by kernel_rfl) ⟨_, (by kernel_rfl : Tryd.prog.info? 36 = some Tryd.t36), rfl⟩ (by decide) (zN.cons (by decide) rfl (q34.mono (by decide)) (zN.cons (by decide) rfl (q34.mono (by decide)) (zN.cons (by decide) rfl (q34.mono (by decide)) (zN.nil))))
def i36 : EI := ⟨.struct [(0, 34), (2, 34), (4, 34)], 6, 48, some [.int .i64 0, .int .i64 0, .int .i64 0, .int .i64 0, .int .i64 0, .int .i64 0], true⟩
theorem z9I : z3Y Tryd.prog 36 i36 := ⟨⟨Tryd.t36, by kernel_rfl, rfl, rfl, fun z h => by cases h; exact ⟨_, rfl, rfl, Yf rfl, rfl, ⟨_, rfl⟩⟩⟩, ⟨_, Tryd.underlying36, by kernel_rfl, by
  intro f hf
  simp only [List.mem_cons, List.not_mem_nil, or_false] at hf
  rcases hf with rfl | rfl | rfl
  ·exact ⟨Tryd.t34, by kernel_rfl⟩
  ·exact ⟨Tryd.t34, by kernel_rfl⟩
  ·exact ⟨Tryd.t34, by kernel_rfl⟩⟩, fun _ => jF q36 rfl rfl (Nat.le_of_ble_eq_true (by kernel_rfl)) (by decide)⟩
def i64 : EI := ⟨.func, 1, 8, some [.nilFunc], false⟩
theorem q73 : EqP Tryd.prog 73 (z2y 3 [.int .i64 0, .int .i64 0]) true 3 := Ue Tryd.underlying73 q34 ⟨_, (by kernel_rfl : Tryd.prog.info? 73 = some Tryd.t73), rfl⟩
def i73 : EI := ⟨.array 3 34, 6, 48, some [.int .i64 0, .int .i64 0, .int .i64 0, .int .i64 0, .int .i64 0, .int .i64 0], true⟩
theorem z9H : z3Y Tryd.prog 73 i73 := ⟨⟨Tryd.t73, by kernel_rfl, rfl, rfl, fun z h => by cases h; exact ⟨_, rfl, rfl, Yf rfl, rfl, ⟨_, rfl⟩⟩⟩, Tryd.underlying73, fun _ => jF q73 rfl rfl (Nat.le_of_ble_eq_true (by kernel_rfl)) (by decide)⟩
theorem q80 : EqP Tryd.prog 80 (jU [([.int .i64 0], false), ([.int .i64 0], false)]) true 2 := ul Tryd.underlying80 (by kernel_rfl) ⟨_, (by kernel_rfl : Tryd.prog.info? 80 = some Tryd.t80), rfl⟩ (by decide) (zN.cons (by decide) rfl (q3.mono (by decide)) (zN.cons (by decide) rfl (q3.mono (by decide)) (zN.nil)))
def i80 : EI := ⟨.struct [(0, 3), (1, 3)], 2, 16, some [.int .i64 0, .int .i64 0], true⟩
theorem zdC : z3Y Tryd.prog 80 i80 := ⟨⟨Tryd.t80, by kernel_rfl, rfl, rfl, fun z h => by cases h; exact ⟨_, rfl, rfl, Yf rfl, rfl, ⟨_, rfl⟩⟩⟩, ⟨_, Tryd.underlying80, by kernel_rfl, by
  intro f hf
  simp only [List.mem_cons, List.not_mem_nil, or_false] at hf
  rcases hf with rfl | rfl
  ·exact ⟨Tryd.t3, by kernel_rfl⟩
  ·exact ⟨Tryd.t3, by kernel_rfl⟩⟩, fun _ => jF q80 rfl rfl (Nat.le_of_ble_eq_true (by kernel_rfl)) (by decide)⟩
theorem q81 : EqP Tryd.prog 81 (jU [([.int .i64 0], false), ([.int .i64 0], false)]) true 2 := ul Tryd.underlying81 (by kernel_rfl) ⟨_, (by kernel_rfl : Tryd.prog.info? 81 = some Tryd.t81), rfl⟩ (by decide) (zN.cons (by decide) rfl (q3.mono (by decide)) (zN.cons (by decide) rfl (q3.mono (by decide)) (zN.nil)))
def i81 : EI := ⟨.struct [(0, 3), (1, 3)], 2, 16, some [.int .i64 0, .int .i64 0], true⟩
theorem z9G : z3Y Tryd.prog 81 i81 := ⟨⟨Tryd.t81, by kernel_rfl, rfl, rfl, fun z h => by cases h; exact ⟨_, rfl, rfl, Yf rfl, rfl, ⟨_, rfl⟩⟩⟩, ⟨_, Tryd.underlying81, by kernel_rfl, by
  intro f hf
  simp only [List.mem_cons, List.not_mem_nil, or_false] at hf
  rcases hf with rfl | rfl
  ·exact ⟨Tryd.t3, by kernel_rfl⟩
  ·exact ⟨Tryd.t3, by kernel_rfl⟩⟩, fun _ => jF q81 rfl rfl (Nat.le_of_ble_eq_true (by kernel_rfl)) (by decide)⟩
theorem q83 : EqP Tryd.prog 83 (jU [([.int .i64 0], false), ([.int .i64 0], false), ([.int .i64 0], false)]) true 2 := ul Tryd.underlying83 (by kernel_rfl) ⟨_, (by kernel_rfl : Tryd.prog.info? 83 = some Tryd.t83), rfl⟩ (by decide) (zN.cons (by decide) rfl (q3.mono (by decide)) (zN.cons (by decide) rfl (q3.mono (by decide)) (zN.cons (by decide) rfl (q3.mono (by decide)) (zN.nil))))
def i83 : EI := ⟨.struct [(0, 3), (1, 3), (2, 3)], 3, 24, some [.int .i64 0, .int .i64 0, .int .i64 0], true⟩
theorem zdB : z3Y Tryd.prog 83 i83 := ⟨⟨Tryd.t83, by kernel_rfl, rfl, rfl, fun z h => by cases h; exact ⟨_, rfl, rfl, Yf rfl, rfl, ⟨_, rfl⟩⟩⟩, ⟨_, Tryd.underlying83, by kernel_rfl, by
  intro f hf
  simp only [List.mem_cons, List.not_mem_nil, or_false] at hf
  rcases hf with rfl | rfl | rfl
  ·exact ⟨Tryd.t3, by kernel_rfl⟩
  ·exact ⟨Tryd.t3, by kernel_rfl⟩
  ·exact ⟨Tryd.t3, by kernel_rfl⟩⟩, fun _ => jF q83 rfl rfl (Nat.le_of_ble_eq_true (by kernel_rfl)) (by decide)⟩
theorem q84 : EqP Tryd.prog 84 (jU [([.int .i64 0], false), ([.int .i64 0], false), ([.int .i64 0], false)]) true 2 := ul Tryd.underlying84 (by kernel_rfl) ⟨_, (by kernel_rfl : Tryd.prog.info? 84 = some Tryd.t84), rfl⟩ (by decide) (zN.cons (by decide) rfl (q3.mono (by decide)) (zN.cons (by decide) rfl (q3.mono (by decide)) (zN.cons (by decide) rfl (q3.mono (by decide)) (zN.nil))))
def i84 : EI := ⟨.struct [(0, 3), (1, 3), (2, 3)], 3, 24, some [.int .i64 0, .int .i64 0, .int .i64 0], true⟩
theorem z6j : z3Y Tryd.prog 84 i84 := ⟨⟨Tryd.t84, by kernel_rfl, rfl, rfl, fun z h => by cases h; exact ⟨_, rfl, rfl, Yf rfl, rfl, ⟨_, rfl⟩⟩⟩, ⟨_, Tryd.underlying84, by kernel_rfl, by
  intro f hf
  simp only [List.mem_cons, List.not_mem_nil, or_false] at hf
  rcases hf with rfl | rfl | rfl
  ·exact ⟨Tryd.t3, by kernel_rfl⟩
  ·exact ⟨Tryd.t3, by kernel_rfl⟩
  ·exact ⟨Tryd.t3, by kernel_rfl⟩⟩, fun _ => jF q84 rfl rfl (Nat.le_of_ble_eq_true (by kernel_rfl)) (by decide)⟩
theorem zea : EqP Tryd.prog 107 (z2y 3 [.int .i64 0]) true 2 := Ue Tryd.underlying107 q3 ⟨_, (by kernel_rfl : Tryd.prog.info? 107 = some Tryd.t107), rfl⟩
def zeg : EI := ⟨.array 3 3, 3, 24, some [.int .i64 0, .int .i64 0, .int .i64 0], true⟩
theorem z7U : z3Y Tryd.prog 107 zeg := ⟨⟨Tryd.t107, by kernel_rfl, rfl, rfl, fun z h => by cases h; exact ⟨_, rfl, rfl, Yf rfl, rfl, ⟨_, rfl⟩⟩⟩, Tryd.underlying107, fun _ => jF zea rfl rfl (Nat.le_of_ble_eq_true (by kernel_rfl)) (by decide)⟩
theorem ze9 : EqP Tryd.prog 134 (jU [([.int .i64 0], false), ([.int .i64 0], false), ([.int .i64 0], false)]) true 2 := ul Tryd.underlying134 (by kernel_rfl) ⟨_, (by kernel_rfl : Tryd.prog.info? 134 = some Tryd.t134), rfl⟩ (by decide) (zN.cons (by decide) rfl (q3.mono (by decide)) (zN.cons (by decide) rfl (q3.mono (by decide)) (zN.cons (by decide) rfl (q3.mono (by decide)) (zN.nil))))
def zef : EI := ⟨.struct [(0, 3), (1, 3), (2, 3)], 3, 24, some [.int .i64 0, .int .i64 0, .int .i64 0], true⟩
theorem zbV : z3Y Tryd.prog 134 zef := ⟨⟨Tryd.t134, by kernel_rfl, rfl, rfl, fun z h => by cases h; exact ⟨_, rfl, rfl, Yf rfl, rfl, ⟨_, rfl⟩⟩⟩, ⟨_, Tryd.underlying134, by kernel_rfl, by
  intro f hf
  simp only [List.mem_cons, List.not_mem_nil, or_false] at hf
  rcases hf with rfl | rfl | rfl
  ·exact ⟨Tryd.t3, by kernel_rfl⟩
  ·exact ⟨Tryd.t3, by kernel_rfl⟩
  ·exact ⟨Tryd.t3, by kernel_rfl⟩⟩, fun _ => jF ze9 rfl rfl (Nat.le_of_ble_eq_true (by kernel_rfl)) (by decide)⟩
theorem ze8 : EqP Tryd.prog 135 (jU [([.int .i64 0], false), ([.int .i64 0], false), ([.int .i64 0], false)]) true 2 := ul Tryd.underlying135 (by kernel_rfl) ⟨_, (by kernel_rfl : Tryd.prog.info? 135 = some Tryd.t135), rfl⟩ (by decide) (zN.cons (by decide) rfl (q3.mono (by decide)) (zN.cons (by decide) rfl (q3.mono (by decide)) (zN.cons (by decide) rfl (q3.mono (by decide)) (zN.nil))))
def zee : EI := ⟨.struct [(0, 3), (1, 3), (2, 3)], 3, 24, some [.int .i64 0, .int .i64 0, .int .i64 0], true⟩
theorem z7T : z3Y Tryd.prog 135 zee := ⟨⟨Tryd.t135, by kernel_rfl, rfl, rfl, fun z h => by cases h; exact ⟨_, rfl, rfl, Yf rfl, rfl, ⟨_, rfl⟩⟩⟩, ⟨_, Tryd.underlying135, by kernel_rfl, by
  intro f hf
  simp only [List.mem_cons, List.not_mem_nil, or_false] at hf
  rcases hf with rfl | rfl | rfl
  ·exact ⟨Tryd.t3, by kernel_rfl⟩
  ·exact ⟨Tryd.t3, by kernel_rfl⟩
  ·exact ⟨Tryd.t3, by kernel_rfl⟩⟩, fun _ => jF ze8 rfl rfl (Nat.le_of_ble_eq_true (by kernel_rfl)) (by decide)⟩
end Go.Ex

namespace Go.Own
open Go.Proofs
def zbT : Value → Bool
 | .int _ _ => true
 | _ => false
theorem Kj : ∀ {z vs us : List Value} {r : Bool}, z.all zbT = true → z.length = vs.length → yI vs us = some r → Go.Ex.Jp z vs = true ∧ Go.Ex.yI vs us = some r
 | [], [], us, r, _, _, h => by
  cases us with
  | nil => simp only [yI, Option.some.injEq] at h; subst h; exact ⟨rfl, rfl⟩
  | cons u us => simp [yI] at h
 | a :: z, v :: vs, us, r, hz, hl, h => by
  have q : ∃ k x u' k' y, v = .int k x ∧ us = .int k' y :: u' ∧ k = k' := by
   cases us with
   | nil => cases v <;> simp [yI] at h
   | cons u us =>
    cases v <;> cases u <;> simp [yI] at h
    exact ⟨_, _, _, _, _, rfl, rfl, h.1⟩
  obtain ⟨k, x, u', k', y, rfl, rfl, hk⟩ := q
  simp only [yI, hk, if_true, Option.map_eq_some_iff] at h
  obtain ⟨r', e1, rfl⟩ := h
  simp only [List.all_cons, Bool.and_eq_true] at hz
  obtain ⟨q1, q2⟩ := Kj hz.2 (by simpa using hl) e1
  refine ⟨?_, by simp [Go.Ex.yI, hk, q2]⟩
  cases a <;> first | (simp [zbT] at hz; done) | simpa [Go.Ex.Jp] using q1
 | [], _ :: _, _, _, _, hl, _ => by simp at hl
 | _ :: _, [], _, _, _, hl, _ => by simp at hl
variable {P : Program}
theorem X4 {t n : Nat} {i : Go.Ex.EI} (h : Go.Ex.z6y P t i) {z : List Value} (hz : i.zero = some z) (hi : z.all zbT = true) (hs : i.size = n) (hn : z.length = n) : z6y P t n := {
 guard := h.guard
 run := fun vs us r w hv hu he => by
  obtain ⟨q1, q2⟩ := Kj hi (by rw [hn, hv]) he
  exact h.run vs us r w (by rw [hs]; exact hv) (by rw [hs]; exact hu) (by simpa only [Go.Ex.zbY, hz] using q1) q2 }
variable {h : Array Obj}{S : zj}
theorem zx {v : Value} (hv : v.oneCell' = true) : zG S h (.atom v) [v] [] := by simp only [zG, Rep]; exact ⟨⟨trivial, hv⟩, trivial⟩
theorem wY (sz : Nat) : zG S h (.osl sz true []) [.slice none 0 0] [] := by
 simp only [zG]
 exact ⟨none, 0, rfl, (fun _ => rfl), Nat.le_refl _, Nat.zero_le _, by simp, .inl ⟨trivial, rfl, rfl, trivial⟩⟩
variable {a : A}
theorem z3v {c : List Value} (q : zG S h a c []) : ∀ n, zJ S h (List.replicate n a) (List.replicate n c).flatten []
 | 0 => by simp [zJ]
 | n + 1 => by
  rw [List.replicate_succ, List.replicate_succ, List.flatten_cons]
  simp only [zJ]
  exact ⟨c, _, [], [], rfl, rfl, q, z3v q n⟩
theorem zej {c c' : List Value} (q : zG S h a c []) (e : c' = c) : zG S h a c' [] := e ▸ q
variable {fs : List A}
theorem xU {cs : List Value} (q : zJ S h fs cs []) : zG S h (.agg fs) cs [] := by simpa only [zG] using q
theorem x4 : zJ S h [] [] [] := by simp [zJ]
theorem zA {c1 c2 : List Value} (q1 : zG S h a c1 []) (q2 : zJ S h fs c2 []) : zJ S h (a :: fs) (c1 ++ c2) [] := by simp only [zJ]; exact ⟨c1, c2, [], [], rfl, rfl, q1, q2⟩
def ti1 : TI := ⟨.other, 1, 8, some (.atom .nilFunc), false⟩
theorem z8F : j9 Tryd.prog 1 ti1 := ⟨⟨Tryd.t1, by kernel_rfl, rfl, rfl, fun z h => by cases h; exact ⟨_, rfl, rfl, fun S h => zx rfl⟩⟩, ⟨_, Tryd.underlying1, rfl⟩, by intro h; cases h⟩
def ti2 : TI := ⟨.int .i64, 1, 8, some (.atom (.int .i64 0)), false⟩
theorem z8E : j9 Tryd.prog 2 ti2 := ⟨⟨Tryd.t2, by kernel_rfl, rfl, rfl, fun z h => by cases h; exact ⟨_, rfl, rfl, fun S h => zx rfl⟩⟩, Tryd.underlying2, by intro h; cases h⟩
def ti3 : TI := ⟨.int .i64, 1, 8, some (.atom (.int .i64 0)), false⟩
theorem z8D : j9 Tryd.prog 3 ti3 := ⟨⟨Tryd.t3, by kernel_rfl, rfl, rfl, fun z h => by cases h; exact ⟨_, rfl, rfl, fun S h => zx rfl⟩⟩, Tryd.underlying3, by intro h; cases h⟩
def ti4 : TI := ⟨.bool, 1, 1, some (.atom (.bool false)), false⟩
theorem z8C : j9 Tryd.prog 4 ti4 := ⟨⟨Tryd.t4, by kernel_rfl, rfl, rfl, fun z h => by cases h; exact ⟨_, rfl, rfl, fun S h => zx rfl⟩⟩, Tryd.underlying4, by intro h; cases h⟩
def ti9 : TI := ⟨.str, 1, 16, some (.atom (.string ⟨#[]⟩)), false⟩
theorem z8B : j9 Tryd.prog 9 ti9 := ⟨⟨Tryd.t9, by kernel_rfl, rfl, rfl, fun z h => by cases h; exact ⟨_, rfl, rfl, fun S h => zx rfl⟩⟩, Tryd.underlying9, by intro h; cases h⟩
def zdf : TI := ⟨.slice 51, 1, 24, some (.osl 1 true []), false⟩
theorem z78 : j9 Tryd.prog 28 zdf := ⟨⟨Tryd.t28, by kernel_rfl, rfl, rfl, fun z h => by cases h; exact ⟨_, rfl, rfl, fun S h => wY _⟩⟩, Tryd.underlying28, by intro h; cases h⟩
def zde : TI := ⟨.struct [(0, 1), (1, 1), (2, 1)], 3, 40, some (.agg [.atom (.int .i64 0), .atom (.int .i64 0), .osl 1 true []]), false⟩
theorem z75 : j9 Tryd.prog 30 zde := ⟨⟨Tryd.t30, by kernel_rfl, rfl, rfl, fun z h => by cases h; exact ⟨_, rfl, rfl, fun S h => xU (zA (zx rfl) (zA (zx rfl) (zA (wY _) (x4))))⟩⟩, ⟨_, Tryd.underlying30, by kernel_rfl, by
  intro f hf
  simp only [List.mem_cons, List.not_mem_nil, or_false] at hf
  rcases hf with rfl | rfl | rfl
  ·exact ⟨Tryd.t3, by kernel_rfl⟩
  ·exact ⟨Tryd.t3, by kernel_rfl⟩
  ·exact ⟨Tryd.t28, by kernel_rfl⟩⟩, by intro h; cases h⟩
def zdd : TI := ⟨.slice 43, 1, 24, some (.osl 1 true []), false⟩
theorem z74 : j9 Tryd.prog 31 zdd := ⟨⟨Tryd.t31, by kernel_rfl, rfl, rfl, fun z h => by cases h; exact ⟨_, rfl, rfl, fun S h => wY _⟩⟩, Tryd.underlying31, by intro h; cases h⟩
def zdc : TI := ⟨.array 2 3, 2, 16, some (.agg [.atom (.int .i64 0), .atom (.int .i64 0)]), true⟩
theorem z21 : j9 Tryd.prog 34 zdc := ⟨⟨Tryd.t34, by kernel_rfl, rfl, rfl, fun z h => by cases h; exact ⟨_, rfl, rfl, fun S h => xU (zA (zx rfl) (zA (zx rfl) (x4)))⟩⟩, Tryd.underlying34, fun _ => X4 (Go.Ex.z6k.eqn rfl) rfl rfl rfl rfl⟩
def zdb : TI := ⟨.struct [(0, 2), (2, 2), (4, 2)], 6, 48, some (.agg [.agg [.atom (.int .i64 0), .atom (.int .i64 0)], .agg [.atom (.int .i64 0), .atom (.int .i64 0)], .agg [.atom (.int .i64 0), .atom (.int .i64 0)]]), true⟩
theorem z73 : j9 Tryd.prog 36 zdb := ⟨⟨Tryd.t36, by kernel_rfl, rfl, rfl, fun z h => by cases h; exact ⟨_, rfl, rfl, fun S h => xU (zA (xU (zA (zx rfl) (zA (zx rfl) (x4)))) (zA (xU (zA (zx rfl) (zA (zx rfl) (x4)))) (zA (xU (zA (zx rfl) (zA (zx rfl) (x4)))) (x4))))⟩⟩, ⟨_, Tryd.underlying36, by kernel_rfl, by
  intro f hf
  simp only [List.mem_cons, List.not_mem_nil, or_false] at hf
  rcases hf with rfl | rfl | rfl
  ·exact ⟨Tryd.t34, by kernel_rfl⟩
  ·exact ⟨Tryd.t34, by kernel_rfl⟩
  ·exact ⟨Tryd.t34, by kernel_rfl⟩⟩, fun _ => X4 (Go.Ex.z9I.eqn rfl) rfl rfl rfl rfl⟩
def zda : TI := ⟨.int .i64, 1, 8, some (.atom (.int .i64 0)), false⟩
theorem z72 : j9 Tryd.prog 37 zda := ⟨⟨Tryd.t37, by kernel_rfl, rfl, rfl, fun z h => by cases h; exact ⟨_, rfl, rfl, fun S h => zx rfl⟩⟩, Tryd.underlying37, by intro h; cases h⟩
def zd9 : TI := ⟨.slice 4, 1, 24, some (.osl 1 true []), false⟩
theorem z71 : j9 Tryd.prog 40 zd9 := ⟨⟨Tryd.t40, by kernel_rfl, rfl, rfl, fun z h => by cases h; exact ⟨_, rfl, rfl, fun S h => wY _⟩⟩, Tryd.underlying40, by intro h; cases h⟩
def zd8 : TI := ⟨.slice 3, 1, 24, some (.osl 1 true []), false⟩
theorem z6Z : j9 Tryd.prog 43 zd8 := ⟨⟨Tryd.t43, by kernel_rfl, rfl, rfl, fun z h => by cases h; exact ⟨_, rfl, rfl, fun S h => wY _⟩⟩, Tryd.underlying43, by intro h; cases h⟩
def zd7 : TI := ⟨.other, 1, 8, some (.atom .nilFunc), false⟩
theorem z6Y : j9 Tryd.prog 45 zd7 := ⟨⟨Tryd.t45, by kernel_rfl, rfl, rfl, fun z h => by cases h; exact ⟨_, rfl, rfl, fun S h => zx rfl⟩⟩, ⟨_, Tryd.underlying45, rfl⟩, by intro h; cases h⟩
def zd6 : TI := ⟨.other, 1, 8, some (.atom .nilFunc), false⟩
theorem z6X : j9 Tryd.prog 46 zd6 := ⟨⟨Tryd.t46, by kernel_rfl, rfl, rfl, fun z h => by cases h; exact ⟨_, rfl, rfl, fun S h => zx rfl⟩⟩, ⟨_, Tryd.underlying46, rfl⟩, by intro h; cases h⟩
def zd5 : TI := ⟨.other, 1, 8, some (.atom .nilFunc), false⟩
theorem z6W : j9 Tryd.prog 47 zd5 := ⟨⟨Tryd.t47, by kernel_rfl, rfl, rfl, fun z h => by cases h; exact ⟨_, rfl, rfl, fun S h => zx rfl⟩⟩, ⟨_, Tryd.underlying47, rfl⟩, by intro h; cases h⟩
def zd4 : TI := ⟨.slice 81, 1, 24, some (.osl 2 true []), false⟩
theorem z6V : j9 Tryd.prog 51 zd4 := ⟨⟨Tryd.t51, by kernel_rfl, rfl, rfl, fun z h => by cases h; exact ⟨_, rfl, rfl, fun S h => wY _⟩⟩, Tryd.underlying51, by intro h; cases h⟩
def zd3 : TI := ⟨.slice 34, 1, 24, some (.osl 2 true []), false⟩
theorem z6U : j9 Tryd.prog 56 zd3 := ⟨⟨Tryd.t56, by kernel_rfl, rfl, rfl, fun z h => by cases h; exact ⟨_, rfl, rfl, fun S h => wY _⟩⟩, Tryd.underlying56, by intro h; cases h⟩
def zd2 : TI := ⟨.slice 84, 1, 24, some (.osl 3 true []), false⟩
theorem z6T : j9 Tryd.prog 59 zd2 := ⟨⟨Tryd.t59, by kernel_rfl, rfl, rfl, fun z h => by cases h; exact ⟨_, rfl, rfl, fun S h => wY _⟩⟩, Tryd.underlying59, by intro h; cases h⟩
def zd1 : TI := ⟨.other, 1, 8, some (.atom (.map none)), false⟩
theorem z6S : j9 Tryd.prog 67 zd1 := ⟨⟨Tryd.t67, by kernel_rfl, rfl, rfl, fun z h => by cases h; exact ⟨_, rfl, rfl, fun S h => zx rfl⟩⟩, ⟨_, Tryd.underlying67, rfl⟩, by intro h; cases h⟩
def zd0 : TI := ⟨.other, 1, 8, some (.atom (.map none)), false⟩
theorem z6R : j9 Tryd.prog 68 zd0 := ⟨⟨Tryd.t68, by kernel_rfl, rfl, rfl, fun z h => by cases h; exact ⟨_, rfl, rfl, fun S h => zx rfl⟩⟩, ⟨_, Tryd.underlying68, rfl⟩, by intro h; cases h⟩
def zcZ : TI := ⟨.other, 1, 8, some (.atom (.map none)), false⟩
theorem z6Q : j9 Tryd.prog 69 zcZ := ⟨⟨Tryd.t69, by kernel_rfl, rfl, rfl, fun z h => by cases h; exact ⟨_, rfl, rfl, fun S h => zx rfl⟩⟩, ⟨_, Tryd.underlying69, rfl⟩, by intro h; cases h⟩
def zcY : TI := ⟨.struct [(0, 1), (1, 1), (2, 1)], 3, 24, some (.agg [.atom (.map none), .atom (.map none), .atom (.map none)]), false⟩
theorem z6P : j9 Tryd.prog 71 zcY := ⟨⟨Tryd.t71, by kernel_rfl, rfl, rfl, fun z h => by cases h; exact ⟨_, rfl, rfl, fun S h => xU (zA (zx rfl) (zA (zx rfl) (zA (zx rfl) (x4))))⟩⟩, ⟨_, Tryd.underlying71, by kernel_rfl, by
  intro f hf
  simp only [List.mem_cons, List.not_mem_nil, or_false] at hf
  rcases hf with rfl | rfl | rfl
  ·exact ⟨Tryd.t67, by kernel_rfl⟩
  ·exact ⟨Tryd.t68, by kernel_rfl⟩
  ·exact ⟨Tryd.t69, by kernel_rfl⟩⟩, by intro h; cases h⟩
def zcX : TI := ⟨.array 3 34, 6, 48, some (.agg [.agg [.atom (.int .i64 0), .atom (.int .i64 0)], .agg [.atom (.int .i64 0), .atom (.int .i64 0)], .agg [.atom (.int .i64 0), .atom (.int .i64 0)]]), true⟩
theorem z6O : j9 Tryd.prog 73 zcX := ⟨⟨Tryd.t73, by kernel_rfl, rfl, rfl, fun z h => by cases h; exact ⟨_, rfl, rfl, fun S h => xU (zA (xU (zA (zx rfl) (zA (zx rfl) (x4)))) (zA (xU (zA (zx rfl) (zA (zx rfl) (x4)))) (zA (xU (zA (zx rfl) (zA (zx rfl) (x4)))) (x4))))⟩⟩, Tryd.underlying73, fun _ => X4 (Go.Ex.z9H.eqn rfl) rfl rfl rfl rfl⟩
def zcW : TI := ⟨.slice 87, 1, 24, some (.osl 5 true []), false⟩
theorem z6N : j9 Tryd.prog 75 zcW := ⟨⟨Tryd.t75, by kernel_rfl, rfl, rfl, fun z h => by cases h; exact ⟨_, rfl, rfl, fun S h => wY _⟩⟩, Tryd.underlying75, by intro h; cases h⟩
def zcV : TI := ⟨.other, 1, 8, some (.atom .nilFunc), false⟩
theorem z6M : j9 Tryd.prog 77 zcV := ⟨⟨Tryd.t77, by kernel_rfl, rfl, rfl, fun z h => by cases h; exact ⟨_, rfl, rfl, fun S h => zx rfl⟩⟩, ⟨_, Tryd.underlying77, rfl⟩, by intro h; cases h⟩
def zcU : TI := ⟨.struct [(0, 1), (1, 1)], 2, 16, some (.agg [.atom (.int .i64 0), .atom (.int .i64 0)]), true⟩
theorem z6L : j9 Tryd.prog 81 zcU := ⟨⟨Tryd.t81, by kernel_rfl, rfl, rfl, fun z h => by cases h; exact ⟨_, rfl, rfl, fun S h => xU (zA (zx rfl) (zA (zx rfl) (x4)))⟩⟩, ⟨_, Tryd.underlying81, by kernel_rfl, by
  intro f hf
  simp only [List.mem_cons, List.not_mem_nil, or_false] at hf
  rcases hf with rfl | rfl
  ·exact ⟨Tryd.t3, by kernel_rfl⟩
  ·exact ⟨Tryd.t3, by kernel_rfl⟩⟩, fun _ => X4 (Go.Ex.z9G.eqn rfl) rfl rfl rfl rfl⟩
def zcT : TI := ⟨.struct [(0, 1), (1, 1), (2, 1)], 3, 24, some (.agg [.atom (.int .i64 0), .atom (.int .i64 0), .atom (.int .i64 0)]), true⟩
theorem z1Z : j9 Tryd.prog 84 zcT := ⟨⟨Tryd.t84, by kernel_rfl, rfl, rfl, fun z h => by cases h; exact ⟨_, rfl, rfl, fun S h => xU (zA (zx rfl) (zA (zx rfl) (zA (zx rfl) (x4))))⟩⟩, ⟨_, Tryd.underlying84, by kernel_rfl, by
  intro f hf
  simp only [List.mem_cons, List.not_mem_nil, or_false] at hf
  rcases hf with rfl | rfl | rfl
  ·exact ⟨Tryd.t3, by kernel_rfl⟩
  ·exact ⟨Tryd.t3, by kernel_rfl⟩
  ·exact ⟨Tryd.t3, by kernel_rfl⟩⟩, fun _ => X4 (Go.Ex.z6j.eqn rfl) rfl rfl rfl rfl⟩
def zcS : TI := ⟨.other, 1, 8, some (.atom .nilFunc), false⟩
theorem z6K : j9 Tryd.prog 85 zcS := ⟨⟨Tryd.t85, by kernel_rfl, rfl, rfl, fun z h => by cases h; exact ⟨_, rfl, rfl, fun S h => zx rfl⟩⟩, ⟨_, Tryd.underlying85, rfl⟩, by intro h; cases h⟩
def zcR : TI := ⟨.struct [(0, 1), (1, 3), (4, 1)], 5, 56, some (.agg [.osl 1 true [], .agg [.atom (.int .i64 0), .atom (.int .i64 0), .atom (.int .i64 0)], .atom .nilFunc]), false⟩
theorem z6J : j9 Tryd.prog 87 zcR := ⟨⟨Tryd.t87, by kernel_rfl, rfl, rfl, fun z h => by cases h; exact ⟨_, rfl, rfl, fun S h => xU (zA (wY _) (zA (xU (zA (zx rfl) (zA (zx rfl) (zA (zx rfl) (x4))))) (zA (zx rfl) (x4))))⟩⟩, ⟨_, Tryd.underlying87, by kernel_rfl, by
  intro f hf
  simp only [List.mem_cons, List.not_mem_nil, or_false] at hf
  rcases hf with rfl | rfl | rfl
  ·exact ⟨Tryd.t43, by kernel_rfl⟩
  ·exact ⟨Tryd.t84, by kernel_rfl⟩
  ·exact ⟨Tryd.t85, by kernel_rfl⟩⟩, by intro h; cases h⟩
def zcQ : TI := ⟨.array 3 9, 3, 48, some (.agg [.atom (.string ⟨#[]⟩), .atom (.string ⟨#[]⟩), .atom (.string ⟨#[]⟩)]), false⟩
theorem z6I : j9 Tryd.prog 90 zcQ := ⟨⟨Tryd.t90, by kernel_rfl, rfl, rfl, fun z h => by cases h; exact ⟨_, rfl, rfl, fun S h => xU (zA (zx rfl) (zA (zx rfl) (zA (zx rfl) (x4))))⟩⟩, Tryd.underlying90, by intro h; cases h⟩
def zcP : TI := ⟨.ptr 100, 1, 8, some (.atom (.pointer none)), false⟩
theorem z6H : j9 Tryd.prog 95 zcP := ⟨⟨Tryd.t95, by kernel_rfl, rfl, rfl, fun z h => by cases h; exact ⟨_, rfl, rfl, fun S h => zx rfl⟩⟩, Tryd.underlying95, by intro h; cases h⟩
def zcO : TI := ⟨.slice 116, 1, 24, some (.osl 1 true []), false⟩
theorem z6G : j9 Tryd.prog 96 zcO := ⟨⟨Tryd.t96, by kernel_rfl, rfl, rfl, fun z h => by cases h; exact ⟨_, rfl, rfl, fun S h => wY _⟩⟩, Tryd.underlying96, by intro h; cases h⟩
def zcN : TI := ⟨.slice 96, 1, 24, some (.osl 1 true []), false⟩
theorem z6F : j9 Tryd.prog 98 zcN := ⟨⟨Tryd.t98, by kernel_rfl, rfl, rfl, fun z h => by cases h; exact ⟨_, rfl, rfl, fun S h => wY _⟩⟩, Tryd.underlying98, by intro h; cases h⟩
def z8Q : TI := ⟨.struct [(0, 1), (1, 1)], 2, 48, some (.agg [.osl 1 true [], .osl 1 true []]), false⟩
theorem z4m : j9 Tryd.prog 100 z8Q := ⟨⟨Tryd.t100, by kernel_rfl, rfl, rfl, fun z h => by cases h; exact ⟨_, rfl, rfl, fun S h => xU (zA (wY _) (zA (wY _) (x4)))⟩⟩, ⟨_, Tryd.underlying100, by kernel_rfl, by
  intro f hf
  simp only [List.mem_cons, List.not_mem_nil, or_false] at hf
  rcases hf with rfl | rfl
  ·exact ⟨Tryd.t98, by kernel_rfl⟩
  ·exact ⟨Tryd.t96, by kernel_rfl⟩⟩, by intro h; cases h⟩
def z8P : TI := ⟨.array 3 3, 3, 24, some (.agg [.atom (.int .i64 0), .atom (.int .i64 0), .atom (.int .i64 0)]), true⟩
theorem z4l : j9 Tryd.prog 107 z8P := ⟨⟨Tryd.t107, by kernel_rfl, rfl, rfl, fun z h => by cases h; exact ⟨_, rfl, rfl, fun S h => xU (zA (zx rfl) (zA (zx rfl) (zA (zx rfl) (x4))))⟩⟩, Tryd.underlying107, fun _ => X4 (Go.Ex.z7U.eqn rfl) rfl rfl rfl rfl⟩
def z8O : TI := ⟨.int .u64, 1, 8, some (.atom (.int .u64 0)), false⟩
theorem z4k : j9 Tryd.prog 116 z8O := ⟨⟨Tryd.t116, by kernel_rfl, rfl, rfl, fun z h => by cases h; exact ⟨_, rfl, rfl, fun S h => zx rfl⟩⟩, Tryd.underlying116, by intro h; cases h⟩
def z8N : TI := ⟨.other, 1, 8, some (.atom .nilFunc), false⟩
theorem z4j : j9 Tryd.prog 121 z8N := ⟨⟨Tryd.t121, by kernel_rfl, rfl, rfl, fun z h => by cases h; exact ⟨_, rfl, rfl, fun S h => zx rfl⟩⟩, ⟨_, Tryd.underlying121, rfl⟩, by intro h; cases h⟩
def z8M : TI := ⟨.other, 1, 8, some (.atom .nilFunc), false⟩
theorem z4i : j9 Tryd.prog 127 z8M := ⟨⟨Tryd.t127, by kernel_rfl, rfl, rfl, fun z h => by cases h; exact ⟨_, rfl, rfl, fun S h => zx rfl⟩⟩, ⟨_, Tryd.underlying127, rfl⟩, by intro h; cases h⟩
def z8L : TI := ⟨.other, 1, 8, some (.atom .nilFunc), false⟩
theorem z4h : j9 Tryd.prog 131 z8L := ⟨⟨Tryd.t131, by kernel_rfl, rfl, rfl, fun z h => by cases h; exact ⟨_, rfl, rfl, fun S h => zx rfl⟩⟩, ⟨_, Tryd.underlying131, rfl⟩, by intro h; cases h⟩
def z8K : TI := ⟨.other, 1, 8, some (.atom .nilFunc), false⟩
theorem z4g : j9 Tryd.prog 132 z8K := ⟨⟨Tryd.t132, by kernel_rfl, rfl, rfl, fun z h => by cases h; exact ⟨_, rfl, rfl, fun S h => zx rfl⟩⟩, ⟨_, Tryd.underlying132, rfl⟩, by intro h; cases h⟩
def z8J : TI := ⟨.struct [(0, 1), (1, 1), (2, 1)], 3, 24, some (.agg [.atom (.int .i64 0), .atom (.int .i64 0), .atom (.int .i64 0)]), true⟩
theorem z4f : j9 Tryd.prog 135 z8J := ⟨⟨Tryd.t135, by kernel_rfl, rfl, rfl, fun z h => by cases h; exact ⟨_, rfl, rfl, fun S h => xU (zA (zx rfl) (zA (zx rfl) (zA (zx rfl) (x4))))⟩⟩, ⟨_, Tryd.underlying135, by kernel_rfl, by
  intro f hf
  simp only [List.mem_cons, List.not_mem_nil, or_false] at hf
  rcases hf with rfl | rfl | rfl
  ·exact ⟨Tryd.t3, by kernel_rfl⟩
  ·exact ⟨Tryd.t3, by kernel_rfl⟩
  ·exact ⟨Tryd.t3, by kernel_rfl⟩⟩, fun _ => X4 (Go.Ex.z7T.eqn rfl) rfl rfl rfl rfl⟩
def z8I : TI := ⟨.other, 1, 8, some (.atom .nilFunc), false⟩
theorem z4e : j9 Tryd.prog 137 z8I := ⟨⟨Tryd.t137, by kernel_rfl, rfl, rfl, fun z h => by cases h; exact ⟨_, rfl, rfl, fun S h => zx rfl⟩⟩, ⟨_, Tryd.underlying137, rfl⟩, by intro h; cases h⟩
def z8H : TI := ⟨.other, 1, 8, some (.atom .nilFunc), false⟩
theorem z4d : j9 Tryd.prog 148 z8H := ⟨⟨Tryd.t148, by kernel_rfl, rfl, rfl, fun z h => by cases h; exact ⟨_, rfl, rfl, fun S h => zx rfl⟩⟩, ⟨_, Tryd.underlying148, rfl⟩, by intro h; cases h⟩
def z8G : TI := ⟨.slice 135, 1, 24, some (.osl 3 true []), false⟩
theorem z4c : j9 Tryd.prog 149 z8G := ⟨⟨Tryd.t149, by kernel_rfl, rfl, rfl, fun z h => by cases h; exact ⟨_, rfl, rfl, fun S h => wY _⟩⟩, Tryd.underlying149, by intro h; cases h⟩
def tiL : List (Nat × TI) := [(1, ti1), (2, ti2), (3, ti3), (4, ti4), (9, ti9), (28, zdf), (30, zde), (31, zdd), (34, zdc), (36, zdb), (37, zda), (40, zd9), (43, zd8), (45, zd7), (46, zd6), (47, zd5), (51, zd4), (56, zd3), (59, zd2), (67, zd1), (68, zd0), (69, zcZ), (71, zcY), (73, zcX), (75, zcW), (77, zcV), (81, zcU), (84, zcT), (85, zcS), (87, zcR), (90, zcQ), (95, zcP), (96, zcO), (98, zcN), (100, z8Q), (107, z8P), (116, z8O), (121, z8N), (127, z8M), (131, z8L), (132, z8K), (135, z8J), (137, z8I), (148, z8H), (149, z8G)]
def wz : TT := fun t => (tiL.find? fun p => p.1 == t).map (·.2)
def z3Z (P : Program) : List (Nat × TI) → Prop
 | [] => True
 | p :: l => j9 P p.1 p.2 ∧ z3Z P l
theorem z3Z.mem : ∀ {l : List (Nat × TI)}, z3Z P l → ∀ p ∈ l, j9 P p.1 p.2
 | p :: _, h, q, hq => by
  rcases List.mem_cons.1 hq with rfl | hq
  ·exact h.1
  ·exact z3Z.mem h.2 q hq
 | [], _, _, hq => by cases hq
theorem z8A : z3Z Tryd.prog tiL := ⟨z8F, z8E, z8D, z8C, z8B, z78, z75, z74, z21, z73, z72, z71, z6Z, z6Y, z6X, z6W, z6V, z6U, z6T, z6S, z6R, z6Q, z6P, z6O, z6N, z6M, z6L, z1Z, z6K, z6J, z6I, z6H, z6G, z6F, z4m, z4l, z4k, z4j, z4i, z4h, z4g, z4f, z4e, z4d, z4c, trivial⟩
theorem zD : xG Tryd.prog wz := by
 intro t i h
 unfold wz at h
 rw [Option.map_eq_some_iff] at h
 obtain ⟨p, h1, rfl⟩ := h
 have h2 := List.find?_some h1
 have h3 := z8A.mem p (List.mem_of_find?_eq_some h1)
 rw [beq_iff_eq.1 h2] at h3
 exact h3
theorem zeo : wz 1 = some ⟨.other, 1, 8, some (.atom .nilFunc), false⟩ := rfl
theorem zen : wz 2 = some ⟨.int .i64, 1, 8, some (.atom (.int .i64 0)), false⟩ := rfl
theorem zem : wz 3 = some ⟨.int .i64, 1, 8, some (.atom (.int .i64 0)), false⟩ := rfl
theorem zel : wz 4 = some ⟨.bool, 1, 1, some (.atom (.bool false)), false⟩ := rfl
theorem zek : wz 9 = some ⟨.str, 1, 16, some (.atom (.string ⟨#[]⟩)), false⟩ := rfl
theorem zcw : wz 28 = some ⟨.slice 51, 1, 24, some (.osl 1 true []), false⟩ := rfl
theorem zcv : wz 30 = some ⟨.struct [(0, 1), (1, 1), (2, 1)], 3, 40, some (.agg [.atom (.int .i64 0), .atom (.int .i64 0), .osl 1 true []]), false⟩ := rfl
theorem zcu : wz 31 = some ⟨.slice 43, 1, 24, some (.osl 1 true []), false⟩ := rfl
theorem zct : wz 34 = some ⟨.array 2 3, 2, 16, some (.agg [.atom (.int .i64 0), .atom (.int .i64 0)]), true⟩ := rfl
theorem zcs : wz 36 = some ⟨.struct [(0, 2), (2, 2), (4, 2)], 6, 48, some (.agg [.agg [.atom (.int .i64 0), .atom (.int .i64 0)], .agg [.atom (.int .i64 0), .atom (.int .i64 0)], .agg [.atom (.int .i64 0), .atom (.int .i64 0)]]), true⟩ := rfl
theorem zcr : wz 37 = some ⟨.int .i64, 1, 8, some (.atom (.int .i64 0)), false⟩ := rfl
theorem zcq : wz 40 = some ⟨.slice 4, 1, 24, some (.osl 1 true []), false⟩ := rfl
theorem zcp : wz 43 = some ⟨.slice 3, 1, 24, some (.osl 1 true []), false⟩ := rfl
theorem zco : wz 45 = some ⟨.other, 1, 8, some (.atom .nilFunc), false⟩ := rfl
theorem zcn : wz 46 = some ⟨.other, 1, 8, some (.atom .nilFunc), false⟩ := rfl
theorem zcm : wz 47 = some ⟨.other, 1, 8, some (.atom .nilFunc), false⟩ := rfl
theorem zcl : wz 51 = some ⟨.slice 81, 1, 24, some (.osl 2 true []), false⟩ := rfl
theorem zck : wz 56 = some ⟨.slice 34, 1, 24, some (.osl 2 true []), false⟩ := rfl
theorem zcj : wz 59 = some ⟨.slice 84, 1, 24, some (.osl 3 true []), false⟩ := rfl
theorem zci : wz 67 = some ⟨.other, 1, 8, some (.atom (.map none)), false⟩ := rfl
theorem zch : wz 68 = some ⟨.other, 1, 8, some (.atom (.map none)), false⟩ := rfl
theorem zcg : wz 69 = some ⟨.other, 1, 8, some (.atom (.map none)), false⟩ := rfl
theorem zcf : wz 71 = some ⟨.struct [(0, 1), (1, 1), (2, 1)], 3, 24, some (.agg [.atom (.map none), .atom (.map none), .atom (.map none)]), false⟩ := rfl
theorem zce : wz 73 = some ⟨.array 3 34, 6, 48, some (.agg [.agg [.atom (.int .i64 0), .atom (.int .i64 0)], .agg [.atom (.int .i64 0), .atom (.int .i64 0)], .agg [.atom (.int .i64 0), .atom (.int .i64 0)]]), true⟩ := rfl
theorem zcd : wz 75 = some ⟨.slice 87, 1, 24, some (.osl 5 true []), false⟩ := rfl
theorem zcc : wz 77 = some ⟨.other, 1, 8, some (.atom .nilFunc), false⟩ := rfl
theorem zcb : wz 81 = some ⟨.struct [(0, 1), (1, 1)], 2, 16, some (.agg [.atom (.int .i64 0), .atom (.int .i64 0)]), true⟩ := rfl
theorem zca : wz 84 = some ⟨.struct [(0, 1), (1, 1), (2, 1)], 3, 24, some (.agg [.atom (.int .i64 0), .atom (.int .i64 0), .atom (.int .i64 0)]), true⟩ := rfl
theorem zc9 : wz 85 = some ⟨.other, 1, 8, some (.atom .nilFunc), false⟩ := rfl
theorem zc8 : wz 87 = some ⟨.struct [(0, 1), (1, 3), (4, 1)], 5, 56, some (.agg [.osl 1 true [], .agg [.atom (.int .i64 0), .atom (.int .i64 0), .atom (.int .i64 0)], .atom .nilFunc]), false⟩ := rfl
theorem zc7 : wz 90 = some ⟨.array 3 9, 3, 48, some (.agg [.atom (.string ⟨#[]⟩), .atom (.string ⟨#[]⟩), .atom (.string ⟨#[]⟩)]), false⟩ := rfl
theorem zc6 : wz 95 = some ⟨.ptr 100, 1, 8, some (.atom (.pointer none)), false⟩ := rfl
theorem zc5 : wz 96 = some ⟨.slice 116, 1, 24, some (.osl 1 true []), false⟩ := rfl
theorem zc4 : wz 98 = some ⟨.slice 96, 1, 24, some (.osl 1 true []), false⟩ := rfl
theorem zai : wz 100 = some ⟨.struct [(0, 1), (1, 1)], 2, 48, some (.agg [.osl 1 true [], .osl 1 true []]), false⟩ := rfl
theorem zah : wz 107 = some ⟨.array 3 3, 3, 24, some (.agg [.atom (.int .i64 0), .atom (.int .i64 0), .atom (.int .i64 0)]), true⟩ := rfl
theorem zag : wz 116 = some ⟨.int .u64, 1, 8, some (.atom (.int .u64 0)), false⟩ := rfl
theorem zaf : wz 121 = some ⟨.other, 1, 8, some (.atom .nilFunc), false⟩ := rfl
theorem zae : wz 127 = some ⟨.other, 1, 8, some (.atom .nilFunc), false⟩ := rfl
theorem zad : wz 131 = some ⟨.other, 1, 8, some (.atom .nilFunc), false⟩ := rfl
theorem zac : wz 132 = some ⟨.other, 1, 8, some (.atom .nilFunc), false⟩ := rfl
theorem zab : wz 135 = some ⟨.struct [(0, 1), (1, 1), (2, 1)], 3, 24, some (.agg [.atom (.int .i64 0), .atom (.int .i64 0), .atom (.int .i64 0)]), true⟩ := rfl
theorem zaa : wz 137 = some ⟨.other, 1, 8, some (.atom .nilFunc), false⟩ := rfl
theorem za9 : wz 148 = some ⟨.other, 1, 8, some (.atom .nilFunc), false⟩ := rfl
theorem za8 : wz 149 = some ⟨.slice 135, 1, 24, some (.osl 3 true []), false⟩ := rfl
attribute [go_sem] zeo zen zem zel zek zcw zcv zcu zct zcs zcr zcq zcp zco zcn zcm zcl zck zcj zci zch zcg zcf zce zcd zcc zcb zca zc9 zc8 zc7 zc6 zc5 zc4 zai zah zag zaf zae zad zac zab zaa za9 za8
end Go.Own

namespace Go.Proofs
open Go.Shelf
def Tryd.ito_ren : Go.Shelf.Ren := ⟨fun | 171 => 34 | 243 => 52 | 246 => 72 | 283 => 83 | 284 => 84 | 285 => 85 | 286 => 86 | 129 => 98 | 317 => 100 | 318 => 101 | 319 => 102 | 320 => 103 | 337 => 109 | 338 => 110 | n => n, fun | 3 => 3 | 9 => 9 | 2 => 2 | 4 => 4 | 171 => 143 | 0 => 0 | 53 => 116 | 37 => 65 | 5 => 5 | 173 => 146 | 212 => 162 | 51 => 160 | 20 => 20 | 213 => 163 | 46 => 140 | 232 => 173 | 233 => 174 | n => n, fun | 17 => 0 | 18 => 1 | 19 => 2 | n => n⟩
theorem Tryd.ito : Go.Proofs.LaysM.n171 Tryd.prog Tryd.ito_ren := {
 mixed := by kernel_rfl
 f129 := Tryd.func98.trans (congrArg some (by kernel_rfl))
 f171 := Tryd.func34.trans (congrArg some (by kernel_rfl))
 f243 := Tryd.func52.trans (congrArg some (by kernel_rfl))
 f246 := Tryd.func72.trans (congrArg some (by kernel_rfl))
 f283 := Tryd.func83.trans (congrArg some (by kernel_rfl))
 f284 := Tryd.func84.trans (congrArg some (by kernel_rfl))
 f285 := Tryd.func85.trans (congrArg some (by kernel_rfl))
 f286 := Tryd.func86.trans (congrArg some (by kernel_rfl))
 f317 := Tryd.func100.trans (congrArg some (by kernel_rfl))
 f318 := Tryd.func101.trans (congrArg some (by kernel_rfl))
 f319 := Tryd.func102.trans (congrArg some (by kernel_rfl))
 f320 := Tryd.func103.trans (congrArg some (by kernel_rfl))
 f337 := Tryd.func109.trans (congrArg some (by kernel_rfl))
 f338 := Tryd.func110.trans (congrArg some (by kernel_rfl))
 t0 := Tryd.underlying0
 a0 := Tryd.isAgg0
 z0 := Tryd.sizeOf0
 v0 := Tryd.zeroValue0
 t2 := Tryd.underlying2
 a2 := Tryd.isAgg2
 z2 := Tryd.sizeOf2
 v2 := Tryd.zeroValue2
 t3 := Tryd.underlying3
 a3 := Tryd.isAgg3
 z3 := Tryd.sizeOf3
 v3 := Tryd.zeroValue3
 t4 := Tryd.underlying4
 a4 := Tryd.isAgg4
 z4 := Tryd.sizeOf4
 v4 := Tryd.zeroValue4
 t5 := Tryd.underlying5
 a5 := Tryd.isAgg5
 z5 := Tryd.sizeOf5
 v5 := Tryd.zeroValue5
 t9 := Tryd.underlying9
 a9 := Tryd.isAgg9
 z9 := Tryd.sizeOf9
 v9 := Tryd.zeroValue9
 t20 := Tryd.underlying20
 a20 := Tryd.isAgg20
 z20 := Tryd.sizeOf20
 v20 := Tryd.zeroValue20
 t37 := Tryd.underlying65
 a37 := Tryd.isAgg65
 z37 := Tryd.sizeOf65
 v37 := Tryd.zeroValue65
 t46 := Tryd.underlying140
 a46 := Tryd.isAgg140
 z46 := Tryd.sizeOf140
 v46 := Tryd.zeroValue140
 t51 := Tryd.underlying160
 a51 := Tryd.isAgg160
 z51 := Tryd.sizeOf160
 v51 := Tryd.zeroValue160
 t53 := Tryd.underlying116
 a53 := Tryd.isAgg116
 z53 := Tryd.sizeOf116
 v53 := Tryd.zeroValue116
 t171 := Tryd.underlying143
 a171 := Tryd.isAgg143
 z171 := Tryd.sizeOf143
 v171 := Tryd.zeroValue143
 t173 := Tryd.underlying146
 a173 := Tryd.isAgg146
 z173 := Tryd.sizeOf146
 v173 := Tryd.zeroValue146
 t212 := Tryd.underlying162
 a212 := Tryd.isAgg162
 z212 := Tryd.sizeOf162
 v212 := Tryd.zeroValue162
 t213 := Tryd.underlying163
 a213 := Tryd.isAgg163
 z213 := Tryd.sizeOf163
 t232 := Tryd.underlying173
 a232 := Tryd.isAgg173
 z232 := Tryd.sizeOf173
 v232 := Tryd.zeroValue173
 t233 := Tryd.underlying174
 a233 := Tryd.isAgg174
 z233 := Tryd.sizeOf174
 v233 := Tryd.zeroValue174
 g17 := by kernel_rfl
 g18 := by kernel_rfl
 g19 := by kernel_rfl
 i0 := by kernel_rfl
 i2 := by kernel_rfl
 i3 := by kernel_rfl
 i4 := by kernel_rfl
 i5 := by kernel_rfl
 i9 := by kernel_rfl
 i20 := by kernel_rfl
 i37 := by kernel_rfl
 i46 := by kernel_rfl
 i51 := by kernel_rfl
 i53 := by kernel_rfl
 i171 := by kernel_rfl
 i173 := by kernel_rfl
 i212 := by kernel_rfl
 i232 := by kernel_rfl
 i233 := by kernel_rfl
 m17 := by kernel_rfl
 m18 := by kernel_rfl
 m19 := by kernel_rfl }
end Go.Proofs
namespace Go.Own
open Go.Proofs Go.Shelf
theorem JN {S : zj} (k : IntKind) : ∀ (l : List Int) (cs : List Value), ya S (l.map fun n => A.atom (.int k n)) cs → cs = l.map fun n => Value.int k n
 | [], cs, h => by simpa [ya] using h
 | n :: l, cs, h => by
  simp only [List.map_cons, ya] at h
  obtain ⟨c1, c2, rfl, h1, h2⟩ := h
  simp only [Rep] at h1
  rw [h1.1, JN k l c2 h2]
  rfl
theorem z7N {S : zj} {w : World} (hS : yV S w) : Lib.TabIs Tryd.prog w "internal/strconv.uint64pow10" .u64 Lib.pow10Tab := by
 have hx : z1P 0 = some (.agg (zb9.map fun n => .atom (.int .u64 n))) := rfl
 obtain ⟨l, h1, h2⟩ := hS.gok 0 _ hx
 obtain ⟨⟨c, ty, fr, h3, h4⟩, _⟩ := hS.blk 0 _ hx
 simp only [Rep] at h1
 have hl := JN _ _ _ h1
 have hz : c.size = 20 := h4
 have hc : c.toList = l := by
  apply List.ext_getElem?
  intro j
  by_cases hj : j < l.length
  ·have h5 := hS.cell 0 (0 + j) l[j] (h2 j _ (List.getElem?_eq_getElem hj))
   unfold y6 at h5
   rw [h3, Nat.zero_add] at h5
   rw [List.getElem?_eq_getElem hj]
   simpa using h5
  ·have : l.length = 20 := by rw [hl]; rfl
   have : c.toList.length = 20 := by simpa using hz
   rw [List.getElem?_eq_none (by omega), List.getElem?_eq_none (by omega)]
 have hg : Tryd.prog.globalNamed "internal/strconv.uint64pow10" = some 0 := by kernel_rfl
 unfold Lib.TabIs World.var?
 rw [hg, Option.bind_some, h3]
 have : c = l.toArray := by rw [← hc]
 rw [this, hl]
 rfl
theorem z5b (i : Int) (h0 : -9223372036854775808 ≤ i) (h1 : i ≤ 9223372036854775807) : kJ Tryd.prog 34 [eI .i64 i] (Jq (Lib.itoa i)) := by
 refine ⟨⟨_, Tryd.func34, by kernel_rfl, by kernel_rfl⟩, ?_⟩
 intro S w vs F hS hq hF
 obtain ⟨v, rfl, rfl, rfl⟩ : ∃ v, vs = [v] ∧ v = .int .i64 i ∧ F = [] := by
  match vs, hq with
  | [v], hq =>
   obtain ⟨F1, F2, rfl, q1, q2⟩ := hq
   have e2 : F2 = [] := q2
   subst e2
   rcases q1 with ⟨q, rfl⟩ | ⟨cs, q1, q2, q3⟩
   ·exact ⟨v, rfl, (zp.1 q).1, rfl⟩
   ·obtain ⟨r, rfl⟩ := q1.isD rfl
    simp only [eI, Rep] at r
    obtain rfl := r.1
    exact ⟨v, rfl, q3, rfl⟩
 refine (Any.strconv_Itoa Tryd.ito i h0 h1 w (z7N hS)).mono ?_
 rintro e w' ⟨rfl, k, os, rfl⟩
 have hoth : ∀ b, b < w.heap.size → (Sort.grow (w.drewN k) os).heap[b]? = w.heap[b]? := fun b hb => by
  show (w.heap ++ os)[b]? = w.heap[b]?
  rw [Array.getElem?_append_left hb]
 refine ⟨_, S, [], rfl, ⟨rfl, rfl, rfl, Nat.le_add_right _ _, ?_, fun b hb => hoth b (by omega)⟩, fun _ _ _ h => h, fun _ _ _ _ => rfl, ⟨fun b o v hv => ?_, hS.gok, hS.blk.of (fun _ _ _ q => q) fun g x e => hoth g (hS.blk.lt e)⟩, .inl ⟨zp.2 ⟨rfl, rfl⟩, rfl⟩, by simp, by simp⟩
 ·show w.heap.size ≤ (w.heap ++ os).size
  rw [Array.size_append]
  omega
 ·have h3 := hS.cell b o v hv
  unfold y6 at h3 ⊢
  cases hq : w.heap[b]? with
  | none => rw [hq] at h3; cases h3
  | some obj => rw [hoth b (Array.getElem?_eq_some_iff.1 hq).1]; exact h3
structure yu (α : Type) where
 e0 : α
 e1 : α
 deriving DecidableEq
instance {α : Type} [BEq α] : BEq (yu α) := ⟨fun x y => (x.e0 == y.e0) && (x.e1 == y.e1)⟩
section
variable {α : Type}
def XB (f : α → A) (x : yu α) : A := .agg [f x.e0, f x.e1]
instance (f : α → A) [h : WD f] : WD (XB f) := ⟨fun x => by simp [XB, A.isD, A.areD, h.isD]⟩
instance (f g : α → A) [h : Xj f g] : Xj (XB f) (XB g) := ⟨fun x => by simp [XB, A.loose, A.looses, h.lo]⟩
instance (f g : α → A) [h : UJ f g] : UJ (XB f) (XB g) := ⟨fun x => by simp [XB, A.live, A.lives, h.live], fun x => by simp [XB, A.shut, A.shuts, h.sh]⟩
instance (f : α → A) [h : jb f] : jb (XB f) := ⟨fun x y q => by
 simp only [XB, A.agg.injEq, List.cons.injEq, and_true] at q
 cases x; cases y
 simp only [yu.mk.injEq]
 exact ⟨h.inj _ _ q.1, h.inj _ _ q.2⟩⟩
end
structure kL (α : Type) where
 e0 : α
 e1 : α
 e2 : α
 deriving DecidableEq
section
variable {α : Type}
def z9P (f : α → A) (x : kL α) : A := .agg [f x.e0, f x.e1, f x.e2]
end
section
variable {α : Type}
def kL.toL (x : kL α) : List α := [x.e0, x.e1, x.e2]
def kL.ofL : List α → kL α → kL α
 | [x0, x1, x2], _ => ⟨x0, x1, x2⟩
 | _, d => d
theorem kL.toL_ofL (l : List α) (d : kL α) (h : l.length = 3) : (kL.ofL l d).toL = l := by
 match l, h with
 | [x0, x1, x2], _ => rfl
def kL.setI (x : kL α) (i : Int) (v : α) : kL α := kL.ofL (x.toL.set i.toNat v) x
theorem kL.setL (f : α → A) (x : kL α) (i : Int) (v : α) : (x.toL.map f).set i.toNat (f v) = ((kL.setI x i v).toL).map f := by
 unfold kL.setI
 rw [kL.toL_ofL _ _ (by simp [kL.toL]), List.map_set]
end
structure z7 where
 State : Int
 Input : Int
 Next : Int
instance : BEq z7 := ⟨fun x y => (x.State == y.State) && (x.Input == y.Input) && (x.Next == y.Next)⟩
def zW (f0 : Int → A) (f1 : Int → A) (f2 : Int → A) (x : z7) : A := .agg [f0 x.State, f1 x.Input, f2 x.Next]
instance (f0 : Int → A) (f1 : Int → A) (f2 : Int → A) [h0 : WD f0] [h1 : WD f1] [h2 : WD f2] : WD (zW f0 f1 f2) := ⟨fun x => by simp [zW, A.isD, A.areD, h0.isD, h1.isD, h2.isD]⟩
instance (f0 : Int → A) (f1 : Int → A) (f2 : Int → A) (g0 : Int → A) (g1 : Int → A) (g2 : Int → A) [h0 : Xj f0 g0] [h1 : Xj f1 g1] [h2 : Xj f2 g2] : Xj (zW f0 f1 f2) (zW g0 g1 g2) := ⟨fun x => by simp [zW, A.loose, A.looses, h0.lo, h1.lo, h2.lo]⟩
instance (f0 : Int → A) (f1 : Int → A) (f2 : Int → A) (g0 : Int → A) (g1 : Int → A) (g2 : Int → A) [h0 : UJ f0 g0] [h1 : UJ f1 g1] [h2 : UJ f2 g2] : UJ (zW f0 f1 f2) (zW g0 g1 g2) := ⟨fun x => by simp [zW, A.live, A.lives, h0.live, h1.live, h2.live], fun x => by simp [zW, A.shut, A.shuts, h0.sh, h1.sh, h2.sh]⟩
instance (f0 : Int → A) (f1 : Int → A) (f2 : Int → A) [h0 : jb f0] [h1 : jb f1] [h2 : jb f2] : jb (zW f0 f1 f2) := ⟨fun x y h => by
 simp only [zW, A.agg.injEq, List.cons.injEq, and_true] at h
 cases x; cases y
 simp only [z7.mk.injEq]
 exact ⟨h0.inj _ _ h.1, h1.inj _ _ h.2.1, h2.inj _ _ h.2.2⟩⟩
structure zf where
 To : Int
 Out : Int
def wn (f0 : Int → A) (f1 : Int → A) (x : zf) : A := .agg [f0 x.To, f1 x.Out]
instance (f0 : Int → A) (f1 : Int → A) [h0 : WD f0] [h1 : WD f1] : WD (wn f0 f1) := ⟨fun x => by simp [wn, A.isD, A.areD, h0.isD, h1.isD]⟩
instance (f0 : Int → A) (f1 : Int → A) (g0 : Int → A) (g1 : Int → A) [h0 : Xj f0 g0] [h1 : Xj f1 g1] : Xj (wn f0 f1) (wn g0 g1) := ⟨fun x => by simp [wn, A.loose, A.looses, h0.lo, h1.lo]⟩
instance (f0 : Int → A) (f1 : Int → A) (g0 : Int → A) (g1 : Int → A) [h0 : UJ f0 g0] [h1 : UJ f1 g1] : UJ (wn f0 f1) (wn g0 g1) := ⟨fun x => by simp [wn, A.live, A.lives, h0.live, h1.live], fun x => by simp [wn, A.shut, A.shuts, h0.sh, h1.sh]⟩
instance (f0 : Int → A) (f1 : Int → A) [h0 : jb f0] [h1 : jb f1] : jb (wn f0 f1) := ⟨fun x y h => by
 simp only [wn, A.agg.injEq, List.cons.injEq, and_true] at h
 cases x; cases y
 simp only [zf.mk.injEq]
 exact ⟨h0.inj _ _ h.1, h1.inj _ _ h.2⟩⟩
structure z8 where
 Inputs : Int
 Outputs : Int
 Rows : List (List zf)
def wV (f0 : Int → A) (f1 : Int → A) (f2 : List (List zf) → A) (x : z8) : A := .agg [f0 x.Inputs, f1 x.Outputs, f2 x.Rows]
instance (f0 : Int → A) (f1 : Int → A) (f2 : List (List zf) → A) (g0 : Int → A) (g1 : Int → A) (g2 : List (List zf) → A) [h0 : Xj f0 g0] [h1 : Xj f1 g1] [h2 : Xj f2 g2] : Xj (wV f0 f1 f2) (wV g0 g1 g2) := ⟨fun x => by simp [wV, A.loose, A.looses, h0.lo, h1.lo, h2.lo]⟩
instance (f0 : Int → A) (f1 : Int → A) (f2 : List (List zf) → A) [h0 : jb f0] [h1 : jb f1] [h2 : jb f2] : jb (wV f0 f1 f2) := ⟨fun x y h => by
 simp only [wV, A.agg.injEq, List.cons.injEq, and_true] at h
 cases x; cases y
 simp only [z8.mk.injEq]
 exact ⟨h0.inj _ _ h.1, h1.inj _ _ h.2.1, h2.inj _ _ h.2.2⟩⟩
structure zg where
 states_ : List (Int × Bool)
 edges_ : List ((yu Int) × Bool)
 pairs_ : List (z7 × Bool)
def zO (f0 : List (Int × Bool) → A) (f1 : List ((yu Int) × Bool) → A) (f2 : List (z7 × Bool) → A) (x : zg) : A := .agg [f0 x.states_, f1 x.edges_, f2 x.pairs_]
structure zh where
 state_ : Int
 from_ : Int
 input_ : Int
def jG (f0 : Int → A) (f1 : Int → A) (f2 : Int → A) (x : zh) : A := .agg [f0 x.state_, f1 x.from_, f2 x.input_]
instance (f0 : Int → A) (f1 : Int → A) (f2 : Int → A) [h0 : WD f0] [h1 : WD f1] [h2 : WD f2] : WD (jG f0 f1 f2) := ⟨fun x => by simp [jG, A.isD, A.areD, h0.isD, h1.isD, h2.isD]⟩
structure za where
 word_ : List Int
 pair_ : z7
 has_ : Int ⊕ (Int × Int) ⊕ z7
def zb (f0 : List Int → A) (f1 : z7 → A) (f2 : Int ⊕ (Int × Int) ⊕ z7 → A) (x : za) : A := .agg [f0 x.word_, f1 x.pair_, f2 x.has_]
instance (f0 : List Int → A) (f1 : z7 → A) (f2 : Int ⊕ (Int × Int) ⊕ z7 → A) [h0 : WD f0] [h1 : WD f1] [h2 : WD f2] : WD (zb f0 f1 f2) := ⟨fun x => by simp [zb, A.isD, A.areD, h0.isD, h1.isD, h2.isD]⟩
instance (f0 : List Int → A) (f1 : z7 → A) (f2 : Int ⊕ (Int × Int) ⊕ z7 → A) (g0 : List Int → A) (g1 : z7 → A) (g2 : Int ⊕ (Int × Int) ⊕ z7 → A) [h0 : UJ f0 g0] [h1 : UJ f1 g1] [h2 : UJ f2 g2] : UJ (zb f0 f1 f2) (zb g0 g1 g2) := ⟨fun x => by simp [zb, A.live, A.lives, h0.live, h1.live, h2.live], fun x => by simp [zb, A.shut, A.shuts, h0.sh, h1.sh, h2.sh]⟩
structure zC where
 States : yu Int
 Edges : yu Int
 Pairs : yu Int
def x6 (f0 : yu Int → A) (f1 : yu Int → A) (f2 : yu Int → A) (x : zC) : A := .agg [f0 x.States, f1 x.Edges, f2 x.Pairs]
instance (f0 : yu Int → A) (f1 : yu Int → A) (f2 : yu Int → A) (g0 : yu Int → A) (g1 : yu Int → A) (g2 : yu Int → A) [h0 : Xj f0 g0] [h1 : Xj f1 g1] [h2 : Xj f2 g2] : Xj (x6 f0 f1 f2) (x6 g0 g1 g2) := ⟨fun x => by simp [x6, A.loose, A.looses, h0.lo, h1.lo, h2.lo]⟩
instance (f0 : yu Int → A) (f1 : yu Int → A) (f2 : yu Int → A) [h0 : jb f0] [h1 : jb f1] [h2 : jb f2] : jb (x6 f0 f1 f2) := ⟨fun x y h => by
 simp only [x6, A.agg.injEq, List.cons.injEq, and_true] at h
 cases x; cases y
 simp only [zC.mk.injEq]
 exact ⟨h0.inj _ _ h.1, h1.inj _ _ h.2.1, h2.inj _ _ h.2.2⟩⟩
structure zw where
 sets_ : List (List Int)
 want_ : List Int
def yQ (f0 : List (List Int) → A) (f1 : List Int → A) (x : zw) : A := .agg [f0 x.sets_, f1 x.want_]
instance (f0 : List (List Int) → A) (f1 : List Int → A) (g0 : List (List Int) → A) (g1 : List Int → A) [h0 : Xj f0 g0] [h1 : Xj f1 g1] : Xj (yQ f0 f1) (yQ g0 g1) := ⟨fun x => by simp [yQ, A.loose, A.looses, h0.lo, h1.lo]⟩
instance (f0 : List (List Int) → A) (f1 : List Int → A) [h0 : jb f0] [h1 : jb f1] : jb (yQ f0 f1) := ⟨fun x y h => by
 simp only [yQ, A.agg.injEq, List.cons.injEq, and_true] at h
 cases x; cases y
 simp only [zw.mk.injEq]
 exact ⟨h0.inj _ _ h.1, h1.inj _ _ h.2⟩⟩
instance : zbi (K := yu Int) (XB (eI .i64)) := ⟨fun x y => by
 obtain ⟨_, _⟩ := x
 obtain ⟨_, _⟩ := y
 simp only [XB, eI, Xk, V9, V9.keyLs, zK, BEq.beq, Option.map_some, Option.some.injEq, Value.agg.injEq, List.cons_append, List.nil_append, List.append_nil, Array.mk.injEq, List.cons.injEq, Value.int.injEq, true_and, and_true, Bool.and_eq_true, decide_eq_true_eq, and_assoc]⟩
instance : zbi (K := z7) (zW (eI .i64) (eI .i64) (eI .i64)) := ⟨fun x y => by
 obtain ⟨_, _, _⟩ := x
 obtain ⟨_, _, _⟩ := y
 simp only [zW, eI, Xk, V9, V9.keyLs, zK, BEq.beq, Option.map_some, Option.some.injEq, Value.agg.injEq, List.cons_append, List.nil_append, List.append_nil, Array.mk.injEq, List.cons.injEq, Value.int.injEq, true_and, and_true, Bool.and_eq_true, decide_eq_true_eq, and_assoc]⟩
def z9v : Int ⊕ (Int × Int) ⊕ z7 → Nat
 | (.inl _) => 45
 | (.inr (.inl _)) => 46
 | (.inr (.inr _)) => 47
def z9Z : Int ⊕ (Int × Int) ⊕ z7 → List A
 | (.inl c) => [.sptr (I c)]
 | (.inr (.inl c)) => [.sptr (I c.1), .sptr (I c.2)]
 | (.inr (.inr c)) => [.sptr (.agg [I c.State, I c.Input, I c.Next])]
def zB (x : Int ⊕ (Int × Int) ⊕ z7) : A := .fn (z9v x) (z9Z x)
instance : WD zB := ⟨fun _ => rfl⟩
instance : UJ zB zB := ⟨fun _ => rfl, fun _ => rfl⟩
def Ze (inputs : Int) (em : List (List zf)) : Option z8 :=
 some (z8.mk inputs 1 em)
def jl (s_ : Int) (dz : List (List zf)) : Option (LR (List (List zf) × Int) (List (List zf))) :=
 some (.next (dz, w64 (s_ + 1)))
def jk (bi : List (List zf)) (s_ : Int) (row : List zf) : Option (LR (List (List zf) × Int) (List (List zf))) :=
 gd (bi.length + ([row] : List (List zf)).length ≤ 4294967296) <|
 jl s_ (bi ++ ([row] : List (List zf)))
def vF (n_ : Int) (inputs : Int) (s_ : Int) (d9 : List zf) (i_ : Int) : Option (LR (List zf × Int) (List zf)) :=
 bif decide (i_ < inputs) then (
  gd ((n_ : Int) ≠ 0) <|
  gd (d9.length + ([(zf.mk (Int.tmod (w64 ((w64 (s_ + i_)) + 1)) n_) 0)] : List zf).length ≤ 4294967296) <|
  some (.next ((d9 ++ ([(zf.mk (Int.tmod (w64 ((w64 (s_ + i_)) + 1)) n_) 0)] : List zf)), w64 (i_ + 1))))
 else (
  some (.done d9))
def vG (n_ : Int) (inputs : Int) (bi : List (List zf)) (s_ : Int) : Option (LR (List (List zf) × Int) (List (List zf))) :=
 bif decide (s_ < n_) then (
  (loop (fun s => vF n_ inputs s_ s.1 s.2) (([] : List zf), 0)).bind fun t5 =>
  jk bi s_ t5)
 else (
  some (.done bi))
def vH (n_ : Int) (inputs : Int) : Option z8 :=
 (loop (fun s => vG n_ inputs s.1 s.2) (([] : List (List zf)), 0)).bind fun t2 =>
 Ze inputs t2
def jj : Option zf :=
 some (zf.mk (-1) (-1))
def uz (m_ : z8) (x_ : zf) : Option Bool :=
 (jj).bind fun r_ =>
 bif (x_.To == r_.To) && ((x_.Out == r_.Out) && true) then (
  some true)
 else (
  bif decide (x_.To ≥ 0) then (
   bif decide (x_.To < ((m_.Rows.length : Nat) : Int)) then (
    bif decide (x_.Out ≥ 0) then (
     some (decide (x_.Out < m_.Outputs)))
    else (
     some false))
   else (
    some false))
  else (
   some false))
def u7 (x_ : zf) (x1 : z8) : Option Bool :=
 (uz x1 x_).bind fun r_ =>
 some (!r_)
def yz : Option Int :=
 some (-1)
def zL (s_ : List zf) (f_ : z8) (x8 : Int) : Option (LR Int (Unit ⊕ Int)) :=
 bif decide (x8 < ((s_.length : Nat) : Int)) then (
  (idx s_ x8).bind fun de =>
  (u7 de f_).bind fun r_ =>
  bif r_ then (
   some (.done (.inr x8)))
  else (
   some (.next (w64 (x8 + 1)))))
 else (
  some (.done (.inl ())))
def yi (s_ : List zf) (f_ : z8) : Option Int :=
 (loop (fun s => zL s_ f_ s) 0).bind fun t2 =>
 match t2 with
 | .inl p => yz
 | .inr p => some p
def zT (s_ : List zf) (f_ : z8) : Option Bool :=
 (yi s_ f_).bind fun r_ =>
 some (decide (r_ ≥ 0))
def qd : Option Int :=
 some 0
def xX (m_ : z8) (ft : Int) : Option (LR Int (Unit ⊕ Int)) :=
 bif decide (ft < ((m_.Rows.length : Nat) : Int)) then (
  (idx m_.Rows ft).bind fun av =>
  bif ((av.length : Nat) : Int) != m_.Inputs then (
   some (.done (.inr 1)))
  else (
   (zT av m_).bind fun r_ =>
   bif r_ then (
    some (.done (.inr 1)))
   else (
    some (.next (w64 (ft + 1))))))
 else (
  some (.done (.inl ())))
def vg (m_ : z8) : Option Int :=
 bif decide (m_.Inputs > 16) then (
  some 3)
 else (
  bif decide (m_.Outputs > 16) then (
   some 3)
  else (
   bif decide (((m_.Rows.length : Nat) : Int) > 64) then (
    some 3)
   else (
    bif decide (m_.Inputs < 1) then (
     some 1)
    else (
     bif decide (m_.Outputs < 1) then (
      some 1)
     else (
      bif decide (((m_.Rows.length : Nat) : Int) < 1) then (
       some 1)
      else (
       (loop (fun s => xX m_ s) 0).bind fun t2 =>
       match t2 with
       | .inl p => qd
       | .inr p => some p))))))
def je (c_ : Int) (x1 : Int) : Option Bool :=
 bif decide (c_ < 0) then (
  some true)
 else (
  some (decide (c_ ≥ x1)))
def w5 : Option Int :=
 some (-1)
def yb (s_ : List Int) (f_ : Int) (x8 : Int) : Option (LR Int (Unit ⊕ Int)) :=
 bif decide (x8 < ((s_.length : Nat) : Int)) then (
  (idx s_ x8).bind fun de =>
  (je de f_).bind fun r_ =>
  bif r_ then (
   some (.done (.inr x8)))
  else (
   some (.next (w64 (x8 + 1)))))
 else (
  some (.done (.inl ())))
def xI (s_ : List Int) (f_ : Int) : Option Int :=
 (loop (fun s => yb s_ f_ s) 0).bind fun t2 =>
 match t2 with
 | .inl p => w5
 | .inr p => some p
def yX (s_ : List Int) (f_ : Int) : Option Bool :=
 (xI s_ f_).bind fun r_ =>
 some (decide (r_ ≥ 0))
def uU (w_ : List Int) (inputs : Int) : Option Int :=
 bif decide (inputs > 16) then (
  some 3)
 else (
  bif decide (((w_.length : Nat) : Int) > 256) then (
   some 3)
  else (
   bif decide (inputs < 1) then (
    some 1)
   else (
    (yX w_ inputs).bind fun r_ =>
    bif r_ then (
     some 1)
    else (
     some 0))))
def ka : Option Int :=
 some 0
def vd (l_ : List (List Int)) (inputs : Int) (fw : Int) : Option (LR Int (Unit ⊕ Int)) :=
 bif decide (fw < ((l_.length : Nat) : Int)) then (
  (idx l_ fw).bind fun bk =>
  (uU bk inputs).bind fun r_ =>
  bif r_ != 0 then (
   some (.done (.inr r_)))
  else (
   some (.next (w64 (fw + 1)))))
 else (
  some (.done (.inl ())))
def uX (l_ : List (List Int)) (inputs : Int) : Option Int :=
 bif decide (inputs > 16) then (
  some 3)
 else (
  bif decide (((l_.length : Nat) : Int) > 4096) then (
   some 3)
  else (
   bif decide (inputs < 1) then (
    some 1)
   else (
    (loop (fun s => vd l_ inputs s) 0).bind fun t2 =>
    match t2 with
    | .inl p => ka
    | .inr p => some p)))
def uG (x_ : Int) : Option Bool :=
 some (x_ != x_)
def wM (x_ : Int) (y_ : Int) : Option Int :=
 (uG x_).bind fun r_ =>
 (uG y_).bind fun ah =>
 bif r_ then (
  bif ah then (
   some 0)
  else (
   some (-1)))
 else (
  bif ah then (
   some 1)
  else (
   bif decide (x_ < y_) then (
    some (-1))
   else (
    bif decide (x_ > y_) then (
     some 1)
    else (
     some 0))))
def xv (s1 : List Int) (s2 : List Int) : Option Int :=
 bif decide (((s1.length : Nat) : Int) < ((s2.length : Nat) : Int)) then (
  some (-1))
 else (
  some 0)
def yj (s1 : List Int) (s2 : List Int) (dl : Int) : Option (LR Int (Unit ⊕ Int)) :=
 bif decide (dl < ((s1.length : Nat) : Int)) then (
  (idx s1 dl).bind fun fx =>
  bif decide (dl ≥ ((s2.length : Nat) : Int)) then (
   some (.done (.inr 1)))
  else (
   (idx s2 dl).bind fun fc =>
   (wM fx fc).bind fun r_ =>
   bif r_ != 0 then (
    some (.done (.inr r_)))
   else (
    some (.next (w64 (dl + 1))))))
 else (
  some (.done (.inl ())))
def xh (s1 : List Int) (s2 : List Int) : Option Int :=
 (loop (fun s => yj s1 s2 s) 0).bind fun t2 =>
 match t2 with
 | .inl p => xv s1 s2
 | .inr p => some p
def jm : Option Int :=
 some 0
def vK (vals : List Int) (x8 : Int) : Option (LR Int (Unit ⊕ Int)) :=
 bif decide (x8 < ((vals.length : Nat) : Int)) then (
  (idx vals x8).bind fun gg =>
  bif gg != 0 then (
   some (.done (.inr gg)))
  else (
   some (.next (w64 (x8 + 1)))))
 else (
  some (.done (.inl ())))
def kE (vals : List Int) : Option Int :=
 (loop (fun s => vK vals s) 0).bind fun t2 =>
 match t2 with
 | .inl p => jm
 | .inr p => some p
def yK (a_ : List Int) (b_ : List Int) : Option Int :=
 (wM ((a_.length : Nat) : Int) ((b_.length : Nat) : Int)).bind fun r_ =>
 (xh a_ b_).bind fun ah =>
 (kE ([r_, ah])).bind fun aj =>
 some aj
def qw : Option Bool :=
 some true
def ve (l_ : List (List Int)) (i_ : Int) : Option (LR Int (Unit ⊕ Bool)) :=
 bif decide (i_ < ((l_.length : Nat) : Int)) then (
  (idx l_ (w64 (i_ - 1))).bind fun bk =>
  (idx l_ i_).bind fun cu =>
  (yK bk cu).bind fun r_ =>
  bif decide (r_ ≥ 0) then (
   some (.done (.inr false)))
  else (
   some (.next (w64 (i_ + 1)))))
 else (
  some (.done (.inl ())))
def js (l_ : List (List Int)) : Option Bool :=
 (loop (fun s => ve l_ s) 1).bind fun t2 =>
 match t2 with
 | .inl p => qw
 | .inr p => some p
def k9 (n_ : Int) : Option Int :=
 some n_
def va (l_ : List (List Int)) (dg : Int) (x7 : Int) : Option (LR (Int × Int) Int) :=
 bif decide (x7 < ((l_.length : Nat) : Int)) then (
  (idx l_ x7).bind fun bk =>
  some (.next (w64 (dg + ((bk.length : Nat) : Int)), w64 (x7 + 1))))
 else (
  some (.done dg))
def uW (l_ : List (List Int)) : Option Int :=
 (loop (fun s => va l_ s.1 s.2) (0, 0)).bind fun t2 =>
 k9 t2
def jt (l_ : List (List Int)) (inputs : Int) : Option Int :=
 (uX l_ inputs).bind fun r_ =>
 bif r_ != 0 then (
  some r_)
 else (
  (js l_).bind fun ah =>
  bif !ah then (
   some 1)
  else (
   (uW l_).bind fun aj =>
   bif decide (aj > 65536) then (
    some 3)
   else (
    some 0)))
def xE (m_ : z8) (l_ : List (List Int)) : Option Int :=
 (vg m_).bind fun r_ =>
 bif r_ != 0 then (
  some r_)
 else (
  (jt l_ m_.Inputs).bind fun ah =>
  some ah)
def vX : Option zg :=
 some (zg.mk (V5 ([] : List (Int × Bool)) 0 true) ([] : List ((yu Int) × Bool)) ([] : List (z7 × Bool)))
def yH (ai : List (Int × Bool)) (ak : List ((yu Int) × Bool)) (cw : Int) (dt : Int) (ca : Int) (aw : zf) (a6 : List (z7 × Bool)) : Option (LR ((List (Int × Bool)) × (List ((yu Int) × Bool)) × (List (z7 × Bool)) × Int × Int × Int × Int) zg) :=
 some (.next ((V5 ai aw.To true), (V5 ak (yu.mk cw ca) true), a6, aw.To, cw, ca, w64 (dt + 1)))
def xi (m_ : z8) (w_ : List Int) (ai : List (Int × Bool)) (ak : List ((yu Int) × Bool)) (am : List (z7 × Bool)) (cw : Int) (a8 : Int) (bg : Int) (dt : Int) : Option (LR ((List (Int × Bool)) × (List ((yu Int) × Bool)) × (List (z7 × Bool)) × Int × Int × Int × Int) zg) :=
 bif decide (dt < ((w_.length : Nat) : Int)) then (
  (idx w_ dt).bind fun ca =>
  (idx m_.Rows cw).bind fun av =>
  (idx av ca).bind fun aw =>
  bif aw.To == (-1) then (
   some (.done (zg.mk ai ak am)))
  else (
   bif a8 != (-1) then (
    yH ai ak cw dt ca aw (V5 am (z7.mk a8 bg ca) true))
   else (
    yH ai ak cw dt ca aw am)))
 else (
  some (.done (zg.mk ai ak am)))
def xm (m_ : z8) (w_ : List Int) (x_ : zg) : Option zg :=
 (loop (fun s => xi m_ w_ s.1 s.2.1 s.2.2.1 s.2.2.2.1 s.2.2.2.2.1 s.2.2.2.2.2.1 s.2.2.2.2.2.2) (x_.states_, x_.edges_, x_.pairs_, 0, (-1), (-1), 0)).bind fun t1 =>
 some t1
def vR (ai : List (Int × Bool)) (ak : List ((yu Int) × Bool)) (am : List (z7 × Bool)) : Option zg :=
 some (zg.mk ai ak am)
def x9 (m_ : z8) (l_ : List (List Int)) (bc : List (Int × Bool)) (bn : List ((yu Int) × Bool)) (a6 : List (z7 × Bool)) (dl : Int) : Option (LR ((List (Int × Bool)) × (List ((yu Int) × Bool)) × (List (z7 × Bool)) × Int) (((List (Int × Bool)) × (List ((yu Int) × Bool)) × (List (z7 × Bool))))) :=
 bif decide (dl < ((l_.length : Nat) : Int)) then (
  (idx l_ dl).bind fun bk =>
  (xm m_ bk (zg.mk bc bn a6)).bind fun ah =>
  some (.next (ah.states_, ah.edges_, ah.pairs_, w64 (dl + 1))))
 else (
  some (.done (bc, bn, a6)))
def yp (m_ : z8) (l_ : List (List Int)) : Option zg :=
 (vX).bind fun r_ =>
 (loop (fun s => x9 m_ l_ s.1 s.2.1 s.2.2.1 s.2.2.2) (r_.states_, r_.edges_, r_.pairs_, 0)).bind fun t2 =>
 vR t2.1 t2.2.1 t2.2.2
def zP (s_ : List Int) : Option (List Int) :=
 gd (([] : List Int).length + s_.length ≤ 4294967296) <|
 some s_
def zY (s_ : List Int) : Option (List Int) :=
 gd ((0 : Int) ≤ 0 ∧ (0 : Int) ≤ ((s_.length : Nat) : Int) ∧ (((s_.length : Nat) : Int) : Int) ≤ ((s_.length : Nat) : Int) ∧ (((s_.length : Nat) : Int) : Int) ≤ ((s_.length : Nat) : Int)) <|
 some ((s_.drop 0).take (((s_.length : Nat) : Int).toNat - 0))
def qu (m_ : z8) (from_ : Int) : Option (z8 × Int) :=
 some (m_, from_)
variable {σ : Type}
def yn (cm : Int) (fg : List Bool) (ep : List zh) : Option (LR (List Bool × List zh × Int) ((σ × List Bool × List zh))) :=
 some (.next (fg, ep, w64 (cm + 1)))
def xk (ay : zh) (yr : σ × Bool) (av : List zf) (cj : List Bool) (bq : List zh) (cm : Int) : Option (LR (List Bool × List zh × Int) ((σ × List Bool × List zh))) :=
 bif decide (cm < ((av.length : Nat) : Int)) then (
  (idx av cm).bind fun aw =>
  bif aw.To != (-1) then (
   (idx cj aw.To).bind fun gh =>
   bif !gh then (
    (idx cj aw.To).bind fun gq =>
    gd (bq.length + ([(zh.mk aw.To ay.state_ cm)] : List zh).length ≤ 4294967296) <|
    yn cm (cj.set aw.To.toNat true) (bq ++ ([(zh.mk aw.To ay.state_ cm)] : List zh)))
   else (
    yn cm cj bq))
  else (
   yn cm cj bq))
 else (
  some (.done (yr.1, cj, bq)))
def xY (x0 : z8) (yy : σ → zh → Option (σ × Bool)) (eb : σ) (eu : List Bool) (ba : List zh) : Option (LR (σ × List Bool × List zh) σ) :=
 bif decide (((ba.length : Nat) : Int) > 0) then (
  (idx ba 0).bind fun ay =>
  gd ((0 : Int) ≤ 1 ∧ (1 : Int) ≤ ((ba.length : Nat) : Int)) <|
  (yy eb ay).bind fun yr =>
  bif !yr.2 then (
   some (.done yr.1))
  else (
   (idx x0.Rows ay.state_).bind fun av =>
   (loop (fun s => xk ay yr av s.1 s.2.1 s.2.2) (eu, (ba.drop (1 : Int).toNat), 0)).bind fun t2 =>
   some (.next t2)))
 else (
  some (.done eb))
def v6 (x0 : z8) (x1 : Int) {σ : Type} (yy : σ → zh → Option (σ × Bool)) (sg : σ) : Option σ :=
 gd ((0 : Int) ≤ ((x0.Rows.length : Nat) : Int) ∧ (((x0.Rows.length : Nat) : Int) : Int) ≤ 4294967296) <|
 (idx (List.replicate ((x0.Rows.length : Nat) : Int).toNat false) x1).bind fun gv =>
 (loop (fun s => xY x0 yy s.1 s.2.1 s.2.2) (sg, ((List.replicate ((x0.Rows.length : Nat) : Int).toNat false).set x1.toNat true), ([(zh.mk x1 (-1) (-1))] : List zh))).bind fun t1 =>
 some t1
def qt (l_ : List (List Int)) (is : List Bool) : Option (List (List Int) × List Bool) :=
 some (l_, is)
def xu (dm : List (List Int)) (dp : List Bool) (bp : zh) : Option (LR (List (List Int) × List Bool) Empty) :=
 (idx dp bp.state_).bind fun gu =>
 bif bp.from_ != (-1) then (
  (idx dm bp.from_).bind fun bk =>
  (zP bk).bind fun ah =>
  gd (ah.length + ([bp.input_] : List Int).length ≤ 4294967296) <|
  (zY (ah ++ ([bp.input_] : List Int))).bind fun aj =>
  (idx dm bp.state_).bind fun cu =>
  some (.next ((dm.set bp.state_.toNat aj), (dp.set bp.state_.toNat true))))
 else (
  some (.next (dm, (dp.set bp.state_.toNat true))))
def jr (m_ : z8) (from_ : Int) : Option (List (List Int) × List Bool) :=
 gd ((0 : Int) ≤ ((m_.Rows.length : Nat) : Int) ∧ (((m_.Rows.length : Nat) : Int) : Int) ≤ 4294967296) <|
 gd ((0 : Int) ≤ ((m_.Rows.length : Nat) : Int) ∧ (((m_.Rows.length : Nat) : Int) : Int) ≤ 4294967296) <|
 (qu m_ from_).bind fun r_ =>
 (v6 r_.1 r_.2 (yOf (fun s x => xu s.1 s.2 x)) (.next ((List.replicate ((m_.Rows.length : Nat) : Int).toNat ([] : List Int)), (List.replicate ((m_.Rows.length : Nat) : Int).toNat false)))).bind fun t2 =>
 match t2 with
 | .next (dm, dp) => (
  qt dm dp)
 | .done z => nomatch z
def qB (m_ : z8) : Option (List (List Int) × List Bool × Int) :=
 (vg m_).bind fun r_ =>
 bif r_ != 0 then (
  some (([] : List (List Int)), ([] : List Bool), r_))
 else (
  (jr m_ 0).bind fun ah =>
  some (ah.1, ah.2, 0))
def ua (out : List za) : Option (List za) :=
 some out
def xc (ar : Int) (a7 : List za) : Option (LR (List za × Int) (List za)) :=
 some (.next (a7, w64 (ar + 1)))
def xa (az : Int) (db : List za) : Option (LR (List za × Int) (List za)) :=
 some (.next (db, w64 (az + 1)))
def wr (bt : Int) (fy : List za) : Option (LR (List za × Int) (List za)) :=
 some (.next (fy, w64 (bt + 1)))
def wo (ar : Int) (az : Int) (aj : List Int) (bz : List zf) (dn : List za) (bt : Int) : Option (LR (List za × Int) (List za)) :=
 bif decide (bt < ((bz.length : Nat) : Int)) then (
  (idx bz bt).bind fun fz =>
  bif fz.To != (-1) then (
   (zP (aj ++ ([az] : List Int))).bind fun ap =>
   (zY ap).bind fun au =>
   gd (au.length + ([bt] : List Int).length ≤ 4294967296) <|
   gd (dn.length + ([(za.mk (au ++ ([bt] : List Int)) (z7.mk ar az bt) (.inr (.inr (z7.mk ar az bt))))] : List za).length ≤ 4294967296) <|
   wr bt (dn ++ ([(za.mk (au ++ ([bt] : List Int)) (z7.mk ar az bt) (.inr (.inr (z7.mk ar az bt))))] : List za)))
  else (
   wr bt dn))
 else (
  some (.done dn))
def wp (m_ : z8) (goal : Int) (r_ : List (List Int) × List Bool × Int) (ar : Int) (av : List zf) (cd : List za) (az : Int) : Option (LR (List za × Int) (List za)) :=
 bif decide (az < ((av.length : Nat) : Int)) then (
  (idx av az).bind fun aw =>
  bif aw.To == (-1) then (
   xa az cd)
  else (
   (idx r_.1 ar).bind fun gl =>
   (zP gl).bind fun ah =>
   (zY ah).bind fun aj =>
   gd (aj.length + ([az] : List Int).length ≤ 4294967296) <|
   bif goal == 1 then (
    gd (cd.length + ([(za.mk (aj ++ ([az] : List Int)) (z7.mk ar az 0) (.inr (.inl (ar, az))))] : List za).length ≤ 4294967296) <|
    xa az (cd ++ ([(za.mk (aj ++ ([az] : List Int)) (z7.mk ar az 0) (.inr (.inl (ar, az))))] : List za)))
   else (
    (idx m_.Rows aw.To).bind fun bz =>
    (loop (fun s => wo ar az aj bz s.1 s.2) (cd, 0)).bind fun t6 =>
    xa az t6)))
 else (
  some (.done cd))
def wq (m_ : z8) (goal : Int) (r_ : List (List Int) × List Bool × Int) (aq : List za) (ar : Int) : Option (LR (List za × Int) (List za)) :=
 bif decide (ar < ((m_.Rows.length : Nat) : Int)) then (
  (idx m_.Rows ar).bind fun av =>
  (idx r_.2.1 ar).bind fun u_ =>
  bif !u_ then (
   xc ar aq)
  else (
   bif goal == 0 then (
    (idx r_.1 ar).bind fun ew =>
    gd (aq.length + ([(za.mk ew (z7.mk ar 0 0) (.inl ar))] : List za).length ≤ 4294967296) <|
    xc ar (aq ++ ([(za.mk ew (z7.mk ar 0 0) (.inl ar))] : List za)))
   else (
    (loop (fun s => wp m_ goal r_ ar av s.1 s.2) (aq, 0)).bind fun t4 =>
    xc ar t4)))
 else (
  some (.done aq))
def wv (m_ : z8) (goal : Int) : Option (List za) :=
 (qB m_).bind fun r_ =>
 (loop (fun s => wq m_ goal r_ s.1 s.2) (([] : List za), 0)).bind fun t2 =>
 ua t2
def uD (x0 : Int) (x_ : zg) : Option Bool :=
 (some ((z1L x_.states_ x0).getD false)).bind fun val =>
 some val
def uC (x0 : Int) (x1 : Int) (x_ : zg) : Option Bool :=
 (some ((z1L x_.edges_ (yu.mk x0 x1)).getD false)).bind fun val =>
 some val
def uB (x0 : z7) (x_ : zg) : Option Bool :=
 (some ((z1L x_.pairs_ x0).getD false)).bind fun val =>
 some val
def Y9 (f : Int ⊕ (Int × Int) ⊕ z7) (x : zg) : Option Bool :=
 match f with
 | (.inl c) => uD c x
 | (.inr (.inl c)) => uC c.1 c.2 x
 | (.inr (.inr c)) => uB c x
def ws (s_ : List (List Int)) : Option (List (List Int)) :=
 gd (([] : List (List Int)).length + s_.length ≤ 4294967296) <|
 some s_
def vb (a_ : List Int) (b_ : List Int) : Option Bool :=
 (yK a_ b_).bind fun r_ =>
 some (r_ == 0)
def xz (s_ : List (List Int)) : Option (List (List Int)) :=
 some s_
def yD (k_ : Int) : Option (LR Int (Unit ⊕ List (List Int))) :=
 some (.next (w64 (k_ + 1)))
def y5 (dh : List (List Int)) (ce : Int) : Option (LR Int (Unit ⊕ List (List Int))) :=
 gd ((0 : Int) ≤ ce ∧ (ce : Int) ≤ ((dh.length : Nat) : Int)) <|
 gd ((0 : Int) ≤ ce ∧ (ce : Int) ≤ ((dh.length : Nat) : Int)) <|
 gd ((0 : Int) ≤ ce ∧ (ce : Int) ≤ (((dh.take ce.toNat ++ List.replicate (dh.length - ce.toNat) []).length : Nat) : Int)) <|
 some (.done (.inr ((dh.take ce.toNat ++ List.replicate (dh.length - ce.toNat) []).take ce.toNat)))
def y4 (k2 : Int) (gi : List (List Int)) (gj : Int) : Option (LR (List (List Int) × Int × Int) ((List (List Int) × Int))) :=
 some (.next (gi, gj, w64 (k2 + 1)))
def y3 (k_ : Int) (cx : List (List Int)) (dv : Int) (k2 : Int) : Option (LR (List (List Int) × Int × Int) ((List (List Int) × Int))) :=
 bif decide (k2 < ((cx.length - k_.toNat : Nat) : Int)) then (
  gd ((0 : Int) ≤ k_ ∧ (0 : Int) ≤ k2) <|
  (idx cx (k_ + k2)).bind fun fl =>
  gd ((0 : Int) ≤ k_ ∧ (0 : Int) ≤ w64 (k2 - 1)) <|
  (idx cx (k_ + (w64 (k2 - 1)))).bind fun fm =>
  (vb fl fm).bind fun ah =>
  bif !ah then (
   gd ((0 : Int) ≤ k_ ∧ (0 : Int) ≤ k2) <|
   (idx cx (k_ + k2)).bind fun fp =>
   (idx cx dv).bind fun gt =>
   y4 k2 (cx.set dv.toNat fp) (w64 (dv + 1)))
  else (
   y4 k2 cx dv))
 else (
  some (.done (cx, dv)))
def ye (s_ : List (List Int)) (k_ : Int) : Option (LR Int (Unit ⊕ List (List Int))) :=
 bif decide (k_ < ((s_.length : Nat) : Int)) then (
  (idx s_ k_).bind fun de =>
  (idx s_ (w64 (k_ - 1))).bind fun fq =>
  (vb de fq).bind fun r_ =>
  bif r_ then (
   gd ((0 : Int) ≤ k_ ∧ (k_ : Int) ≤ ((s_.length : Nat) : Int)) <|
   (loop (fun s => y3 k_ s.1 s.2.1 s.2.2) (s_, k_, 1)).bind fun t5 =>
   y5 t5.1 t5.2)
  else (
   yD k_))
 else (
  some (.done (.inl ())))
def yo (s_ : List (List Int)) (eq : Unit) : Option (List (List Int)) :=
 bif decide (((s_.length : Nat) : Int) < 2) then (
  some s_)
 else (
  (loop (fun s => ye s_ s) 1).bind fun t2 =>
  match t2 with
  | .inl p => xz s_
  | .inr p => some p)
def yY (s_ : List (List Int)) : Option (List (List Int)) :=
 some s_
def ur (out : List (List Int × Bool)) : Option (List (List Int) × Int) :=
 gd (∀ q ∈ out, q.2 = true) <|
 some ((out.map (·.1)), 0)
def xw (aj : List (List Int)) (a7 : List (List Int × Bool)) (dw : Int) : Option (LR ((List (List Int × Bool)) × Int) ((List (List Int × Bool)))) :=
 bif decide (dw < ((aj.length - (0 : Int).toNat : Nat) : Int)) then (
  gd ((0 : Int) ≤ 0 ∧ (0 : Int) ≤ dw) <|
  (idx a7 (0 + dw)).bind fun dj =>
  (zP dj.1).bind fun au =>
  (zY au).bind fun bl =>
  (idx a7 dw).bind fun ga =>
  some (.next ((a7.set dw.toNat (bl, true)), w64 (dw + 1))))
 else (
  some (.done a7))
def qD (l_ : List (List Int)) : Option (List (List Int) × Int) :=
 (ws l_).bind fun r_ =>
 (z2g (fun x y => yK x y) r_).bind fun sorted =>
 (yo sorted ()).bind fun ah =>
 (yY ah).bind fun aj =>
 bif decide (((aj.length : Nat) : Int) > 4096) then (
  some (([] : List (List Int)), 3))
 else (
  (uW aj).bind fun ap =>
  bif decide (ap > 65536) then (
   some (([] : List (List Int)), 3))
  else (
   (loop (fun s => xw aj s.1 s.2) ((aj.map fun q => (q, false)), 0)).bind fun t2 =>
   ur t2))
def Yj (l_ : List (List Int)) (inputs : Int) : Option (List (List Int) × Int) :=
 (uX l_ inputs).bind fun r_ =>
 bif r_ != 0 then (
  some (([] : List (List Int)), r_))
 else (
  (qD l_).bind fun ah =>
  some (ah.1, ah.2))
def xp (m_ : z8) (aq : List (List Int)) : Option (List (List Int) × Int) :=
 bif decide (((aq.length : Nat) : Int) > 4096) then (
  some (([] : List (List Int)), 3))
 else (
  (Yj aq m_.Inputs).bind fun aj =>
  some (aj.1, aj.2))
def xo (du : Int) (bc : List (Int × Bool)) (bn : List ((yu Int) × Bool)) (a6 : List (z7 × Bool)) (cd : List (List Int)) : Option (LR ((List (Int × Bool)) × (List ((yu Int) × Bool)) × (List (z7 × Bool)) × List (List Int) × Int) (List (List Int))) :=
 some (.next (bc, bn, a6, cd, w64 (du + 1)))
def wb (m_ : z8) (ap : List za) (ai : List (Int × Bool)) (ak : List ((yu Int) × Bool)) (am : List (z7 × Bool)) (a7 : List (List Int)) (du : Int) : Option (LR ((List (Int × Bool)) × (List ((yu Int) × Bool)) × (List (z7 × Bool)) × List (List Int) × Int) (List (List Int))) :=
 bif decide (du < ((ap.length : Nat) : Int)) then (
  (idx ap du).bind fun bu =>
  (Y9 bu.has_ (zg.mk ai ak am)).bind fun au =>
  bif !au then (
   (xm m_ bu.word_ (zg.mk ai ak am)).bind fun bl =>
   (zP bu.word_).bind fun bh =>
   (zY bh).bind fun ck =>
   gd (a7.length + ([ck] : List (List Int)).length ≤ 4294967296) <|
   xo du bl.states_ bl.edges_ bl.pairs_ (a7 ++ ([ck] : List (List Int))))
  else (
   xo du ai ak am a7))
 else (
  some (.done a7))
def wX (m_ : z8) (goal : Int) (ah : zg) (out : List (List Int)) : Option (List (List Int) × Int) :=
 (wv m_ goal).bind fun ap =>
 (loop (fun s => wb m_ ap s.1 s.2.1 s.2.2.1 s.2.2.2.1 s.2.2.2.2) (ah.states_, ah.edges_, ah.pairs_, out, 0)).bind fun t3 =>
 xp m_ t3
def wW (l_ : List (List Int)) (db : List (List Int)) (gb : Int) : Option (LR (List (List Int) × Int) (List (List Int))) :=
 bif decide (gb < ((l_.length : Nat) : Int)) then (
  (idx l_ gb).bind fun bk =>
  (zP bk).bind fun cn =>
  (zY cn).bind fun bw =>
  gd (db.length + ([bw] : List (List Int)).length ≤ 4294967296) <|
  some (.next ((db ++ ([bw] : List (List Int))), w64 (gb + 1))))
 else (
  some (.done db))
def zX (m_ : z8) (l_ : List (List Int)) (goal : Int) : Option (List (List Int) × Int) :=
 (xE m_ l_).bind fun r_ =>
 bif r_ != 0 then (
  some (([] : List (List Int)), r_))
 else (
  bif decide (goal < 0) then (
   some (([] : List (List Int)), 1))
  else (
   bif decide (goal ≥ 3) then (
    some (([] : List (List Int)), 1))
   else (
    (yp m_ l_).bind fun ah =>
    gd ((0 : Int) ≤ ((l_.length : Nat) : Int) ∧ (((l_.length : Nat) : Int) : Int) ≤ 4294967296) <|
    (loop (fun s => wW l_ s.1 s.2) (([] : List (List Int)), 0)).bind fun t5 =>
    wX m_ goal ah t5)))
def xD (goal : Int) (x_ : zg) : Option Int :=
 (idx ([((x_.states_.length : Nat) : Int), ((x_.edges_.length : Nat) : Int), ((x_.pairs_.length : Nat) : Int)] : List Int) goal).bind fun cell =>
 some cell
def jH (n_ : kL (yu Int)) : Option (zC × Int) :=
 some ((zC.mk n_.e0 n_.e1 n_.e2), 0)
def xF (m_ : z8) (ah : zg) (dg : kL (yu Int)) (bp : Int) : Option (LR (kL (yu Int) × Int) (kL (yu Int))) :=
 bif decide (bp < 3) then (
  (xD bp ah).bind fun aj =>
  (wv m_ bp).bind fun ap =>
  (idx (kL.toL dg) bp).bind fun cell =>
  (some (kL.setI dg bp (yu.mk aj ((ap.length : Nat) : Int)))).bind fun arr =>
  some (.next (arr, w64 (bp + 1))))
 else (
  some (.done dg))
def wP (m_ : z8) (l_ : List (List Int)) : Option (zC × Int) :=
 (xE m_ l_).bind fun r_ =>
 bif r_ != 0 then (
  some ((zC.mk (yu.mk 0 0) (yu.mk 0 0) (yu.mk 0 0)), r_))
 else (
  (yp m_ l_).bind fun ah =>
  (loop (fun s => xF m_ ah s.1 s.2) ((kL.mk (yu.mk 0 0) (yu.mk 0 0) (yu.mk 0 0)), 0)).bind fun t2 =>
  jH t2)
def strconv_Itoa (i : Int) : Option (List UInt8) := gd (-9223372036854775808 ≤ i ∧ i ≤ 9223372036854775807) <| some (Go.Lib.itoa i)
def vJ (s_ : List UInt8) : Option (List UInt8) :=
 some s_
def xV (c_ : zC) : Option (List UInt8) :=
 (strconv_Itoa c_.States.e0).bind fun r_ =>
 gd (([115, 116, 97, 116, 101, 115, 32] : List UInt8).length + r_.length ≤ 4611686018427387904) <|
 gd ((([115, 116, 97, 116, 101, 115, 32] : List UInt8) ++ r_).length + ([47] : List UInt8).length ≤ 4611686018427387904) <|
 (strconv_Itoa c_.States.e1).bind fun ah =>
 gd (((([115, 116, 97, 116, 101, 115, 32] : List UInt8) ++ r_) ++ ([47] : List UInt8)).length + ah.length ≤ 4611686018427387904) <|
 gd (([] : List UInt8).length + (((([115, 116, 97, 116, 101, 115, 32] : List UInt8) ++ r_) ++ ([47] : List UInt8)) ++ ah).length ≤ 4611686018427387904) <|
 (strconv_Itoa c_.Edges.e0).bind fun aj =>
 gd (([44, 32, 101, 100, 103, 101, 115, 32] : List UInt8).length + aj.length ≤ 4611686018427387904) <|
 gd ((([44, 32, 101, 100, 103, 101, 115, 32] : List UInt8) ++ aj).length + ([47] : List UInt8).length ≤ 4611686018427387904) <|
 (strconv_Itoa c_.Edges.e1).bind fun ap =>
 gd (((([44, 32, 101, 100, 103, 101, 115, 32] : List UInt8) ++ aj) ++ ([47] : List UInt8)).length + ap.length ≤ 4611686018427387904) <|
 gd ((([] : List UInt8) ++ (((([115, 116, 97, 116, 101, 115, 32] : List UInt8) ++ r_) ++ ([47] : List UInt8)) ++ ah)).length + (((([44, 32, 101, 100, 103, 101, 115, 32] : List UInt8) ++ aj) ++ ([47] : List UInt8)) ++ ap).length ≤ 4611686018427387904) <|
 (strconv_Itoa c_.Pairs.e0).bind fun au =>
 gd (([44, 32, 112, 97, 105, 114, 115, 32] : List UInt8).length + au.length ≤ 4611686018427387904) <|
 gd ((([44, 32, 112, 97, 105, 114, 115, 32] : List UInt8) ++ au).length + ([47] : List UInt8).length ≤ 4611686018427387904) <|
 (strconv_Itoa c_.Pairs.e1).bind fun bl =>
 gd (((([44, 32, 112, 97, 105, 114, 115, 32] : List UInt8) ++ au) ++ ([47] : List UInt8)).length + bl.length ≤ 4611686018427387904) <|
 gd (((([] : List UInt8) ++ (((([115, 116, 97, 116, 101, 115, 32] : List UInt8) ++ r_) ++ ([47] : List UInt8)) ++ ah)) ++ (((([44, 32, 101, 100, 103, 101, 115, 32] : List UInt8) ++ aj) ++ ([47] : List UInt8)) ++ ap)).length + (((([44, 32, 112, 97, 105, 114, 115, 32] : List UInt8) ++ au) ++ ([47] : List UInt8)) ++ bl).length ≤ 4611686018427387904) <|
 vJ (((([] : List UInt8) ++ (((([115, 116, 97, 116, 101, 115, 32] : List UInt8) ++ r_) ++ ([47] : List UInt8)) ++ ah)) ++ (((([44, 32, 101, 100, 103, 101, 115, 32] : List UInt8) ++ aj) ++ ([47] : List UInt8)) ++ ap)) ++ (((([44, 32, 112, 97, 105, 114, 115, 32] : List UInt8) ++ au) ++ ([47] : List UInt8)) ++ bl))
def Y6 : Option z8 :=
 some (z8.mk 2 2 ([[(zf.mk 1 0), (zf.mk 0 0)], [(zf.mk 0 1), (zf.mk 1 0)]]))
def yl (s_ : List z7) : Option (List z7) :=
 gd ((0 : Int) ≤ 0 ∧ (0 : Int) ≤ ((s_.length : Nat) : Int) ∧ (((s_.length : Nat) : Int) : Int) ≤ ((s_.length : Nat) : Int) ∧ (((s_.length : Nat) : Int) : Int) ≤ ((s_.length : Nat) : Int)) <|
 some ((s_.drop 0).take (((s_.length : Nat) : Int).toNat - 0))
def vQ (out : List z7) : Option (List z7 × Int) :=
 (yl out).bind fun aj =>
 some (aj, 0)
def wF (ar : Int) (a7 : List z7) : Option (LR (List z7 × Int) (List z7)) :=
 some (.next (a7, w64 (ar + 1)))
def vP (ah : zg) (ap : List za) (aq : List z7) (ar : Int) : Option (LR (List z7 × Int) (List z7)) :=
 bif decide (ar < ((ap.length : Nat) : Int)) then (
  (idx ap ar).bind fun bu =>
  (Y9 bu.has_ ah).bind fun au =>
  bif !au then (
   gd (aq.length + ([bu.pair_] : List z7).length ≤ 4294967296) <|
   wF ar (aq ++ ([bu.pair_] : List z7)))
  else (
   wF ar aq))
 else (
  some (.done aq))
def qh (m_ : z8) (l_ : List (List Int)) (goal : Int) : Option (List z7 × Int) :=
 (xE m_ l_).bind fun r_ =>
 bif r_ != 0 then (
  some (([] : List z7), r_))
 else (
  (yp m_ l_).bind fun ah =>
  (wv m_ goal).bind fun ap =>
  (loop (fun s => vP ah ap s.1 s.2) (([] : List z7), 0)).bind fun t2 =>
  vQ t2)
def uF (r_ : List z7 × Int) (out : List (yu Int)) : Option (List (yu Int) × Int) :=
 gd (out.length = ((r_.1.length : Nat) : Int).toNat) <|
 some (out, r_.2)
def uE (r_ : List z7 × Int) (aq : List (yu Int)) (gc : Int) : Option (LR (List (yu Int) × Int) (List (yu Int))) :=
 bif decide (gc < ((r_.1.length : Nat) : Int)) then (
  (idx r_.1 gc).bind fun u_ =>
  gd (aq.length + ([(yu.mk u_.State u_.Input)] : List (yu Int)).length ≤ ((r_.1.length : Nat) : Int).toNat) <|
  some (.next ((aq ++ ([(yu.mk u_.State u_.Input)] : List (yu Int))), w64 (gc + 1))))
 else (
  some (.done aq))
def jI (m_ : z8) (l_ : List (List Int)) : Option (List (yu Int) × Int) :=
 (qh m_ l_ 1).bind fun r_ =>
 gd ((0 : Int) ≤ ((r_.1.length : Nat) : Int) ∧ (((r_.1.length : Nat) : Int) : Int) ≤ 4294967296) <|
 (loop (fun s => uE r_ s.1 s.2) (([] : List (yu Int)), 0)).bind fun t2 =>
 uF r_ t2
def qm (out : List Int) : Option (List Int) :=
 some out
def vI (co : Int) (a7 : List Int) : Option (LR (List Int × Int) (List Int)) :=
 some (.next (a7, w64 (co + 1)))
def qj (bm : List za) (x_ : zg) (aq : List Int) (co : Int) : Option (LR (List Int × Int) (List Int)) :=
 bif decide (co < ((bm.length : Nat) : Int)) then (
  (idx bm co).bind fun d0 =>
  (Y9 d0.has_ x_).bind fun r_ =>
  bif r_ then (
   gd ((64 : Int) ≠ 0) <|
   (idx aq (w64 (Int.tdiv co 64))).bind fun dj =>
   gd ((64 : Int) ≠ 0) <|
   gd ((0 : Int) ≤ Int.tmod co 64) <|
   (idx aq (w64 (Int.tdiv co 64))).bind fun ga =>
   vI co (aq.set (w64 (Int.tdiv co 64)).toNat (orK .u64 dj (z5X .u64 1 (Int.tmod co 64)))))
  else (
   vI co aq))
 else (
  some (.done aq))
def vY (bm : List za) (x_ : zg) : Option (List Int) :=
 gd ((64 : Int) ≠ 0) <|
 gd ((0 : Int) ≤ w64 ((w64 (Int.tdiv ((bm.length : Nat) : Int) 64)) + 1) ∧ (w64 ((w64 (Int.tdiv ((bm.length : Nat) : Int) 64)) + 1) : Int) ≤ 4294967296) <|
 (loop (fun s => qj bm x_ s.1 s.2) ((List.replicate (w64 ((w64 (Int.tdiv ((bm.length : Nat) : Int) 64)) + 1)).toNat (0 : Int)), 0)).bind fun t2 =>
 qm t2
def xN : Option Bool :=
 some true
def xM (s1 : List Int) (s2 : List Int) (fh : Int) : Option (LR Int (Unit ⊕ Bool)) :=
 bif decide (fh < ((s1.length : Nat) : Int)) then (
  (idx s1 fh).bind fun fx =>
  (idx s2 fh).bind fun fc =>
  bif fx != fc then (
   some (.done (.inr false)))
  else (
   some (.next (w64 (fh + 1)))))
 else (
  some (.done (.inl ())))
def wh (s1 : List Int) (s2 : List Int) : Option Bool :=
 bif ((s1.length : Nat) : Int) != ((s2.length : Nat) : Int) then (
  some false)
 else (
  (loop (fun s => xM s1 s2 s) 0).bind fun t2 =>
  match t2 with
  | .inl p => xN
  | .inr p => some p)
def wi (s_ : List Int) : Option (List Int) :=
 gd (([] : List Int).length + s_.length ≤ 4294967296) <|
 some s_
def wa : Option (List Int × Bool) :=
 some (([] : List Int), false)
def w9 (i_ : Int) : Option (LR Int (Unit ⊕ (List Int × Bool))) :=
 some (.next (w64 (i_ + 1)))
def w8 (c_ : zw) (many : Int) (ee : zw → (List Int) → Int → Int → Option (List Int × Bool)) (i_ : Int) (dx : List Int) : Option (LR Int (Unit ⊕ (List Int × Bool))) :=
 (ee c_ dx (w64 (i_ + 1)) (w64 (many - 1))).bind fun aj =>
 bif aj.2 then (
  gd (([i_] : List Int).length + aj.1.length ≤ 4294967296) <|
  some (.done (.inr ((([i_]) ++ aj.1), true))))
 else (
  w9 i_)
def w6 (cg : List Int) (da : List Int) (cq : Int) : Option (LR (List Int × Int) (List Int)) :=
 bif decide (cq < ((cg.length : Nat) : Int)) then (
  (idx cg cq).bind fun dy =>
  (idx da cq).bind fun ez =>
  (idx da cq).bind fun gk =>
  some (.next ((da.set cq.toNat (orK .u64 ez dy)), w64 (cq + 1))))
 else (
  some (.done da))
def w7 (c_ : zw) (bo : List Int) (many : Int) (ee : zw → (List Int) → Int → Int → Option (List Int × Bool)) (i_ : Int) : Option (LR Int (Unit ⊕ (List Int × Bool))) :=
 bif decide ((w64 (i_ + many)) ≤ ((c_.sets_.length : Nat) : Int)) then (
  (wi bo).bind fun ah =>
  (idx c_.sets_ i_).bind fun cg =>
  (loop (fun s => w6 cg s.1 s.2) (ah, 0)).bind fun t5 =>
  w8 c_ many ee i_ t5)
 else (
  some (.done (.inl ())))
def wl (ee : zw → (List Int) → Int → Int → Option (List Int × Bool)) (c_ : zw) (bo : List Int) (from_ : Int) (many : Int) : Option (List Int × Bool) :=
 bif many == 0 then (
  (wh bo c_.want_).bind fun r_ =>
  some (([] : List Int), r_))
 else (
  (loop (fun s => w7 c_ bo many ee s) from_).bind fun t2 =>
  match t2 with
  | .inl p => wa
  | .inr p => some p)
def vN (fu : Nat) : zw → (List Int) → Int → Int → Option (List Int × Bool) := Nat.rec (motive := fun _ => zw → (List Int) → Int → Int → Option (List Int × Bool)) (fun _ _ _ _ => none) (fun _ ih => wl ih) fu
def um (c_ : zw) (bo : List Int) (from_ : Int) (many : Int) : Option (List Int × Bool) := vN (many.toNat + 1) c_ bo from_ many
def uj : Option (List (List Int) × Int) :=
 some (([] : List (List Int)), 0)
def ui (dr : Int) : Option (LR Int (Unit ⊕ (List (List Int) × Int))) :=
 some (.next (w64 (dr + 1)))
def uh (bh : List Int × Bool) (out : List (List Int)) : Option (LR Int (Unit ⊕ (List (List Int) × Int))) :=
 gd (out.length = ((bh.1.length : Nat) : Int).toNat) <|
 some (.done (.inr (out, 0)))
def uf (l_ : List (List Int)) (bh : List Int × Bool) (aq : List (List Int)) (ge : Int) : Option (LR (List (List Int) × Int) (List (List Int))) :=
 bif decide (ge < ((bh.1.length : Nat) : Int)) then (
  (idx bh.1 ge).bind fun u_ =>
  (idx l_ u_).bind fun bk =>
  (zP bk).bind fun ck =>
  (zY ck).bind fun cn =>
  gd (aq.length + ([cn] : List (List Int)).length ≤ ((bh.1.length : Nat) : Int).toNat) <|
  some (.next ((aq ++ ([cn] : List (List Int))), w64 (ge + 1))))
 else (
  some (.done aq))
def ug (l_ : List (List Int)) (ah : List za) (ap : List Int) (bv : List (List Int)) (dr : Int) : Option (LR Int (Unit ⊕ (List (List Int) × Int))) :=
 bif decide (dr < (w64 (((l_.length : Nat) : Int) + 1))) then (
  (vX).bind fun au =>
  (vY ah au).bind fun bl =>
  (um (zw.mk bv ap) bl 0 dr).bind fun bh =>
  bif !bh.2 then (
   ui dr)
  else (
   gd ((0 : Int) ≤ ((bh.1.length : Nat) : Int) ∧ (((bh.1.length : Nat) : Int) : Int) ≤ 4294967296) <|
   (loop (fun s => uf l_ bh s.1 s.2) (([] : List (List Int)), 0)).bind fun t6 =>
   uh bh t6))
 else (
  some (.done (.inl ())))
def uk (l_ : List (List Int)) (ah : List za) (ap : List Int) (bv : List (List Int)) : Option (List (List Int) × Int) :=
 (loop (fun s => ug l_ ah ap bv s) 0).bind fun t3 =>
 match t3 with
 | .inl p => uj
 | .inr p => some p
def ue (m_ : z8) (l_ : List (List Int)) (ah : List za) (cb : List (List Int)) (cq : Int) : Option (LR (List (List Int) × Int) (List (List Int))) :=
 bif decide (cq < ((l_.length : Nat) : Int)) then (
  (idx l_ cq).bind fun cu =>
  (yp m_ ([cu])).bind fun bw =>
  (vY ah bw).bind fun dc =>
  gd (cb.length + ([dc] : List (List Int)).length ≤ 4294967296) <|
  some (.next ((cb ++ ([dc] : List (List Int))), w64 (cq + 1))))
 else (
  some (.done cb))
def j5 (m_ : z8) (l_ : List (List Int)) (goal : Int) : Option (List (List Int) × Int) :=
 (xE m_ l_).bind fun r_ =>
 bif r_ != 0 then (
  some (([] : List (List Int)), r_))
 else (
  bif decide (goal < 0) then (
   some (([] : List (List Int)), 1))
  else (
   bif decide (goal ≥ 3) then (
    some (([] : List (List Int)), 1))
   else (
    bif decide (((l_.length : Nat) : Int) > 16) then (
     some (([] : List (List Int)), 3))
    else (
     (wv m_ goal).bind fun ah =>
     (yp m_ l_).bind fun aj =>
     (vY ah aj).bind fun ap =>
     (loop (fun s => ue m_ l_ ah s.1 s.2) (([] : List (List Int)), 0)).bind fun t7 =>
     uk l_ ah ap t7))))
def j4 : Option Int :=
 some 0
def qZ (a_ : List Int) (b_ : List Int) (i_ : Int) : Option (LR Int (Unit ⊕ Int)) :=
 bif decide (i_ < ((a_.length : Nat) : Int)) then (
  (idx a_ i_).bind fun fe =>
  (idx b_ i_).bind fun ff =>
  bif decide (fe < ff) then (
   some (.done (.inr (-1))))
  else (
   (idx a_ i_).bind fun gm =>
   (idx b_ i_).bind fun gn =>
   bif decide (gm > gn) then (
    some (.done (.inr 1)))
   else (
    some (.next (w64 (i_ + 1))))))
 else (
  some (.done (.inl ())))
def kY (a_ : List Int) (b_ : List Int) : Option Int :=
 bif ((a_.length : Nat) : Int) != ((b_.length : Nat) : Int) then (
  bif decide (((a_.length : Nat) : Int) < ((b_.length : Nat) : Int)) then (
   some (-1))
  else (
   some 1))
 else (
  (loop (fun s => qZ a_ b_ s) 0).bind fun t2 =>
  match t2 with
  | .inl p => j4
  | .inr p => some p)
def Za : Option Bool :=
 some true
def kZ (a_ : List (List Int)) (b_ : List (List Int)) (i_ : Int) : Option (LR Int (Unit ⊕ Bool)) :=
 bif decide (i_ < ((a_.length : Nat) : Int)) then (
  (idx a_ i_).bind fun fe =>
  (idx b_ i_).bind fun ff =>
  (kY fe ff).bind fun r_ =>
  bif r_ != 0 then (
   some (.done (.inr false)))
  else (
   some (.next (w64 (i_ + 1)))))
 else (
  some (.done (.inl ())))
def Yl (a_ : List (List Int)) (b_ : List (List Int)) : Option Bool :=
 bif ((a_.length : Nat) : Int) != ((b_.length : Nat) : Int) then (
  some false)
 else (
  (loop (fun s => kZ a_ b_ s) 0).bind fun t2 =>
  match t2 with
  | .inl p => Za
  | .inr p => some p)
def Zd : Option Bool :=
 (Y6).bind fun r_ =>
 (wP r_ []).bind fun ah =>
 (wP r_ ([[1], [0, 0, 1]])).bind fun aj =>
 (jI r_ ([[1], [0, 0, 1]])).bind fun ap =>
 (zX r_ [] 1).bind fun au =>
 (j5 r_ ([[0], [1], [0, 0], [0, 1, 1]]) 1).bind fun bl =>
 bif ah.2 == 0 then (
  bif aj.2 == 0 then (
   bif ap.2 == 0 then (
    bif au.2 == 0 then (
     bif bl.2 == 0 then (
      bif (ah.1.States.e0 == 1) && ((ah.1.States.e1 == 2) && ((ah.1.Edges.e0 == 0) && ((ah.1.Edges.e1 == 4) && ((ah.1.Pairs.e0 == 0) && ((ah.1.Pairs.e1 == 8) && true))))) then (
       (xV ah.1).bind fun bh =>
       bif bh == ([115, 116, 97, 116, 101, 115, 32, 49, 47, 50, 44, 32, 101, 100, 103, 101, 115, 32, 48, 47, 52, 44, 32, 112, 97, 105, 114, 115, 32, 48, 47, 56] : List UInt8) then (
        bif (aj.1.States.e0 == 2) && ((aj.1.States.e1 == 2) && ((aj.1.Edges.e0 == 3) && ((aj.1.Edges.e1 == 4) && ((aj.1.Pairs.e0 == 2) && ((aj.1.Pairs.e1 == 8) && true))))) then (
         bif ((ap.1.length : Nat) : Int) == 1 then (
          (idx ap.1 0).bind fun u_ =>
          bif (u_.e0 == 1) && ((u_.e1 == 1) && true) then (
           (Yl au.1 ([[0], [1], [0, 0], [0, 1]])).bind fun ck =>
           bif ck then (
            (Yl bl.1 ([[1], [0, 0], [0, 1, 1]])).bind fun cn =>
            some cn)
           else (
            some false))
          else (
           some false))
         else (
          some false))
        else (
         some false))
       else (
        some false))
      else (
       some false))
     else (
      some false))
    else (
     some false))
   else (
    some false))
  else (
   some false))
 else (
  some false)
def wD : Option Bool :=
 (vH 64 16).bind fun r_ =>
 (zX r_ [] 1).bind fun ah =>
 (zX r_ [] 2).bind fun aj =>
 (wP r_ ah.1).bind fun ap =>
 bif ah.2 != 0 then (
  some false)
 else (
  bif aj.2 != 3 then (
   some false)
  else (
   bif ap.2 != 0 then (
    some false)
   else (
    bif !((ap.1.States.e0 == 64) && ((ap.1.States.e1 == 64) && true)) then (
     some false)
    else (
     bif !((ap.1.Edges.e0 == 1024) && ((ap.1.Edges.e1 == 1024) && true)) then (
      some false)
     else (
      bif ap.1.Pairs.e1 != 16384 then (
       some false)
      else (
       (vH 16 16).bind fun au =>
       (zX au [] 2).bind fun bl =>
       (vH 16 16).bind fun bh =>
       (wP bh bl.1).bind fun ck =>
       bif bl.2 == 0 then (
        bif ((bl.1.length : Nat) : Int) == 4096 then (
         bif ck.2 == 0 then (
          bif (ck.1.Pairs.e0 == 4096) && ((ck.1.Pairs.e1 == 4096) && true) then (
           (xV ck.1).bind fun cn =>
           bif cn == ([115, 116, 97, 116, 101, 115, 32, 49, 54, 47, 49, 54, 44, 32, 101, 100, 103, 101, 115, 32, 50, 53, 54, 47, 50, 53, 54, 44, 32, 112, 97, 105, 114, 115, 32, 52, 48, 57, 54, 47, 52, 48, 57, 54] : List UInt8) then (
            (xV (zC.mk (yu.mk 0 0) (yu.mk 0 0) (yu.mk 0 0))).bind fun bw =>
            bif bw == ([115, 116, 97, 116, 101, 115, 32, 48, 47, 48, 44, 32, 101, 100, 103, 101, 115, 32, 48, 47, 48, 44, 32, 112, 97, 105, 114, 115, 32, 48, 47, 48] : List UInt8) then (
             (xV (zC.mk (yu.mk 0 0) (yu.mk (-1) 10) (yu.mk 0 0))).bind fun dc =>
             bif dc == ([115, 116, 97, 116, 101, 115, 32, 48, 47, 48, 44, 32, 101, 100, 103, 101, 115, 32, 45, 49, 47, 49, 48, 44, 32, 112, 97, 105, 114, 115, 32, 48, 47, 48] : List UInt8) then (
              (Zd).bind fun gr =>
              some gr)
             else (
              some false))
            else (
             some false))
           else (
            some false))
          else (
           some false))
         else (
          some false))
        else (
         some false))
       else (
        some false)))))))
abbrev F0_ := XB (eI .i64)
abbrev F1_ := eSl 1 true (eI .i64)
abbrev F2_ := eSl 1 true (eI .u64)
abbrev F3_ := eOs 1 true (eI .i64)
abbrev F4_ := eSl 1 false (eI .i64)
abbrev F5_ := eSl 1 false (eI .u64)
abbrev F6_ := wn (eI .i64) (eI .i64)
abbrev F7_ := eSl 1 true F1_
abbrev F8_ := eSl 1 true F4_
abbrev F9_ := eSl 1 false F4_
abbrev z8k := eOs 1 false F4_
abbrev zer := eSl 1 false F5_
abbrev zdN := eSl 2 true F6_
abbrev qq := eSl 2 false F6_
abbrev z1l := eOs 2 false F6_
abbrev uo := jG (eI .i64) (eI .i64) (eI .i64)
abbrev zF := zW (eI .i64) (eI .i64) (eI .i64)
abbrev zeq := eSl 1 true zdN
abbrev zep := eSl 1 false qq
abbrev z8j := x6 F0_ F0_ F0_
abbrev z6x := yQ zer F5_
abbrev zb1 := eSp z6x
abbrev z8w := wV (eI .i64) (eI .i64) zeq
abbrev wf := wV (eI .i64) (eI .i64) zep
abbrev z5P := eSp wf
def rpN {α : Type _} (n : Nat) (a : α) (l : List α) : List α := Nat.rec l (fun _ r => a :: r) n
abbrev aLn (n : Nat) : H := .a (.atom (.int .i64 ((n : Nat) : Int)))
end Go.Own

namespace Go.Proofs
open Go.Shelf
def Tryd.so67_ren : Go.Shelf.Ren := ⟨fun | 6 => 67 | 15 => 79 | 14 => 78 | 28 => 97 | 29 => 98 | 20 => 89 | 21 => 90 | 22 => 91 | 23 => 92 | 24 => 93 | 25 => 94 | 26 => 95 | 27 => 96 | 46 => 104 | 47 => 105 | 48 => 106 | 49 => 107 | 50 => 108 | 57 => 111 | n => n, fun | 22 => 31 | 24 => 43 | 25 => 92 | 3 => 3 | 39 => 140 | 0 => 0 | 53 => 160 | 55 => 116 | 4 => 4 | 46 => 153 | 45 => 152 | 50 => 157 | 5 => 5 | 9 => 9 | 66 => 164 | 70 => 168 | 76 => 170 | 77 => 171 | n => n, fun | n => n⟩
theorem Tryd.so67 : Go.Proofs.SlLaysF0.n6 Tryd.prog Tryd.so67_ren := {
 mixed := by kernel_rfl
 f6 := ⟨Tryd.f67.name, by decide, Tryd.func67.trans (congrArg some (by kernel_rfl))⟩
 f14 := ⟨Tryd.f78.name, by decide, Tryd.func78.trans (congrArg some (by kernel_rfl))⟩
 f15 := Tryd.func79.trans (congrArg some (by kernel_rfl))
 f20 := ⟨Tryd.f89.name, by decide, Tryd.func89.trans (congrArg some (by kernel_rfl))⟩
 f21 := ⟨Tryd.f90.name, by decide, Tryd.func90.trans (congrArg some (by kernel_rfl))⟩
 f22 := ⟨Tryd.f91.name, by decide, Tryd.func91.trans (congrArg some (by kernel_rfl))⟩
 f23 := ⟨Tryd.f92.name, by decide, Tryd.func92.trans (congrArg some (by kernel_rfl))⟩
 f24 := ⟨Tryd.f93.name, by decide, Tryd.func93.trans (congrArg some (by kernel_rfl))⟩
 f25 := ⟨Tryd.f94.name, by decide, Tryd.func94.trans (congrArg some (by kernel_rfl))⟩
 f26 := ⟨Tryd.f95.name, by decide, Tryd.func95.trans (congrArg some (by kernel_rfl))⟩
 f27 := ⟨Tryd.f96.name, by decide, Tryd.func96.trans (congrArg some (by kernel_rfl))⟩
 f28 := Tryd.func97.trans (congrArg some (by kernel_rfl))
 f29 := Tryd.func98.trans (congrArg some (by kernel_rfl))
 f46 := ⟨Tryd.f104.name, by decide, Tryd.func104.trans (congrArg some (by kernel_rfl))⟩
 f47 := Tryd.func105.trans (congrArg some (by kernel_rfl))
 f48 := Tryd.func106.trans (congrArg some (by kernel_rfl))
 f49 := ⟨Tryd.f107.name, by decide, Tryd.func107.trans (congrArg some (by kernel_rfl))⟩
 f50 := ⟨Tryd.f108.name, by decide, Tryd.func108.trans (congrArg some (by kernel_rfl))⟩
 f57 := ⟨Tryd.f111.name, by decide, Tryd.func111.trans (congrArg some (by kernel_rfl))⟩
 t0 := Tryd.underlying0
 a0 := Tryd.isAgg0
 z0 := Tryd.sizeOf0
 v0 := Tryd.zeroValue0
 t3 := Tryd.underlying3
 a3 := Tryd.isAgg3
 z3 := Tryd.sizeOf3
 v3 := Tryd.zeroValue3
 t4 := Tryd.underlying4
 a4 := Tryd.isAgg4
 z4 := Tryd.sizeOf4
 v4 := Tryd.zeroValue4
 t5 := Tryd.underlying5
 a5 := Tryd.isAgg5
 z5 := Tryd.sizeOf5
 v5 := Tryd.zeroValue5
 t9 := Tryd.underlying9
 a9 := Tryd.isAgg9
 z9 := Tryd.sizeOf9
 v9 := Tryd.zeroValue9
 t22 := Tryd.underlying31
 a22 := Tryd.isAgg31
 z22 := Tryd.sizeOf31
 v22 := Tryd.zeroValue31
 t25 := Tryd.underlying92
 a25 := Tryd.isAgg92
 z25 := Tryd.sizeOf92
 v25 := Tryd.zeroValue92
 t39 := Tryd.underlying140
 a39 := Tryd.isAgg140
 z39 := Tryd.sizeOf140
 v39 := Tryd.zeroValue140
 t45 := Tryd.underlying152
 a45 := Tryd.isAgg152
 z45 := Tryd.sizeOf152
 v45 := Tryd.zeroValue152
 t46 := Tryd.underlying153
 a46 := Tryd.isAgg153
 z46 := Tryd.sizeOf153
 v46 := Tryd.zeroValue153
 t50 := Tryd.underlying157
 a50 := Tryd.isAgg157
 z50 := Tryd.sizeOf157
 v50 := Tryd.zeroValue157
 t53 := Tryd.underlying160
 a53 := Tryd.isAgg160
 z53 := Tryd.sizeOf160
 v53 := Tryd.zeroValue160
 t55 := Tryd.underlying116
 a55 := Tryd.isAgg116
 z55 := Tryd.sizeOf116
 v55 := Tryd.zeroValue116
 t66 := Tryd.underlying164
 a66 := Tryd.isAgg164
 z66 := Tryd.sizeOf164
 v66 := Tryd.zeroValue164
 t70 := Tryd.underlying168
 a70 := Tryd.isAgg168
 z70 := Tryd.sizeOf168
 v70 := Tryd.zeroValue168
 t76 := Tryd.underlying170
 a76 := Tryd.isAgg170
 z76 := Tryd.sizeOf170
 v76 := Tryd.zeroValue170
 t77 := Tryd.underlying171
 a77 := Tryd.isAgg171
 z77 := Tryd.sizeOf171
 v77 := Tryd.zeroValue171 }
end Go.Proofs
