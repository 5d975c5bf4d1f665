/- -/
import Derived.Test.YtkelmheleahmpaaDoorPartB
import Derived.Test.YtkelmheleahmpaaDoorProg
import Derived.Test.YtkelmheleahmpaaDoorPartD
import Derived.Test.YtkelmheleahmpaaDoorPartC
import Derived.Shelf.SlSortCmp.NoneTotal
import Derived.Ground.SlsfProg
set_option linter.unusedVariables false
set_option linter.unusedSimpArgs false
namespace Go.Ex
open Go.Proofs
theorem q3 : EqP Tryd.prog 3 [.int .i64 0] false 1 := z6n (k := .int .i64) Tryd.underlying3 ⟨_, (by kernel_rfl : Tryd.prog.info? 3 = some Tryd.t3), rfl⟩ rfl
theorem q34 : EqP Tryd.prog 34 (z3z 2 [.int .i64 0]) true 2 := Qi Tryd.underlying34 q3 ⟨_, (by kernel_rfl : Tryd.prog.info? 34 = some Tryd.t34), rfl⟩
def i34 : EI := ⟨.array 2 3, 2, 16, some [.int .i64 0, .int .i64 0], true⟩
theorem z7m : z54 Tryd.prog 34 i34 := ⟨⟨Tryd.t34, by kernel_rfl, rfl, rfl, fun z h => by cases h; exact ⟨_, rfl, rfl, Xb rfl, rfl, ⟨_, rfl⟩⟩⟩, Tryd.underlying34, fun _ => kD q34 rfl rfl (Nat.le_of_ble_eq_true (by kernel_rfl)) (by decide)⟩
theorem q35 : EqP Tryd.prog 35 (kW [([.int .i64 0, .int .i64 0], true), ([.int .i64 0, .int .i64 0], true), ([.int .i64 0, .int .i64 0], true)]) true 3 := qb Tryd.underlying35 (by kernel_rfl) ⟨_, (by kernel_rfl : Tryd.prog.info? 35 = some Tryd.t35), rfl⟩ (by decide) (zQ.cons (by decide) rfl (q34.mono (by decide)) (zQ.cons (by decide) rfl (q34.mono (by decide)) (zQ.cons (by decide) rfl (q34.mono (by decide)) (zQ.nil))))
def i35 : EI := ⟨.struct [(0, 34), (2, 34), (4, 34)], 6, 48, some [.int .i64 0, .int .i64 0, .int .i64 0, .int .i64 0, .int .i64 0, .int .i64 0], true⟩
theorem zeY : z54 Tryd.prog 35 i35 := ⟨⟨Tryd.t35, by kernel_rfl, rfl, rfl, fun z h => by cases h; exact ⟨_, rfl, rfl, Xb rfl, rfl, ⟨_, rfl⟩⟩⟩, ⟨_, Tryd.underlying35, by kernel_rfl, by
  intro f hf
  simp only [List.mem_cons, List.not_mem_nil, or_false] at hf
  rcases hf with rfl | rfl | rfl
  ·exact ⟨Tryd.t34, by kernel_rfl⟩
  ·exact ⟨Tryd.t34, by kernel_rfl⟩
  ·exact ⟨Tryd.t34, by kernel_rfl⟩⟩, fun _ => kD q35 rfl rfl (Nat.le_of_ble_eq_true (by kernel_rfl)) (by decide)⟩
theorem q36 : EqP Tryd.prog 36 (kW [([.int .i64 0, .int .i64 0], true), ([.int .i64 0, .int .i64 0], true), ([.int .i64 0, .int .i64 0], true)]) true 3 := qb Tryd.underlying36 (by kernel_rfl) ⟨_, (by kernel_rfl : Tryd.prog.info? 36 = some Tryd.t36), rfl⟩ (by decide) (zQ.cons (by decide) rfl (q34.mono (by decide)) (zQ.cons (by decide) rfl (q34.mono (by decide)) (zQ.cons (by decide) rfl (q34.mono (by decide)) (zQ.nil))))
def i36 : EI := ⟨.struct [(0, 34), (2, 34), (4, 34)], 6, 48, some [.int .i64 0, .int .i64 0, .int .i64 0, .int .i64 0, .int .i64 0, .int .i64 0], true⟩
theorem zaS : z54 Tryd.prog 36 i36 := ⟨⟨Tryd.t36, by kernel_rfl, rfl, rfl, fun z h => by cases h; exact ⟨_, rfl, rfl, Xb rfl, rfl, ⟨_, rfl⟩⟩⟩, ⟨_, Tryd.underlying36, by kernel_rfl, by
  intro f hf
  simp only [List.mem_cons, List.not_mem_nil, or_false] at hf
  rcases hf with rfl | rfl | rfl
  ·exact ⟨Tryd.t34, by kernel_rfl⟩
  ·exact ⟨Tryd.t34, by kernel_rfl⟩
  ·exact ⟨Tryd.t34, by kernel_rfl⟩⟩, fun _ => kD q36 rfl rfl (Nat.le_of_ble_eq_true (by kernel_rfl)) (by decide)⟩
def i64 : EI := ⟨.func, 1, 8, some [.nilFunc], false⟩
theorem q73 : EqP Tryd.prog 73 (z3z 3 [.int .i64 0, .int .i64 0]) true 3 := Qi Tryd.underlying73 q34 ⟨_, (by kernel_rfl : Tryd.prog.info? 73 = some Tryd.t73), rfl⟩
def i73 : EI := ⟨.array 3 34, 6, 48, some [.int .i64 0, .int .i64 0, .int .i64 0, .int .i64 0, .int .i64 0, .int .i64 0], true⟩
theorem zaR : z54 Tryd.prog 73 i73 := ⟨⟨Tryd.t73, by kernel_rfl, rfl, rfl, fun z h => by cases h; exact ⟨_, rfl, rfl, Xb rfl, rfl, ⟨_, rfl⟩⟩⟩, Tryd.underlying73, fun _ => kD q73 rfl rfl (Nat.le_of_ble_eq_true (by kernel_rfl)) (by decide)⟩
theorem q80 : EqP Tryd.prog 80 (kW [([.int .i64 0], false), ([.int .i64 0], false)]) true 2 := qb Tryd.underlying80 (by kernel_rfl) ⟨_, (by kernel_rfl : Tryd.prog.info? 80 = some Tryd.t80), rfl⟩ (by decide) (zQ.cons (by decide) rfl (q3.mono (by decide)) (zQ.cons (by decide) rfl (q3.mono (by decide)) (zQ.nil)))
def i80 : EI := ⟨.struct [(0, 3), (1, 3)], 2, 16, some [.int .i64 0, .int .i64 0], true⟩
theorem zeX : z54 Tryd.prog 80 i80 := ⟨⟨Tryd.t80, by kernel_rfl, rfl, rfl, fun z h => by cases h; exact ⟨_, rfl, rfl, Xb rfl, rfl, ⟨_, rfl⟩⟩⟩, ⟨_, Tryd.underlying80, by kernel_rfl, by
  intro f hf
  simp only [List.mem_cons, List.not_mem_nil, or_false] at hf
  rcases hf with rfl | rfl
  ·exact ⟨Tryd.t3, by kernel_rfl⟩
  ·exact ⟨Tryd.t3, by kernel_rfl⟩⟩, fun _ => kD q80 rfl rfl (Nat.le_of_ble_eq_true (by kernel_rfl)) (by decide)⟩
theorem q81 : EqP Tryd.prog 81 (kW [([.int .i64 0], false), ([.int .i64 0], false)]) true 2 := qb Tryd.underlying81 (by kernel_rfl) ⟨_, (by kernel_rfl : Tryd.prog.info? 81 = some Tryd.t81), rfl⟩ (by decide) (zQ.cons (by decide) rfl (q3.mono (by decide)) (zQ.cons (by decide) rfl (q3.mono (by decide)) (zQ.nil)))
def i81 : EI := ⟨.struct [(0, 3), (1, 3)], 2, 16, some [.int .i64 0, .int .i64 0], true⟩
theorem zaQ : z54 Tryd.prog 81 i81 := ⟨⟨Tryd.t81, by kernel_rfl, rfl, rfl, fun z h => by cases h; exact ⟨_, rfl, rfl, Xb rfl, rfl, ⟨_, rfl⟩⟩⟩, ⟨_, Tryd.underlying81, by kernel_rfl, by
  intro f hf
  simp only [List.mem_cons, List.not_mem_nil, or_false] at hf
  rcases hf with rfl | rfl
  ·exact ⟨Tryd.t3, by kernel_rfl⟩
  ·exact ⟨Tryd.t3, by kernel_rfl⟩⟩, fun _ => kD q81 rfl rfl (Nat.le_of_ble_eq_true (by kernel_rfl)) (by decide)⟩
theorem q83 : EqP Tryd.prog 83 (kW [([.int .i64 0], false), ([.int .i64 0], false), ([.int .i64 0], false)]) true 2 := qb Tryd.underlying83 (by kernel_rfl) ⟨_, (by kernel_rfl : Tryd.prog.info? 83 = some Tryd.t83), rfl⟩ (by decide) (zQ.cons (by decide) rfl (q3.mono (by decide)) (zQ.cons (by decide) rfl (q3.mono (by decide)) (zQ.cons (by decide) rfl (q3.mono (by decide)) (zQ.nil))))
def i83 : EI := ⟨.struct [(0, 3), (1, 3), (2, 3)], 3, 24, some [.int .i64 0, .int .i64 0, .int .i64 0], true⟩
theorem zeW : z54 Tryd.prog 83 i83 := ⟨⟨Tryd.t83, by kernel_rfl, rfl, rfl, fun z h => by cases h; exact ⟨_, rfl, rfl, Xb rfl, rfl, ⟨_, rfl⟩⟩⟩, ⟨_, Tryd.underlying83, by kernel_rfl, by
  intro f hf
  simp only [List.mem_cons, List.not_mem_nil, or_false] at hf
  rcases hf with rfl | rfl | rfl
  ·exact ⟨Tryd.t3, by kernel_rfl⟩
  ·exact ⟨Tryd.t3, by kernel_rfl⟩
  ·exact ⟨Tryd.t3, by kernel_rfl⟩⟩, fun _ => kD q83 rfl rfl (Nat.le_of_ble_eq_true (by kernel_rfl)) (by decide)⟩
theorem q84 : EqP Tryd.prog 84 (kW [([.int .i64 0], false), ([.int .i64 0], false), ([.int .i64 0], false)]) true 2 := qb Tryd.underlying84 (by kernel_rfl) ⟨_, (by kernel_rfl : Tryd.prog.info? 84 = some Tryd.t84), rfl⟩ (by decide) (zQ.cons (by decide) rfl (q3.mono (by decide)) (zQ.cons (by decide) rfl (q3.mono (by decide)) (zQ.cons (by decide) rfl (q3.mono (by decide)) (zQ.nil))))
def i84 : EI := ⟨.struct [(0, 3), (1, 3), (2, 3)], 3, 24, some [.int .i64 0, .int .i64 0, .int .i64 0], true⟩
theorem z7l : z54 Tryd.prog 84 i84 := ⟨⟨Tryd.t84, by kernel_rfl, rfl, rfl, fun z h => by cases h; exact ⟨_, rfl, rfl, Xb rfl, rfl, ⟨_, rfl⟩⟩⟩, ⟨_, Tryd.underlying84, by kernel_rfl, by
  intro f hf
  simp only [List.mem_cons, List.not_mem_nil, or_false] at hf
  rcases hf with rfl | rfl | rfl
  ·exact ⟨Tryd.t3, by kernel_rfl⟩
  ·exact ⟨Tryd.t3, by kernel_rfl⟩
  ·exact ⟨Tryd.t3, by kernel_rfl⟩⟩, fun _ => kD q84 rfl rfl (Nat.le_of_ble_eq_true (by kernel_rfl)) (by decide)⟩
theorem zfC : EqP Tryd.prog 107 (z3z 3 [.int .i64 0]) true 2 := Qi Tryd.underlying107 q3 ⟨_, (by kernel_rfl : Tryd.prog.info? 107 = some Tryd.t107), rfl⟩
def zfI : EI := ⟨.array 3 3, 3, 24, some [.int .i64 0, .int .i64 0, .int .i64 0], true⟩
theorem z8Y : z54 Tryd.prog 107 zfI := ⟨⟨Tryd.t107, by kernel_rfl, rfl, rfl, fun z h => by cases h; exact ⟨_, rfl, rfl, Xb rfl, rfl, ⟨_, rfl⟩⟩⟩, Tryd.underlying107, fun _ => kD zfC rfl rfl (Nat.le_of_ble_eq_true (by kernel_rfl)) (by decide)⟩
theorem zfB : EqP Tryd.prog 134 (kW [([.int .i64 0], false), ([.int .i64 0], false), ([.int .i64 0], false)]) true 2 := qb Tryd.underlying134 (by kernel_rfl) ⟨_, (by kernel_rfl : Tryd.prog.info? 134 = some Tryd.t134), rfl⟩ (by decide) (zQ.cons (by decide) rfl (q3.mono (by decide)) (zQ.cons (by decide) rfl (q3.mono (by decide)) (zQ.cons (by decide) rfl (q3.mono (by decide)) (zQ.nil))))
def zfH : EI := ⟨.struct [(0, 3), (1, 3), (2, 3)], 3, 24, some [.int .i64 0, .int .i64 0, .int .i64 0], true⟩
theorem zd7 : z54 Tryd.prog 134 zfH := ⟨⟨Tryd.t134, by kernel_rfl, rfl, rfl, fun z h => by cases h; exact ⟨_, rfl, rfl, Xb rfl, rfl, ⟨_, rfl⟩⟩⟩, ⟨_, Tryd.underlying134, by kernel_rfl, by
  intro f hf
  simp only [List.mem_cons, List.not_mem_nil, or_false] at hf
  rcases hf with rfl | rfl | rfl
  ·exact ⟨Tryd.t3, by kernel_rfl⟩
  ·exact ⟨Tryd.t3, by kernel_rfl⟩
  ·exact ⟨Tryd.t3, by kernel_rfl⟩⟩, fun _ => kD zfB rfl rfl (Nat.le_of_ble_eq_true (by kernel_rfl)) (by decide)⟩
theorem zfA : EqP Tryd.prog 135 (kW [([.int .i64 0], false), ([.int .i64 0], false), ([.int .i64 0], false)]) true 2 := qb Tryd.underlying135 (by kernel_rfl) ⟨_, (by kernel_rfl : Tryd.prog.info? 135 = some Tryd.t135), rfl⟩ (by decide) (zQ.cons (by decide) rfl (q3.mono (by decide)) (zQ.cons (by decide) rfl (q3.mono (by decide)) (zQ.cons (by decide) rfl (q3.mono (by decide)) (zQ.nil))))
def zfG : EI := ⟨.struct [(0, 3), (1, 3), (2, 3)], 3, 24, some [.int .i64 0, .int .i64 0, .int .i64 0], true⟩
theorem z8X : z54 Tryd.prog 135 zfG := ⟨⟨Tryd.t135, by kernel_rfl, rfl, rfl, fun z h => by cases h; exact ⟨_, rfl, rfl, Xb rfl, rfl, ⟨_, rfl⟩⟩⟩, ⟨_, Tryd.underlying135, by kernel_rfl, by
  intro f hf
  simp only [List.mem_cons, List.not_mem_nil, or_false] at hf
  rcases hf with rfl | rfl | rfl
  ·exact ⟨Tryd.t3, by kernel_rfl⟩
  ·exact ⟨Tryd.t3, by kernel_rfl⟩
  ·exact ⟨Tryd.t3, by kernel_rfl⟩⟩, fun _ => kD zfA rfl rfl (Nat.le_of_ble_eq_true (by kernel_rfl)) (by decide)⟩
end Go.Ex

namespace Go.Own
open Go.Proofs
def zd6 : Value → Bool
 | .int _ _ => true
 | _ => false
theorem z0p : ∀ {z vs us : List Value} {r : Bool}, z.all zd6 = true → z.length = vs.length → yW vs us = some r → Go.Ex.Kz z vs = true ∧ Go.Ex.yW vs us = some r
 | [], [], us, r, _, _, h => by
  cases us with
  | nil => simp only [yW, Option.some.injEq] at h; subst h; exact ⟨rfl, rfl⟩
  | cons u us => simp [yW] at h
 | a :: z, v :: vs, us, r, hz, hl, h => by
  have q : ∃ k x u' k' y, v = .int k x ∧ us = .int k' y :: u' ∧ k = k' := by
   cases us with
   | nil => cases v <;> simp [yW] at h
   | cons u us =>
    cases v <;> cases u <;> simp [yW] at h
    exact ⟨_, _, _, _, _, rfl, rfl, h.1⟩
  obtain ⟨k, x, u', k', y, rfl, rfl, hk⟩ := q
  simp only [yW, hk, if_true, Option.map_eq_some_iff] at h
  obtain ⟨r', e1, rfl⟩ := h
  simp only [List.all_cons, Bool.and_eq_true] at hz
  obtain ⟨q1, q2⟩ := z0p hz.2 (by simpa using hl) e1
  refine ⟨?_, by simp [Go.Ex.yW, hk, q2]⟩
  cases a <;> first | (simp [zd6] at hz; done) | simpa [Go.Ex.Kz] using q1
 | [], _ :: _, _, _, _, hl, _ => by simp at hl
 | _ :: _, [], _, _, _, hl, _ => by simp at hl
variable {P : Program}
theorem XT {t n : Nat} {i : Go.Ex.EI} (h : Go.Ex.z7z P t i) {z : List Value} (hz : i.zero = some z) (hi : z.all zd6 = true) (hs : i.size = n) (hn : z.length = n) : z7z P t n := {
 guard := h.guard
 run := fun vs us r w hv hu he => by
  obtain ⟨q1, q2⟩ := z0p hi (by rw [hn, hv]) he
  exact h.run vs us r w (by rw [hs]; exact hv) (by rw [hs]; exact hu) (by simpa only [Go.Ex.zdb, hz] using q1) q2 }
variable {h : Array Obj}{S : zj}
theorem zk {v : Value} (hv : v.oneCell' = true) : zI S h (.atom v) [v] [] := by simp only [zI, Rep]; exact ⟨⟨trivial, hv⟩, trivial⟩
theorem vz (sz : Nat) : zI S h (.osl sz true []) [.slice none 0 0] [] := by
 simp only [zI]
 exact ⟨none, 0, rfl, (fun _ => rfl), Nat.le_refl _, Nat.zero_le _, by simp, .inl ⟨trivial, rfl, rfl, trivial⟩⟩
variable {a : A}
theorem z4x {c : List Value} (q : zI S h a c []) : ∀ n, zM S h (List.replicate n a) (List.replicate n c).flatten []
 | 0 => by simp [zM]
 | n + 1 => by
  rw [List.replicate_succ, List.replicate_succ, List.flatten_cons]
  simp only [zM]
  exact ⟨c, _, [], [], rfl, rfl, q, z4x q n⟩
theorem zfL {c c' : List Value} (q : zI S h a c []) (e : c' = c) : zI S h a c' [] := e ▸ q
variable {fs : List A}
theorem wo {cs : List Value} (q : zM S h fs cs []) : zI S h (.agg fs) cs [] := by simpa only [zI] using q
theorem xp : zM S h [] [] [] := by simp [zM]
theorem zw {c1 c2 : List Value} (q1 : zI S h a c1 []) (q2 : zM S h fs c2 []) : zM S h (a :: fs) (c1 ++ c2) [] := by simp only [zM]; exact ⟨c1, c2, [], [], rfl, rfl, q1, q2⟩
def ti1 : TI := ⟨.other, 1, 8, some (.atom .nilFunc), false⟩
theorem z9M : jt Tryd.prog 1 ti1 := ⟨⟨Tryd.t1, by kernel_rfl, rfl, rfl, fun z h => by cases h; exact ⟨_, rfl, rfl, fun S h => zk rfl⟩⟩, ⟨_, Tryd.underlying1, rfl⟩, by intro h; cases h⟩
def ti2 : TI := ⟨.int .i64, 1, 8, some (.atom (.int .i64 0)), false⟩
theorem z9L : jt Tryd.prog 2 ti2 := ⟨⟨Tryd.t2, by kernel_rfl, rfl, rfl, fun z h => by cases h; exact ⟨_, rfl, rfl, fun S h => zk rfl⟩⟩, Tryd.underlying2, by intro h; cases h⟩
def ti3 : TI := ⟨.int .i64, 1, 8, some (.atom (.int .i64 0)), false⟩
theorem z9K : jt Tryd.prog 3 ti3 := ⟨⟨Tryd.t3, by kernel_rfl, rfl, rfl, fun z h => by cases h; exact ⟨_, rfl, rfl, fun S h => zk rfl⟩⟩, Tryd.underlying3, by intro h; cases h⟩
def ti4 : TI := ⟨.bool, 1, 1, some (.atom (.bool false)), false⟩
theorem z9J : jt Tryd.prog 4 ti4 := ⟨⟨Tryd.t4, by kernel_rfl, rfl, rfl, fun z h => by cases h; exact ⟨_, rfl, rfl, fun S h => zk rfl⟩⟩, Tryd.underlying4, by intro h; cases h⟩
def ti5 : TI := ⟨.int .u8, 1, 1, some (.atom (.int .u8 0)), false⟩
theorem z9I : jt Tryd.prog 5 ti5 := ⟨⟨Tryd.t5, by kernel_rfl, rfl, rfl, fun z h => by cases h; exact ⟨_, rfl, rfl, fun S h => zk rfl⟩⟩, Tryd.underlying5, by intro h; cases h⟩
def ti9 : TI := ⟨.str, 1, 16, some (.atom (.string ⟨#[]⟩)), false⟩
theorem z9H : jt Tryd.prog 9 ti9 := ⟨⟨Tryd.t9, by kernel_rfl, rfl, rfl, fun z h => by cases h; exact ⟨_, rfl, rfl, fun S h => zk rfl⟩⟩, Tryd.underlying9, by intro h; cases h⟩
def zeA : TI := ⟨.slice 51, 1, 24, some (.osl 1 true []), false⟩
theorem z89 : jt Tryd.prog 28 zeA := ⟨⟨Tryd.t28, by kernel_rfl, rfl, rfl, fun z h => by cases h; exact ⟨_, rfl, rfl, fun S h => vz _⟩⟩, Tryd.underlying28, by intro h; cases h⟩
def zez : TI := ⟨.struct [(0, 1), (1, 1), (2, 1)], 3, 40, some (.agg [.atom (.int .i64 0), .atom (.int .i64 0), .osl 1 true []]), false⟩
theorem z88 : jt Tryd.prog 30 zez := ⟨⟨Tryd.t30, by kernel_rfl, rfl, rfl, fun z h => by cases h; exact ⟨_, rfl, rfl, fun S h => wo (zw (zk rfl) (zw (zk rfl) (zw (vz _) (xp))))⟩⟩, ⟨_, Tryd.underlying30, by kernel_rfl, by
  intro f hf
  simp only [List.mem_cons, List.not_mem_nil, or_false] at hf
  rcases hf with rfl | rfl | rfl
  ·exact ⟨Tryd.t3, by kernel_rfl⟩
  ·exact ⟨Tryd.t3, by kernel_rfl⟩
  ·exact ⟨Tryd.t28, by kernel_rfl⟩⟩, by intro h; cases h⟩
def zey : TI := ⟨.slice 43, 1, 24, some (.osl 1 true []), false⟩
theorem z87 : jt Tryd.prog 31 zey := ⟨⟨Tryd.t31, by kernel_rfl, rfl, rfl, fun z h => by cases h; exact ⟨_, rfl, rfl, fun S h => vz _⟩⟩, Tryd.underlying31, by intro h; cases h⟩
def zex : TI := ⟨.array 2 3, 2, 16, some (.agg [.atom (.int .i64 0), .atom (.int .i64 0)]), true⟩
theorem z33 : jt Tryd.prog 34 zex := ⟨⟨Tryd.t34, by kernel_rfl, rfl, rfl, fun z h => by cases h; exact ⟨_, rfl, rfl, fun S h => wo (zw (zk rfl) (zw (zk rfl) (xp)))⟩⟩, Tryd.underlying34, fun _ => XT (Go.Ex.z7m.eqn rfl) rfl rfl rfl rfl⟩
def zew : TI := ⟨.struct [(0, 2), (2, 2), (4, 2)], 6, 48, some (.agg [.agg [.atom (.int .i64 0), .atom (.int .i64 0)], .agg [.atom (.int .i64 0), .atom (.int .i64 0)], .agg [.atom (.int .i64 0), .atom (.int .i64 0)]]), true⟩
theorem z86 : jt Tryd.prog 36 zew := ⟨⟨Tryd.t36, by kernel_rfl, rfl, rfl, fun z h => by cases h; exact ⟨_, rfl, rfl, fun S h => wo (zw (wo (zw (zk rfl) (zw (zk rfl) (xp)))) (zw (wo (zw (zk rfl) (zw (zk rfl) (xp)))) (zw (wo (zw (zk rfl) (zw (zk rfl) (xp)))) (xp))))⟩⟩, ⟨_, Tryd.underlying36, by kernel_rfl, by
  intro f hf
  simp only [List.mem_cons, List.not_mem_nil, or_false] at hf
  rcases hf with rfl | rfl | rfl
  ·exact ⟨Tryd.t34, by kernel_rfl⟩
  ·exact ⟨Tryd.t34, by kernel_rfl⟩
  ·exact ⟨Tryd.t34, by kernel_rfl⟩⟩, fun _ => XT (Go.Ex.zaS.eqn rfl) rfl rfl rfl rfl⟩
def zev : TI := ⟨.int .i64, 1, 8, some (.atom (.int .i64 0)), false⟩
theorem z85 : jt Tryd.prog 37 zev := ⟨⟨Tryd.t37, by kernel_rfl, rfl, rfl, fun z h => by cases h; exact ⟨_, rfl, rfl, fun S h => zk rfl⟩⟩, Tryd.underlying37, by intro h; cases h⟩
def zeu : TI := ⟨.slice 4, 1, 24, some (.osl 1 true []), false⟩
theorem z84 : jt Tryd.prog 40 zeu := ⟨⟨Tryd.t40, by kernel_rfl, rfl, rfl, fun z h => by cases h; exact ⟨_, rfl, rfl, fun S h => vz _⟩⟩, Tryd.underlying40, by intro h; cases h⟩
def zet : TI := ⟨.slice 3, 1, 24, some (.osl 1 true []), false⟩
theorem z83 : jt Tryd.prog 43 zet := ⟨⟨Tryd.t43, by kernel_rfl, rfl, rfl, fun z h => by cases h; exact ⟨_, rfl, rfl, fun S h => vz _⟩⟩, Tryd.underlying43, by intro h; cases h⟩
def zes : TI := ⟨.other, 1, 8, some (.atom .nilFunc), false⟩
theorem z82 : jt Tryd.prog 45 zes := ⟨⟨Tryd.t45, by kernel_rfl, rfl, rfl, fun z h => by cases h; exact ⟨_, rfl, rfl, fun S h => zk rfl⟩⟩, ⟨_, Tryd.underlying45, rfl⟩, by intro h; cases h⟩
def zer : TI := ⟨.other, 1, 8, some (.atom .nilFunc), false⟩
theorem z81 : jt Tryd.prog 46 zer := ⟨⟨Tryd.t46, by kernel_rfl, rfl, rfl, fun z h => by cases h; exact ⟨_, rfl, rfl, fun S h => zk rfl⟩⟩, ⟨_, Tryd.underlying46, rfl⟩, by intro h; cases h⟩
def zeq : TI := ⟨.other, 1, 8, some (.atom .nilFunc), false⟩
theorem z80 : jt Tryd.prog 47 zeq := ⟨⟨Tryd.t47, by kernel_rfl, rfl, rfl, fun z h => by cases h; exact ⟨_, rfl, rfl, fun S h => zk rfl⟩⟩, ⟨_, Tryd.underlying47, rfl⟩, by intro h; cases h⟩
def zep : TI := ⟨.slice 81, 1, 24, some (.osl 2 true []), false⟩
theorem z7Z : jt Tryd.prog 51 zep := ⟨⟨Tryd.t51, by kernel_rfl, rfl, rfl, fun z h => by cases h; exact ⟨_, rfl, rfl, fun S h => vz _⟩⟩, Tryd.underlying51, by intro h; cases h⟩
def zeo : TI := ⟨.slice 34, 1, 24, some (.osl 2 true []), false⟩
theorem z7Y : jt Tryd.prog 56 zeo := ⟨⟨Tryd.t56, by kernel_rfl, rfl, rfl, fun z h => by cases h; exact ⟨_, rfl, rfl, fun S h => vz _⟩⟩, Tryd.underlying56, by intro h; cases h⟩
def zen : TI := ⟨.slice 84, 1, 24, some (.osl 3 true []), false⟩
theorem z7X : jt Tryd.prog 59 zen := ⟨⟨Tryd.t59, by kernel_rfl, rfl, rfl, fun z h => by cases h; exact ⟨_, rfl, rfl, fun S h => vz _⟩⟩, Tryd.underlying59, by intro h; cases h⟩
def zem : TI := ⟨.slice 5, 1, 24, some (.osl 1 true []), false⟩
theorem z7W : jt Tryd.prog 65 zem := ⟨⟨Tryd.t65, by kernel_rfl, rfl, rfl, fun z h => by cases h; exact ⟨_, rfl, rfl, fun S h => vz _⟩⟩, Tryd.underlying65, by intro h; cases h⟩
def zel : TI := ⟨.other, 1, 8, some (.atom (.map none)), false⟩
theorem z7V : jt Tryd.prog 67 zel := ⟨⟨Tryd.t67, by kernel_rfl, rfl, rfl, fun z h => by cases h; exact ⟨_, rfl, rfl, fun S h => zk rfl⟩⟩, ⟨_, Tryd.underlying67, rfl⟩, by intro h; cases h⟩
def zek : TI := ⟨.other, 1, 8, some (.atom (.map none)), false⟩
theorem z7U : jt Tryd.prog 68 zek := ⟨⟨Tryd.t68, by kernel_rfl, rfl, rfl, fun z h => by cases h; exact ⟨_, rfl, rfl, fun S h => zk rfl⟩⟩, ⟨_, Tryd.underlying68, rfl⟩, by intro h; cases h⟩
def zej : TI := ⟨.other, 1, 8, some (.atom (.map none)), false⟩
theorem z7T : jt Tryd.prog 69 zej := ⟨⟨Tryd.t69, by kernel_rfl, rfl, rfl, fun z h => by cases h; exact ⟨_, rfl, rfl, fun S h => zk rfl⟩⟩, ⟨_, Tryd.underlying69, rfl⟩, by intro h; cases h⟩
def zei : TI := ⟨.struct [(0, 1), (1, 1), (2, 1)], 3, 24, some (.agg [.atom (.map none), .atom (.map none), .atom (.map none)]), false⟩
theorem z7S : jt Tryd.prog 71 zei := ⟨⟨Tryd.t71, by kernel_rfl, rfl, rfl, fun z h => by cases h; exact ⟨_, rfl, rfl, fun S h => wo (zw (zk rfl) (zw (zk rfl) (zw (zk rfl) (xp))))⟩⟩, ⟨_, Tryd.underlying71, by kernel_rfl, by
  intro f hf
  simp only [List.mem_cons, List.not_mem_nil, or_false] at hf
  rcases hf with rfl | rfl | rfl
  ·exact ⟨Tryd.t67, by kernel_rfl⟩
  ·exact ⟨Tryd.t68, by kernel_rfl⟩
  ·exact ⟨Tryd.t69, by kernel_rfl⟩⟩, by intro h; cases h⟩
def zeh : TI := ⟨.array 3 34, 6, 48, some (.agg [.agg [.atom (.int .i64 0), .atom (.int .i64 0)], .agg [.atom (.int .i64 0), .atom (.int .i64 0)], .agg [.atom (.int .i64 0), .atom (.int .i64 0)]]), true⟩
theorem z7R : jt Tryd.prog 73 zeh := ⟨⟨Tryd.t73, by kernel_rfl, rfl, rfl, fun z h => by cases h; exact ⟨_, rfl, rfl, fun S h => wo (zw (wo (zw (zk rfl) (zw (zk rfl) (xp)))) (zw (wo (zw (zk rfl) (zw (zk rfl) (xp)))) (zw (wo (zw (zk rfl) (zw (zk rfl) (xp)))) (xp))))⟩⟩, Tryd.underlying73, fun _ => XT (Go.Ex.zaR.eqn rfl) rfl rfl rfl rfl⟩
def zeg : TI := ⟨.slice 87, 1, 24, some (.osl 5 true []), false⟩
theorem z7Q : jt Tryd.prog 75 zeg := ⟨⟨Tryd.t75, by kernel_rfl, rfl, rfl, fun z h => by cases h; exact ⟨_, rfl, rfl, fun S h => vz _⟩⟩, Tryd.underlying75, by intro h; cases h⟩
def zef : TI := ⟨.other, 1, 8, some (.atom .nilFunc), false⟩
theorem z7P : jt Tryd.prog 77 zef := ⟨⟨Tryd.t77, by kernel_rfl, rfl, rfl, fun z h => by cases h; exact ⟨_, rfl, rfl, fun S h => zk rfl⟩⟩, ⟨_, Tryd.underlying77, rfl⟩, by intro h; cases h⟩
def zee : TI := ⟨.struct [(0, 1), (1, 1)], 2, 16, some (.agg [.atom (.int .i64 0), .atom (.int .i64 0)]), true⟩
theorem z7O : jt Tryd.prog 81 zee := ⟨⟨Tryd.t81, by kernel_rfl, rfl, rfl, fun z h => by cases h; exact ⟨_, rfl, rfl, fun S h => wo (zw (zk rfl) (zw (zk rfl) (xp)))⟩⟩, ⟨_, Tryd.underlying81, by kernel_rfl, by
  intro f hf
  simp only [List.mem_cons, List.not_mem_nil, or_false] at hf
  rcases hf with rfl | rfl
  ·exact ⟨Tryd.t3, by kernel_rfl⟩
  ·exact ⟨Tryd.t3, by kernel_rfl⟩⟩, fun _ => XT (Go.Ex.zaQ.eqn rfl) rfl rfl rfl rfl⟩
def zed : TI := ⟨.struct [(0, 1), (1, 1), (2, 1)], 3, 24, some (.agg [.atom (.int .i64 0), .atom (.int .i64 0), .atom (.int .i64 0)]), true⟩
theorem z32 : jt Tryd.prog 84 zed := ⟨⟨Tryd.t84, by kernel_rfl, rfl, rfl, fun z h => by cases h; exact ⟨_, rfl, rfl, fun S h => wo (zw (zk rfl) (zw (zk rfl) (zw (zk rfl) (xp))))⟩⟩, ⟨_, Tryd.underlying84, by kernel_rfl, by
  intro f hf
  simp only [List.mem_cons, List.not_mem_nil, or_false] at hf
  rcases hf with rfl | rfl | rfl
  ·exact ⟨Tryd.t3, by kernel_rfl⟩
  ·exact ⟨Tryd.t3, by kernel_rfl⟩
  ·exact ⟨Tryd.t3, by kernel_rfl⟩⟩, fun _ => XT (Go.Ex.z7l.eqn rfl) rfl rfl rfl rfl⟩
def zec : TI := ⟨.other, 1, 8, some (.atom .nilFunc), false⟩
theorem z7N : jt Tryd.prog 85 zec := ⟨⟨Tryd.t85, by kernel_rfl, rfl, rfl, fun z h => by cases h; exact ⟨_, rfl, rfl, fun S h => zk rfl⟩⟩, ⟨_, Tryd.underlying85, rfl⟩, by intro h; cases h⟩
def zeb : TI := ⟨.struct [(0, 1), (1, 3), (4, 1)], 5, 56, some (.agg [.osl 1 true [], .agg [.atom (.int .i64 0), .atom (.int .i64 0), .atom (.int .i64 0)], .atom .nilFunc]), false⟩
theorem z7M : jt Tryd.prog 87 zeb := ⟨⟨Tryd.t87, by kernel_rfl, rfl, rfl, fun z h => by cases h; exact ⟨_, rfl, rfl, fun S h => wo (zw (vz _) (zw (wo (zw (zk rfl) (zw (zk rfl) (zw (zk rfl) (xp))))) (zw (zk rfl) (xp))))⟩⟩, ⟨_, Tryd.underlying87, by kernel_rfl, by
  intro f hf
  simp only [List.mem_cons, List.not_mem_nil, or_false] at hf
  rcases hf with rfl | rfl | rfl
  ·exact ⟨Tryd.t43, by kernel_rfl⟩
  ·exact ⟨Tryd.t84, by kernel_rfl⟩
  ·exact ⟨Tryd.t85, by kernel_rfl⟩⟩, by intro h; cases h⟩
def zea : TI := ⟨.array 3 9, 3, 48, some (.agg [.atom (.string ⟨#[]⟩), .atom (.string ⟨#[]⟩), .atom (.string ⟨#[]⟩)]), false⟩
theorem z7L : jt Tryd.prog 90 zea := ⟨⟨Tryd.t90, by kernel_rfl, rfl, rfl, fun z h => by cases h; exact ⟨_, rfl, rfl, fun S h => wo (zw (zk rfl) (zw (zk rfl) (zw (zk rfl) (xp))))⟩⟩, Tryd.underlying90, by intro h; cases h⟩
def ze9 : TI := ⟨.ptr 100, 1, 8, some (.atom (.pointer none)), false⟩
theorem z7K : jt Tryd.prog 95 ze9 := ⟨⟨Tryd.t95, by kernel_rfl, rfl, rfl, fun z h => by cases h; exact ⟨_, rfl, rfl, fun S h => zk rfl⟩⟩, Tryd.underlying95, by intro h; cases h⟩
def ze8 : TI := ⟨.slice 116, 1, 24, some (.osl 1 true []), false⟩
theorem z7J : jt Tryd.prog 96 ze8 := ⟨⟨Tryd.t96, by kernel_rfl, rfl, rfl, fun z h => by cases h; exact ⟨_, rfl, rfl, fun S h => vz _⟩⟩, Tryd.underlying96, by intro h; cases h⟩
def ze7 : TI := ⟨.slice 96, 1, 24, some (.osl 1 true []), false⟩
theorem z7I : jt Tryd.prog 98 ze7 := ⟨⟨Tryd.t98, by kernel_rfl, rfl, rfl, fun z h => by cases h; exact ⟨_, rfl, rfl, fun S h => vz _⟩⟩, Tryd.underlying98, by intro h; cases h⟩
def z9Y : TI := ⟨.struct [(0, 1), (1, 1)], 2, 48, some (.agg [.osl 1 true [], .osl 1 true []]), false⟩
theorem z5t : jt Tryd.prog 100 z9Y := ⟨⟨Tryd.t100, by kernel_rfl, rfl, rfl, fun z h => by cases h; exact ⟨_, rfl, rfl, fun S h => wo (zw (vz _) (zw (vz _) (xp)))⟩⟩, ⟨_, Tryd.underlying100, by kernel_rfl, by
  intro f hf
  simp only [List.mem_cons, List.not_mem_nil, or_false] at hf
  rcases hf with rfl | rfl
  ·exact ⟨Tryd.t98, by kernel_rfl⟩
  ·exact ⟨Tryd.t96, by kernel_rfl⟩⟩, by intro h; cases h⟩
def z9X : TI := ⟨.array 3 3, 3, 24, some (.agg [.atom (.int .i64 0), .atom (.int .i64 0), .atom (.int .i64 0)]), true⟩
theorem z5s : jt Tryd.prog 107 z9X := ⟨⟨Tryd.t107, by kernel_rfl, rfl, rfl, fun z h => by cases h; exact ⟨_, rfl, rfl, fun S h => wo (zw (zk rfl) (zw (zk rfl) (zw (zk rfl) (xp))))⟩⟩, Tryd.underlying107, fun _ => XT (Go.Ex.z8Y.eqn rfl) rfl rfl rfl rfl⟩
def z9W : TI := ⟨.int .u64, 1, 8, some (.atom (.int .u64 0)), false⟩
theorem z5r : jt Tryd.prog 116 z9W := ⟨⟨Tryd.t116, by kernel_rfl, rfl, rfl, fun z h => by cases h; exact ⟨_, rfl, rfl, fun S h => zk rfl⟩⟩, Tryd.underlying116, by intro h; cases h⟩
def z9V : TI := ⟨.other, 1, 8, some (.atom .nilFunc), false⟩
theorem z5q : jt Tryd.prog 121 z9V := ⟨⟨Tryd.t121, by kernel_rfl, rfl, rfl, fun z h => by cases h; exact ⟨_, rfl, rfl, fun S h => zk rfl⟩⟩, ⟨_, Tryd.underlying121, rfl⟩, by intro h; cases h⟩
def z9U : TI := ⟨.other, 1, 8, some (.atom .nilFunc), false⟩
theorem z5p : jt Tryd.prog 127 z9U := ⟨⟨Tryd.t127, by kernel_rfl, rfl, rfl, fun z h => by cases h; exact ⟨_, rfl, rfl, fun S h => zk rfl⟩⟩, ⟨_, Tryd.underlying127, rfl⟩, by intro h; cases h⟩
def z9T : TI := ⟨.other, 1, 8, some (.atom .nilFunc), false⟩
theorem z5o : jt Tryd.prog 131 z9T := ⟨⟨Tryd.t131, by kernel_rfl, rfl, rfl, fun z h => by cases h; exact ⟨_, rfl, rfl, fun S h => zk rfl⟩⟩, ⟨_, Tryd.underlying131, rfl⟩, by intro h; cases h⟩
def z9S : TI := ⟨.other, 1, 8, some (.atom .nilFunc), false⟩
theorem z5n : jt Tryd.prog 132 z9S := ⟨⟨Tryd.t132, by kernel_rfl, rfl, rfl, fun z h => by cases h; exact ⟨_, rfl, rfl, fun S h => zk rfl⟩⟩, ⟨_, Tryd.underlying132, rfl⟩, by intro h; cases h⟩
def z9R : TI := ⟨.struct [(0, 1), (1, 1), (2, 1)], 3, 24, some (.agg [.atom (.int .i64 0), .atom (.int .i64 0), .atom (.int .i64 0)]), true⟩
theorem z5m : jt Tryd.prog 135 z9R := ⟨⟨Tryd.t135, by kernel_rfl, rfl, rfl, fun z h => by cases h; exact ⟨_, rfl, rfl, fun S h => wo (zw (zk rfl) (zw (zk rfl) (zw (zk rfl) (xp))))⟩⟩, ⟨_, Tryd.underlying135, by kernel_rfl, by
  intro f hf
  simp only [List.mem_cons, List.not_mem_nil, or_false] at hf
  rcases hf with rfl | rfl | rfl
  ·exact ⟨Tryd.t3, by kernel_rfl⟩
  ·exact ⟨Tryd.t3, by kernel_rfl⟩
  ·exact ⟨Tryd.t3, by kernel_rfl⟩⟩, fun _ => XT (Go.Ex.z8X.eqn rfl) rfl rfl rfl rfl⟩
def z9Q : TI := ⟨.other, 1, 8, some (.atom .nilFunc), false⟩
theorem z5l : jt Tryd.prog 137 z9Q := ⟨⟨Tryd.t137, by kernel_rfl, rfl, rfl, fun z h => by cases h; exact ⟨_, rfl, rfl, fun S h => zk rfl⟩⟩, ⟨_, Tryd.underlying137, rfl⟩, by intro h; cases h⟩
def z9P : TI := ⟨.array 24 5, 24, 24, some (.agg [.atom (.int .u8 0), .atom (.int .u8 0), .atom (.int .u8 0), .atom (.int .u8 0), .atom (.int .u8 0), .atom (.int .u8 0), .atom (.int .u8 0), .atom (.int .u8 0), .atom (.int .u8 0), .atom (.int .u8 0), .atom (.int .u8 0), .atom (.int .u8 0), .atom (.int .u8 0), .atom (.int .u8 0), .atom (.int .u8 0), .atom (.int .u8 0), .atom (.int .u8 0), .atom (.int .u8 0), .atom (.int .u8 0), .atom (.int .u8 0), .atom (.int .u8 0), .atom (.int .u8 0), .atom (.int .u8 0), .atom (.int .u8 0)]), false⟩
theorem z5k : jt Tryd.prog 143 z9P := ⟨⟨Tryd.t143, by kernel_rfl, rfl, rfl, fun z h => by cases h; exact ⟨_, rfl, rfl, fun S h => wo (zw (zk rfl) (zw (zk rfl) (zw (zk rfl) (zw (zk rfl) (zw (zk rfl) (zw (zk rfl) (zw (zk rfl) (zw (zk rfl) (zw (zk rfl) (zw (zk rfl) (zw (zk rfl) (zw (zk rfl) (zw (zk rfl) (zw (zk rfl) (zw (zk rfl) (zw (zk rfl) (zw (zk rfl) (zw (zk rfl) (zw (zk rfl) (zw (zk rfl) (zw (zk rfl) (zw (zk rfl) (zw (zk rfl) (zw (zk rfl) (xp)))))))))))))))))))))))))⟩⟩, Tryd.underlying143, by intro h; cases h⟩
def z9O : TI := ⟨.other, 1, 8, some (.atom .nilFunc), false⟩
theorem z5j : jt Tryd.prog 148 z9O := ⟨⟨Tryd.t148, by kernel_rfl, rfl, rfl, fun z h => by cases h; exact ⟨_, rfl, rfl, fun S h => zk rfl⟩⟩, ⟨_, Tryd.underlying148, rfl⟩, by intro h; cases h⟩
def z9N : TI := ⟨.slice 135, 1, 24, some (.osl 3 true []), false⟩
theorem z5i : jt Tryd.prog 149 z9N := ⟨⟨Tryd.t149, by kernel_rfl, rfl, rfl, fun z h => by cases h; exact ⟨_, rfl, rfl, fun S h => vz _⟩⟩, Tryd.underlying149, by intro h; cases h⟩
def tiL : List (Nat × TI) := [(1, ti1), (2, ti2), (3, ti3), (4, ti4), (5, ti5), (9, ti9), (28, zeA), (30, zez), (31, zey), (34, zex), (36, zew), (37, zev), (40, zeu), (43, zet), (45, zes), (46, zer), (47, zeq), (51, zep), (56, zeo), (59, zen), (65, zem), (67, zel), (68, zek), (69, zej), (71, zei), (73, zeh), (75, zeg), (77, zef), (81, zee), (84, zed), (85, zec), (87, zeb), (90, zea), (95, ze9), (96, ze8), (98, ze7), (100, z9Y), (107, z9X), (116, z9W), (121, z9V), (127, z9U), (131, z9T), (132, z9S), (135, z9R), (137, z9Q), (143, z9P), (148, z9O), (149, z9N)]
def ve : TT := fun t => (tiL.find? fun p => p.1 == t).map (·.2)
def z56 (P : Program) : List (Nat × TI) → Prop
 | [] => True
 | p :: l => jt P p.1 p.2 ∧ z56 P l
theorem z56.mem : ∀ {l : List (Nat × TI)}, z56 P l → ∀ p ∈ l, jt P p.1 p.2
 | p :: _, h, q, hq => by
  rcases List.mem_cons.1 hq with rfl | hq
  ·exact h.1
  ·exact z56.mem h.2 q hq
 | [], _, _, hq => by cases hq
theorem z9G : z56 Tryd.prog tiL := ⟨z9M, z9L, z9K, z9J, z9I, z9H, z89, z88, z87, z33, z86, z85, z84, z83, z82, z81, z80, z7Z, z7Y, z7X, z7W, z7V, z7U, z7T, z7S, z7R, z7Q, z7P, z7O, z32, z7N, z7M, z7L, z7K, z7J, z7I, z5t, z5s, z5r, z5q, z5p, z5o, z5n, z5m, z5l, z5k, z5j, z5i, trivial⟩
theorem zC : w6 Tryd.prog ve := by
 intro t i h
 unfold ve at h
 rw [Option.map_eq_some_iff] at h
 obtain ⟨p, h1, rfl⟩ := h
 have h2 := List.find?_some h1
 have h3 := z9G.mem p (List.mem_of_find?_eq_some h1)
 rw [beq_iff_eq.1 h2] at h3
 exact h3
theorem zfR : ve 1 = some ⟨.other, 1, 8, some (.atom .nilFunc), false⟩ := rfl
theorem zfQ : ve 2 = some ⟨.int .i64, 1, 8, some (.atom (.int .i64 0)), false⟩ := rfl
theorem zfP : ve 3 = some ⟨.int .i64, 1, 8, some (.atom (.int .i64 0)), false⟩ := rfl
theorem zfO : ve 4 = some ⟨.bool, 1, 1, some (.atom (.bool false)), false⟩ := rfl
theorem zfN : ve 5 = some ⟨.int .u8, 1, 1, some (.atom (.int .u8 0)), false⟩ := rfl
theorem zfM : ve 9 = some ⟨.str, 1, 16, some (.atom (.string ⟨#[]⟩)), false⟩ := rfl
theorem zdO : ve 28 = some ⟨.slice 51, 1, 24, some (.osl 1 true []), false⟩ := rfl
theorem zdN : ve 30 = some ⟨.struct [(0, 1), (1, 1), (2, 1)], 3, 40, some (.agg [.atom (.int .i64 0), .atom (.int .i64 0), .osl 1 true []]), false⟩ := rfl
theorem zdM : ve 31 = some ⟨.slice 43, 1, 24, some (.osl 1 true []), false⟩ := rfl
theorem zdL : ve 34 = some ⟨.array 2 3, 2, 16, some (.agg [.atom (.int .i64 0), .atom (.int .i64 0)]), true⟩ := rfl
theorem zdK : ve 36 = some ⟨.struct [(0, 2), (2, 2), (4, 2)], 6, 48, some (.agg [.agg [.atom (.int .i64 0), .atom (.int .i64 0)], .agg [.atom (.int .i64 0), .atom (.int .i64 0)], .agg [.atom (.int .i64 0), .atom (.int .i64 0)]]), true⟩ := rfl
theorem zdJ : ve 37 = some ⟨.int .i64, 1, 8, some (.atom (.int .i64 0)), false⟩ := rfl
theorem zdI : ve 40 = some ⟨.slice 4, 1, 24, some (.osl 1 true []), false⟩ := rfl
theorem zdH : ve 43 = some ⟨.slice 3, 1, 24, some (.osl 1 true []), false⟩ := rfl
theorem zdG : ve 45 = some ⟨.other, 1, 8, some (.atom .nilFunc), false⟩ := rfl
theorem zdF : ve 46 = some ⟨.other, 1, 8, some (.atom .nilFunc), false⟩ := rfl
theorem zdE : ve 47 = some ⟨.other, 1, 8, some (.atom .nilFunc), false⟩ := rfl
theorem zdD : ve 51 = some ⟨.slice 81, 1, 24, some (.osl 2 true []), false⟩ := rfl
theorem zdC : ve 56 = some ⟨.slice 34, 1, 24, some (.osl 2 true []), false⟩ := rfl
theorem zdB : ve 59 = some ⟨.slice 84, 1, 24, some (.osl 3 true []), false⟩ := rfl
theorem zdA : ve 65 = some ⟨.slice 5, 1, 24, some (.osl 1 true []), false⟩ := rfl
theorem zdz : ve 67 = some ⟨.other, 1, 8, some (.atom (.map none)), false⟩ := rfl
theorem zdy : ve 68 = some ⟨.other, 1, 8, some (.atom (.map none)), false⟩ := rfl
theorem zdx : ve 69 = some ⟨.other, 1, 8, some (.atom (.map none)), false⟩ := rfl
theorem zdw : ve 71 = some ⟨.struct [(0, 1), (1, 1), (2, 1)], 3, 24, some (.agg [.atom (.map none), .atom (.map none), .atom (.map none)]), false⟩ := rfl
theorem zdv : ve 73 = some ⟨.array 3 34, 6, 48, some (.agg [.agg [.atom (.int .i64 0), .atom (.int .i64 0)], .agg [.atom (.int .i64 0), .atom (.int .i64 0)], .agg [.atom (.int .i64 0), .atom (.int .i64 0)]]), true⟩ := rfl
theorem zdu : ve 75 = some ⟨.slice 87, 1, 24, some (.osl 5 true []), false⟩ := rfl
theorem zdt : ve 77 = some ⟨.other, 1, 8, some (.atom .nilFunc), false⟩ := rfl
theorem zds : ve 81 = some ⟨.struct [(0, 1), (1, 1)], 2, 16, some (.agg [.atom (.int .i64 0), .atom (.int .i64 0)]), true⟩ := rfl
theorem zdr : ve 84 = some ⟨.struct [(0, 1), (1, 1), (2, 1)], 3, 24, some (.agg [.atom (.int .i64 0), .atom (.int .i64 0), .atom (.int .i64 0)]), true⟩ := rfl
theorem zdq : ve 85 = some ⟨.other, 1, 8, some (.atom .nilFunc), false⟩ := rfl
theorem zdp : ve 87 = some ⟨.struct [(0, 1), (1, 3), (4, 1)], 5, 56, some (.agg [.osl 1 true [], .agg [.atom (.int .i64 0), .atom (.int .i64 0), .atom (.int .i64 0)], .atom .nilFunc]), false⟩ := rfl
theorem zdo : ve 90 = some ⟨.array 3 9, 3, 48, some (.agg [.atom (.string ⟨#[]⟩), .atom (.string ⟨#[]⟩), .atom (.string ⟨#[]⟩)]), false⟩ := rfl
theorem zdn : ve 95 = some ⟨.ptr 100, 1, 8, some (.atom (.pointer none)), false⟩ := rfl
theorem zdm : ve 96 = some ⟨.slice 116, 1, 24, some (.osl 1 true []), false⟩ := rfl
theorem zdl : ve 98 = some ⟨.slice 96, 1, 24, some (.osl 1 true []), false⟩ := rfl
theorem zbr : ve 100 = some ⟨.struct [(0, 1), (1, 1)], 2, 48, some (.agg [.osl 1 true [], .osl 1 true []]), false⟩ := rfl
theorem zbq : ve 107 = some ⟨.array 3 3, 3, 24, some (.agg [.atom (.int .i64 0), .atom (.int .i64 0), .atom (.int .i64 0)]), true⟩ := rfl
theorem zbp : ve 116 = some ⟨.int .u64, 1, 8, some (.atom (.int .u64 0)), false⟩ := rfl
theorem zbo : ve 121 = some ⟨.other, 1, 8, some (.atom .nilFunc), false⟩ := rfl
theorem zbn : ve 127 = some ⟨.other, 1, 8, some (.atom .nilFunc), false⟩ := rfl
theorem zbm : ve 131 = some ⟨.other, 1, 8, some (.atom .nilFunc), false⟩ := rfl
theorem zbl : ve 132 = some ⟨.other, 1, 8, some (.atom .nilFunc), false⟩ := rfl
theorem zbk : ve 135 = some ⟨.struct [(0, 1), (1, 1), (2, 1)], 3, 24, some (.agg [.atom (.int .i64 0), .atom (.int .i64 0), .atom (.int .i64 0)]), true⟩ := rfl
theorem zbj : ve 137 = some ⟨.other, 1, 8, some (.atom .nilFunc), false⟩ := rfl
theorem zbi : ve 143 = some ⟨.array 24 5, 24, 24, some (.agg [.atom (.int .u8 0), .atom (.int .u8 0), .atom (.int .u8 0), .atom (.int .u8 0), .atom (.int .u8 0), .atom (.int .u8 0), .atom (.int .u8 0), .atom (.int .u8 0), .atom (.int .u8 0), .atom (.int .u8 0), .atom (.int .u8 0), .atom (.int .u8 0), .atom (.int .u8 0), .atom (.int .u8 0), .atom (.int .u8 0), .atom (.int .u8 0), .atom (.int .u8 0), .atom (.int .u8 0), .atom (.int .u8 0), .atom (.int .u8 0), .atom (.int .u8 0), .atom (.int .u8 0), .atom (.int .u8 0), .atom (.int .u8 0)]), false⟩ := rfl
theorem zbh : ve 148 = some ⟨.other, 1, 8, some (.atom .nilFunc), false⟩ := rfl
theorem zbg : ve 149 = some ⟨.slice 135, 1, 24, some (.osl 3 true []), false⟩ := rfl
attribute [go_sem] zfR zfQ zfP zfO zfN zfM zdO zdN zdM zdL zdK zdJ zdI zdH zdG zdF zdE zdD zdC zdB zdA zdz zdy zdx zdw zdv zdu zdt zds zdr zdq zdp zdo zdn zdm zdl zbr zbq zbp zbo zbn zbm zbl zbk zbj zbi zbh zbg
structure xv (α : Type) where
 e0 : α
 e1 : α
 deriving DecidableEq
instance {α : Type} [BEq α] : BEq (xv α) := ⟨fun x y => (x.e0 == y.e0) && (x.e1 == y.e1)⟩
section
variable {α : Type}
def Wu (f : α → A) (x : xv α) : A := .agg [f x.e0, f x.e1]
instance (f : α → A) [h : Qv f] : Qv (Wu f) := ⟨fun x => by simp [Wu, A.isD, A.areD, h.isD]⟩
instance (f g : α → A) [h : Wb f g] : Wb (Wu f) (Wu g) := ⟨fun x => by simp [Wu, A.loose, A.looses, h.lo]⟩
instance (f g : α → A) [h : QO f g] : QO (Wu f) (Wu g) := ⟨fun x => by simp [Wu, A.live, A.lives, h.live], fun x => by simp [Wu, A.shut, A.shuts, h.sh]⟩
instance (f : α → A) [h : jS f] : jS (Wu f) := ⟨fun x y q => by
 simp only [Wu, A.agg.injEq, List.cons.injEq, and_true] at q
 cases x; cases y
 simp only [xv.mk.injEq]
 exact ⟨h.inj _ _ q.1, h.inj _ _ q.2⟩⟩
end
structure ZU (α : Type) where
 e0 : α
 e1 : α
 e2 : α
 deriving DecidableEq
section
variable {α : Type}
def zaZ (f : α → A) (x : ZU α) : A := .agg [f x.e0, f x.e1, f x.e2]
end
section
variable {α : Type}
def ZU.toL (x : ZU α) : List α := [x.e0, x.e1, x.e2]
def ZU.ofL : List α → ZU α → ZU α
 | [x0, x1, x2], _ => ⟨x0, x1, x2⟩
 | _, d => d
theorem ZU.toL_ofL (l : List α) (d : ZU α) (h : l.length = 3) : (ZU.ofL l d).toL = l := by
 match l, h with
 | [x0, x1, x2], _ => rfl
def ZU.setI (x : ZU α) (i : Int) (v : α) : ZU α := ZU.ofL (x.toL.set i.toNat v) x
theorem ZU.setL (f : α → A) (x : ZU α) (i : Int) (v : α) : (x.toL.map f).set i.toNat (f v) = ((ZU.setI x i v).toL).map f := by
 unfold ZU.setI
 rw [ZU.toL_ofL _ _ (by simp [ZU.toL]), List.map_set]
end
structure z8 where
 State : Int
 Input : Int
 Next : Int
instance : BEq z8 := ⟨fun x y => (x.State == y.State) && (x.Input == y.Input) && (x.Next == y.Next)⟩
def zY (f0 : Int → A) (f1 : Int → A) (f2 : Int → A) (x : z8) : A := .agg [f0 x.State, f1 x.Input, f2 x.Next]
instance (f0 : Int → A) (f1 : Int → A) (f2 : Int → A) [h0 : Qv f0] [h1 : Qv f1] [h2 : Qv f2] : Qv (zY f0 f1 f2) := ⟨fun x => by simp [zY, A.isD, A.areD, h0.isD, h1.isD, h2.isD]⟩
instance (f0 : Int → A) (f1 : Int → A) (f2 : Int → A) (g0 : Int → A) (g1 : Int → A) (g2 : Int → A) [h0 : Wb f0 g0] [h1 : Wb f1 g1] [h2 : Wb f2 g2] : Wb (zY f0 f1 f2) (zY g0 g1 g2) := ⟨fun x => by simp [zY, A.loose, A.looses, h0.lo, h1.lo, h2.lo]⟩
instance (f0 : Int → A) (f1 : Int → A) (f2 : Int → A) (g0 : Int → A) (g1 : Int → A) (g2 : Int → A) [h0 : QO f0 g0] [h1 : QO f1 g1] [h2 : QO f2 g2] : QO (zY f0 f1 f2) (zY g0 g1 g2) := ⟨fun x => by simp [zY, A.live, A.lives, h0.live, h1.live, h2.live], fun x => by simp [zY, A.shut, A.shuts, h0.sh, h1.sh, h2.sh]⟩
instance (f0 : Int → A) (f1 : Int → A) (f2 : Int → A) [h0 : jS f0] [h1 : jS f1] [h2 : jS f2] : jS (zY f0 f1 f2) := ⟨fun x y h => by
 simp only [zY, A.agg.injEq, List.cons.injEq, and_true] at h
 cases x; cases y
 simp only [z8.mk.injEq]
 exact ⟨h0.inj _ _ h.1, h1.inj _ _ h.2.1, h2.inj _ _ h.2.2⟩⟩
structure zy where
 To : Int
 Out : Int
def yU (f0 : Int → A) (f1 : Int → A) (x : zy) : A := .agg [f0 x.To, f1 x.Out]
instance (f0 : Int → A) (f1 : Int → A) (g0 : Int → A) (g1 : Int → A) [h0 : Wb f0 g0] [h1 : Wb f1 g1] : Wb (yU f0 f1) (yU g0 g1) := ⟨fun x => by simp [yU, A.loose, A.looses, h0.lo, h1.lo]⟩
instance (f0 : Int → A) (f1 : Int → A) (g0 : Int → A) (g1 : Int → A) [h0 : QO f0 g0] [h1 : QO f1 g1] : QO (yU f0 f1) (yU g0 g1) := ⟨fun x => by simp [yU, A.live, A.lives, h0.live, h1.live], fun x => by simp [yU, A.shut, A.shuts, h0.sh, h1.sh]⟩
instance (f0 : Int → A) (f1 : Int → A) [h0 : jS f0] [h1 : jS f1] : jS (yU f0 f1) := ⟨fun x y h => by
 simp only [yU, A.agg.injEq, List.cons.injEq, and_true] at h
 cases x; cases y
 simp only [zy.mk.injEq]
 exact ⟨h0.inj _ _ h.1, h1.inj _ _ h.2⟩⟩
structure z7 where
 Inputs : Int
 Outputs : Int
 Rows : List (List zy)
def wC (f0 : Int → A) (f1 : Int → A) (f2 : List (List zy) → A) (x : z7) : A := .agg [f0 x.Inputs, f1 x.Outputs, f2 x.Rows]
instance (f0 : Int → A) (f1 : Int → A) (f2 : List (List zy) → A) (g0 : Int → A) (g1 : Int → A) (g2 : List (List zy) → A) [h0 : Wb f0 g0] [h1 : Wb f1 g1] [h2 : Wb f2 g2] : Wb (wC f0 f1 f2) (wC g0 g1 g2) := ⟨fun x => by simp [wC, A.loose, A.looses, h0.lo, h1.lo, h2.lo]⟩
instance (f0 : Int → A) (f1 : Int → A) (f2 : List (List zy) → A) [h0 : jS f0] [h1 : jS f1] [h2 : jS f2] : jS (wC f0 f1 f2) := ⟨fun x y h => by
 simp only [wC, A.agg.injEq, List.cons.injEq, and_true] at h
 cases x; cases y
 simp only [z7.mk.injEq]
 exact ⟨h0.inj _ _ h.1, h1.inj _ _ h.2.1, h2.inj _ _ h.2.2⟩⟩
structure zf where
 states_ : List (Int × Bool)
 edges_ : List ((xv Int) × Bool)
 pairs_ : List (z8 × Bool)
def zS (f0 : List (Int × Bool) → A) (f1 : List ((xv Int) × Bool) → A) (f2 : List (z8 × Bool) → A) (x : zf) : A := .agg [f0 x.states_, f1 x.edges_, f2 x.pairs_]
structure zh where
 state_ : Int
 from_ : Int
 input_ : Int
def kE (f0 : Int → A) (f1 : Int → A) (f2 : Int → A) (x : zh) : A := .agg [f0 x.state_, f1 x.from_, f2 x.input_]
instance (f0 : Int → A) (f1 : Int → A) (f2 : Int → A) [h0 : Qv f0] [h1 : Qv f1] [h2 : Qv f2] : Qv (kE f0 f1 f2) := ⟨fun x => by simp [kE, A.isD, A.areD, h0.isD, h1.isD, h2.isD]⟩
structure za where
 word_ : List Int
 pair_ : z8
 has_ : Int ⊕ (Int × Int) ⊕ z8
def zb (f0 : List Int → A) (f1 : z8 → A) (f2 : Int ⊕ (Int × Int) ⊕ z8 → A) (x : za) : A := .agg [f0 x.word_, f1 x.pair_, f2 x.has_]
instance (f0 : List Int → A) (f1 : z8 → A) (f2 : Int ⊕ (Int × Int) ⊕ z8 → A) [h0 : Qv f0] [h1 : Qv f1] [h2 : Qv f2] : Qv (zb f0 f1 f2) := ⟨fun x => by simp [zb, A.isD, A.areD, h0.isD, h1.isD, h2.isD]⟩
instance (f0 : List Int → A) (f1 : z8 → A) (f2 : Int ⊕ (Int × Int) ⊕ z8 → A) (g0 : List Int → A) (g1 : z8 → A) (g2 : Int ⊕ (Int × Int) ⊕ z8 → A) [h0 : QO f0 g0] [h1 : QO f1 g1] [h2 : QO f2 g2] : QO (zb f0 f1 f2) (zb g0 g1 g2) := ⟨fun x => by simp [zb, A.live, A.lives, h0.live, h1.live, h2.live], fun x => by simp [zb, A.shut, A.shuts, h0.sh, h1.sh, h2.sh]⟩
structure yb where
 States : xv Int
 Edges : xv Int
 Pairs : xv Int
def xJ (f0 : xv Int → A) (f1 : xv Int → A) (f2 : xv Int → A) (x : yb) : A := .agg [f0 x.States, f1 x.Edges, f2 x.Pairs]
instance (f0 : xv Int → A) (f1 : xv Int → A) (f2 : xv Int → A) (g0 : xv Int → A) (g1 : xv Int → A) (g2 : xv Int → A) [h0 : Wb f0 g0] [h1 : Wb f1 g1] [h2 : Wb f2 g2] : Wb (xJ f0 f1 f2) (xJ g0 g1 g2) := ⟨fun x => by simp [xJ, A.loose, A.looses, h0.lo, h1.lo, h2.lo]⟩
instance (f0 : xv Int → A) (f1 : xv Int → A) (f2 : xv Int → A) [h0 : jS f0] [h1 : jS f1] [h2 : jS f2] : jS (xJ f0 f1 f2) := ⟨fun x y h => by
 simp only [xJ, A.agg.injEq, List.cons.injEq, and_true] at h
 cases x; cases y
 simp only [yb.mk.injEq]
 exact ⟨h0.inj _ _ h.1, h1.inj _ _ h.2.1, h2.inj _ _ h.2.2⟩⟩
structure zz where
 sets_ : List (List Int)
 want_ : List Int
def xe (f0 : List (List Int) → A) (f1 : List Int → A) (x : zz) : A := .agg [f0 x.sets_, f1 x.want_]
instance (f0 : List (List Int) → A) (f1 : List Int → A) (g0 : List (List Int) → A) (g1 : List Int → A) [h0 : Wb f0 g0] [h1 : Wb f1 g1] : Wb (xe f0 f1) (xe g0 g1) := ⟨fun x => by simp [xe, A.loose, A.looses, h0.lo, h1.lo]⟩
instance (f0 : List (List Int) → A) (f1 : List Int → A) [h0 : jS f0] [h1 : jS f1] : jS (xe f0 f1) := ⟨fun x y h => by
 simp only [xe, A.agg.injEq, List.cons.injEq, and_true] at h
 cases x; cases y
 simp only [zz.mk.injEq]
 exact ⟨h0.inj _ _ h.1, h1.inj _ _ h.2⟩⟩
instance : zcy (K := xv Int) (Wu (eI .i64)) := ⟨fun x y => by
 obtain ⟨_, _⟩ := x
 obtain ⟨_, _⟩ := y
 simp only [Wu, eI, Wc, Uh, Uh.keyLs, zN, BEq.beq, Option.map_some, Option.some.injEq, Value.agg.injEq, List.cons_append, List.nil_append, List.append_nil, Array.mk.injEq, List.cons.injEq, Value.int.injEq, true_and, and_true, Bool.and_eq_true, decide_eq_true_eq, and_assoc]⟩
instance : zcy (K := z8) (zY (eI .i64) (eI .i64) (eI .i64)) := ⟨fun x y => by
 obtain ⟨_, _, _⟩ := x
 obtain ⟨_, _, _⟩ := y
 simp only [zY, eI, Wc, Uh, Uh.keyLs, zN, BEq.beq, Option.map_some, Option.some.injEq, Value.agg.injEq, List.cons_append, List.nil_append, List.append_nil, Array.mk.injEq, List.cons.injEq, Value.int.injEq, true_and, and_true, Bool.and_eq_true, decide_eq_true_eq, and_assoc]⟩
def zaF : Int ⊕ (Int × Int) ⊕ z8 → Nat
 | (.inl _) => 45
 | (.inr (.inl _)) => 46
 | (.inr (.inr _)) => 47
def zb6 : Int ⊕ (Int × Int) ⊕ z8 → List A
 | (.inl c) => [.sptr (I c)]
 | (.inr (.inl c)) => [.sptr (I c.1), .sptr (I c.2)]
 | (.inr (.inr c)) => [.sptr (.agg [I c.State, I c.Input, I c.Next])]
def zD (x : Int ⊕ (Int × Int) ⊕ z8) : A := .fn (zaF x) (zb6 x)
instance : Qv zD := ⟨fun _ => rfl⟩
instance : QO zD zD := ⟨fun _ => rfl, fun _ => rfl⟩
def Zp : Option Int :=
 some 0
def Zo (s_ : Int) : Option (LR Int (Unit ⊕ Int)) :=
 some (.next (w64 (s_ + 1)))
def uN (i_ : Int) : Option (LR Int (Unit ⊕ Int)) :=
 some (.next (w64 (i_ + 1)))
def uM (m_ : z7) (i_ : Int) (ap : zy) : Option (LR Int (Unit ⊕ Int)) :=
 bif decide (ap.To < 0) then (
  some (.done (.inr 1)))
 else (
  bif decide (ap.To ≥ ((m_.Rows.length : Nat) : Int)) then (
   some (.done (.inr 1)))
  else (
   bif decide (ap.Out < 0) then (
    some (.done (.inr 1)))
   else (
    bif decide (ap.Out ≥ m_.Outputs) then (
     some (.done (.inr 1)))
    else (
     uN i_))))
def vn (m_ : z7) (s_ : Int) (i_ : Int) : Option (LR Int (Unit ⊕ Int)) :=
 bif decide (i_ < m_.Inputs) then (
  (idx m_.Rows s_).bind fun bq =>
  (idx bq i_).bind fun ap =>
  bif ap.To == (-1) then (
   bif ap.Out == (-1) then (
    uN i_)
   else (
    uM m_ i_ ap))
  else (
   uM m_ i_ ap))
 else (
  some (.done (.inl ())))
def ug (m_ : z7) (s_ : Int) : Option (LR Int (Unit ⊕ Int)) :=
 bif decide (s_ < ((m_.Rows.length : Nat) : Int)) then (
  (idx m_.Rows s_).bind fun au =>
  bif ((au.length : Nat) : Int) != m_.Inputs then (
   some (.done (.inr 1)))
  else (
   (loop (fun s => vn m_ s_ s) 0).bind fun t4 =>
   match t4 with
   | .inl p => Zo s_
   | .inr p => some (.done (.inr p))))
 else (
  some (.done (.inl ())))
def ky (m_ : z7) : Option Int :=
 bif decide (m_.Inputs > 16) then (
  some 3)
 else (
  bif decide (m_.Outputs > 16) then (
   some 3)
  else (
   bif decide (((m_.Rows.length : Nat) : Int) > 64) then (
    some 3)
   else (
    bif decide (m_.Inputs < 1) then (
     some 1)
    else (
     bif decide (m_.Outputs < 1) then (
      some 1)
     else (
      bif ((m_.Rows.length : Nat) : Int) == 0 then (
       some 1)
      else (
       (loop (fun s => ug m_ s) 0).bind fun t2 =>
       match t2 with
       | .inl p => Zp
       | .inr p => some p))))))
def ke (w_ : List Int) : Option Int :=
 bif decide (((w_.length : Nat) : Int) > 256) then (
  some 3)
 else (
  some 0)
def jK : Option Int :=
 some 0
def wU (w_ : List Int) (inputs : Int) (i_ : Int) : Option (LR Int (Unit ⊕ Int)) :=
 bif decide (i_ < ((w_.length : Nat) : Int)) then (
  (idx w_ i_).bind fun bu =>
  bif decide (bu < 0) then (
   some (.done (.inr 1)))
  else (
   (idx w_ i_).bind fun gi =>
   bif decide (gi ≥ inputs) then (
    some (.done (.inr 1)))
   else (
    some (.next (w64 (i_ + 1))))))
 else (
  some (.done (.inl ())))
def qp (w_ : List Int) (inputs : Int) : Option Int :=
 (loop (fun s => wU w_ inputs s) 0).bind fun t2 =>
 match t2 with
 | .inl p => jK
 | .inr p => some p
def Zn : Option Int :=
 some 0
def ue (l_ : List (List Int)) (inputs : Int) (i_ : Int) : Option (LR Int (Unit ⊕ Int)) :=
 bif decide (i_ < ((l_.length : Nat) : Int)) then (
  (idx l_ i_).bind fun az =>
  (ke az).bind fun r_ =>
  bif r_ != 0 then (
   some (.done (.inr r_)))
  else (
   (idx l_ i_).bind fun br =>
   (qp br inputs).bind fun ah =>
   bif ah != 0 then (
    some (.done (.inr ah)))
   else (
    some (.next (w64 (i_ + 1))))))
 else (
  some (.done (.inl ())))
def kw (l_ : List (List Int)) (inputs : Int) : Option Int :=
 bif decide (inputs > 16) then (
  some 3)
 else (
  bif decide (((l_.length : Nat) : Int) > 4096) then (
   some 3)
  else (
   bif decide (inputs < 1) then (
    some 1)
   else (
    (loop (fun s => ue l_ inputs s) 0).bind fun t2 =>
    match t2 with
    | .inl p => Zn
    | .inr p => some p)))
def jL : Option Int :=
 some 0
def u7 (a_ : List Int) (b_ : List Int) (i_ : Int) : Option (LR Int (Unit ⊕ Int)) :=
 bif decide (i_ < ((a_.length : Nat) : Int)) then (
  (idx a_ i_).bind fun eu =>
  (idx b_ i_).bind fun ew =>
  bif decide (eu < ew) then (
   some (.done (.inr (-1))))
  else (
   (idx a_ i_).bind fun gj =>
   (idx b_ i_).bind fun gk =>
   bif decide (gj > gk) then (
    some (.done (.inr 1)))
   else (
    some (.next (w64 (i_ + 1))))))
 else (
  some (.done (.inl ())))
def uE (a_ : List Int) (b_ : List Int) : Option Int :=
 bif ((a_.length : Nat) : Int) != ((b_.length : Nat) : Int) then (
  bif decide (((a_.length : Nat) : Int) < ((b_.length : Nat) : Int)) then (
   some (-1))
  else (
   some 1))
 else (
  (loop (fun s => u7 a_ b_ s) 0).bind fun t2 =>
  match t2 with
  | .inl p => jL
  | .inr p => some p)
def Zm (n_ : Int) : Option Int :=
 some n_
def ud (l_ : List (List Int)) (cg : Int) (i_ : Int) : Option (LR (Int × Int) Int) :=
 bif decide (i_ < ((l_.length : Nat) : Int)) then (
  (idx l_ i_).bind fun az =>
  some (.next (w64 (cg + ((az.length : Nat) : Int)), w64 (i_ + 1))))
 else (
  some (.done cg))
def ku (l_ : List (List Int)) : Option Int :=
 (loop (fun s => ud l_ s.1 s.2) (0, 0)).bind fun t2 =>
 Zm t2
def jl (l_ : List (List Int)) : Option Int :=
 (ku l_).bind fun ah =>
 bif decide (ah > 65536) then (
  some 3)
 else (
  some 0)
def uf (l_ : List (List Int)) (i_ : Int) : Option (LR Int (Unit ⊕ Int)) :=
 bif decide (i_ < ((l_.length : Nat) : Int)) then (
  (idx l_ (w64 (i_ - 1))).bind fun az =>
  (idx l_ i_).bind fun br =>
  (uE az br).bind fun ak =>
  bif decide (ak ≥ 0) then (
   some (.done (.inr 1)))
  else (
   some (.next (w64 (i_ + 1)))))
 else (
  some (.done (.inl ())))
def kx (l_ : List (List Int)) (inputs : Int) : Option Int :=
 (kw l_ inputs).bind fun r_ =>
 bif r_ != 0 then (
  some r_)
 else (
  (loop (fun s => uf l_ s) 1).bind fun t2 =>
  match t2 with
  | .inl p => jl l_
  | .inr p => some p)
def k7 : Option zy :=
 some (zy.mk (-1) (-1))
def qq (m_ : z7) (x_ : zy) : Option Bool :=
 (k7).bind fun r_ =>
 bif (x_.To == r_.To) && ((x_.Out == r_.Out) && true) then (
  some true)
 else (
  bif decide (x_.To ≥ 0) then (
   bif decide (x_.To < ((m_.Rows.length : Nat) : Int)) then (
    bif decide (x_.Out ≥ 0) then (
     some (decide (x_.Out < m_.Outputs)))
    else (
     some false))
   else (
    some false))
  else (
   some false))
def uU (x_ : zy) (x1 : z7) : Option Bool :=
 (qq x1 x_).bind fun r_ =>
 some (!r_)
def yP : Option Int :=
 some (-1)
def zO (s_ : List zy) (f_ : z7) (x8 : Int) : Option (LR Int (Unit ⊕ Int)) :=
 bif decide (x8 < ((s_.length : Nat) : Int)) then (
  (idx s_ x8).bind fun db =>
  (uU db f_).bind fun r_ =>
  bif r_ then (
   some (.done (.inr x8)))
  else (
   some (.next (w64 (x8 + 1)))))
 else (
  some (.done (.inl ())))
def yp (s_ : List zy) (f_ : z7) : Option Int :=
 (loop (fun s => zO s_ f_ s) 0).bind fun t2 =>
 match t2 with
 | .inl p => yP
 | .inr p => some p
def zW (s_ : List zy) (f_ : z7) : Option Bool :=
 (yp s_ f_).bind fun r_ =>
 some (decide (r_ ≥ 0))
def j7 : Option Int :=
 some 0
def wD (m_ : z7) (fm : Int) : Option (LR Int (Unit ⊕ Int)) :=
 bif decide (fm < ((m_.Rows.length : Nat) : Int)) then (
  (idx m_.Rows fm).bind fun au =>
  bif ((au.length : Nat) : Int) != m_.Inputs then (
   some (.done (.inr 1)))
  else (
   (zW au m_).bind fun r_ =>
   bif r_ then (
    some (.done (.inr 1)))
   else (
    some (.next (w64 (fm + 1))))))
 else (
  some (.done (.inl ())))
def uh (m_ : z7) : Option Int :=
 bif decide (m_.Inputs > 16) then (
  some 3)
 else (
  bif decide (m_.Outputs > 16) then (
   some 3)
  else (
   bif decide (((m_.Rows.length : Nat) : Int) > 64) then (
    some 3)
   else (
    bif decide (m_.Inputs < 1) then (
     some 1)
    else (
     bif decide (m_.Outputs < 1) then (
      some 1)
     else (
      bif decide (((m_.Rows.length : Nat) : Int) < 1) then (
       some 1)
      else (
       (loop (fun s => wD m_ s) 0).bind fun t2 =>
       match t2 with
       | .inl p => j7
       | .inr p => some p))))))
def jU (c_ : Int) (x1 : Int) : Option Bool :=
 bif decide (c_ < 0) then (
  some true)
 else (
  some (decide (c_ ≥ x1)))
def wJ : Option Int :=
 some (-1)
def yi (s_ : List Int) (f_ : Int) (x8 : Int) : Option (LR Int (Unit ⊕ Int)) :=
 bif decide (x8 < ((s_.length : Nat) : Int)) then (
  (idx s_ x8).bind fun db =>
  (jU db f_).bind fun r_ =>
  bif r_ then (
   some (.done (.inr x8)))
  else (
   some (.next (w64 (x8 + 1)))))
 else (
  some (.done (.inl ())))
def wj (s_ : List Int) (f_ : Int) : Option Int :=
 (loop (fun s => yi s_ f_ s) 0).bind fun t2 =>
 match t2 with
 | .inl p => wJ
 | .inr p => some p
def xw (s_ : List Int) (f_ : Int) : Option Bool :=
 (wj s_ f_).bind fun r_ =>
 some (decide (r_ ≥ 0))
def qS (w_ : List Int) (inputs : Int) : Option Int :=
 bif decide (inputs > 16) then (
  some 3)
 else (
  bif decide (((w_.length : Nat) : Int) > 256) then (
   some 3)
  else (
   bif decide (inputs < 1) then (
    some 1)
   else (
    (xw w_ inputs).bind fun r_ =>
    bif r_ then (
     some 1)
    else (
     some 0))))
def Zc : Option Int :=
 some 0
def ub (l_ : List (List Int)) (inputs : Int) (fp : Int) : Option (LR Int (Unit ⊕ Int)) :=
 bif decide (fp < ((l_.length : Nat) : Int)) then (
  (idx l_ fp).bind fun az =>
  (qS az inputs).bind fun r_ =>
  bif r_ != 0 then (
   some (.done (.inr r_)))
  else (
   some (.next (w64 (fp + 1)))))
 else (
  some (.done (.inl ())))
def qW (l_ : List (List Int)) (inputs : Int) : Option Int :=
 bif decide (inputs > 16) then (
  some 3)
 else (
  bif decide (((l_.length : Nat) : Int) > 4096) then (
   some 3)
  else (
   bif decide (inputs < 1) then (
    some 1)
   else (
    (loop (fun s => ub l_ inputs s) 0).bind fun t2 =>
    match t2 with
    | .inl p => Zc
    | .inr p => some p)))
def qA (x_ : Int) : Option Bool :=
 some (x_ != x_)
def vH (x_ : Int) (y_ : Int) : Option Int :=
 (qA x_).bind fun r_ =>
 (qA y_).bind fun ah =>
 bif r_ then (
  bif ah then (
   some 0)
  else (
   some (-1)))
 else (
  bif ah then (
   some 1)
  else (
   bif decide (x_ < y_) then (
    some (-1))
   else (
    bif decide (x_ > y_) then (
     some 1)
    else (
     some 0))))
def w5 (s1 : List Int) (s2 : List Int) : Option Int :=
 bif decide (((s1.length : Nat) : Int) < ((s2.length : Nat) : Int)) then (
  some (-1))
 else (
  some 0)
def yq (s1 : List Int) (s2 : List Int) (dh : Int) : Option (LR Int (Unit ⊕ Int)) :=
 bif decide (dh < ((s1.length : Nat) : Int)) then (
  (idx s1 dh).bind fun fq =>
  bif decide (dh ≥ ((s2.length : Nat) : Int)) then (
   some (.done (.inr 1)))
  else (
   (idx s2 dh).bind fun ez =>
   (vH fq ez).bind fun r_ =>
   bif r_ != 0 then (
    some (.done (.inr r_)))
   else (
    some (.next (w64 (dh + 1))))))
 else (
  some (.done (.inl ())))
def xR (s1 : List Int) (s2 : List Int) : Option Int :=
 (loop (fun s => yq s1 s2 s) 0).bind fun t2 =>
 match t2 with
 | .inl p => w5 s1 s2
 | .inr p => some p
def k9 : Option Int :=
 some 0
def uH (vals : List Int) (x8 : Int) : Option (LR Int (Unit ⊕ Int)) :=
 bif decide (x8 < ((vals.length : Nat) : Int)) then (
  (idx vals x8).bind fun gb =>
  bif gb != 0 then (
   some (.done (.inr gb)))
  else (
   some (.next (w64 (x8 + 1)))))
 else (
  some (.done (.inl ())))
def ZO (vals : List Int) : Option Int :=
 (loop (fun s => uH vals s) 0).bind fun t2 =>
 match t2 with
 | .inl p => k9
 | .inr p => some p
def yX (a_ : List Int) (b_ : List Int) : Option Int :=
 (vH ((a_.length : Nat) : Int) ((b_.length : Nat) : Int)).bind fun r_ =>
 (xR a_ b_).bind fun ah =>
 (ZO ([r_, ah])).bind fun ak =>
 some ak
def ji : Option Bool :=
 some true
def uc (l_ : List (List Int)) (i_ : Int) : Option (LR Int (Unit ⊕ Bool)) :=
 bif decide (i_ < ((l_.length : Nat) : Int)) then (
  (idx l_ (w64 (i_ - 1))).bind fun az =>
  (idx l_ i_).bind fun br =>
  (yX az br).bind fun r_ =>
  bif decide (r_ ≥ 0) then (
   some (.done (.inr false)))
  else (
   some (.next (w64 (i_ + 1)))))
 else (
  some (.done (.inl ())))
def kj (l_ : List (List Int)) : Option Bool :=
 (loop (fun s => uc l_ s) 1).bind fun t2 =>
 match t2 with
 | .inl p => ji
 | .inr p => some p
def Zb (n_ : Int) : Option Int :=
 some n_
def u9 (l_ : List (List Int)) (cg : Int) (x7 : Int) : Option (LR (Int × Int) Int) :=
 bif decide (x7 < ((l_.length : Nat) : Int)) then (
  (idx l_ x7).bind fun az =>
  some (.next (w64 (cg + ((az.length : Nat) : Int)), w64 (x7 + 1))))
 else (
  some (.done cg))
def qV (l_ : List (List Int)) : Option Int :=
 (loop (fun s => u9 l_ s.1 s.2) (0, 0)).bind fun t2 =>
 Zb t2
def kl (l_ : List (List Int)) (inputs : Int) : Option Int :=
 (qW l_ inputs).bind fun r_ =>
 bif r_ != 0 then (
  some r_)
 else (
  (kj l_).bind fun ah =>
  bif !ah then (
   some 1)
  else (
   (qV l_).bind fun ak =>
   bif decide (ak > 65536) then (
    some 3)
   else (
    some 0)))
def yo (m_ : z7) (l_ : List (List Int)) : Option Int :=
 (uh m_).bind fun r_ =>
 bif r_ != 0 then (
  some r_)
 else (
  (kl l_ m_.Inputs).bind fun ah =>
  some ah)
def ui : Option zf :=
 some (zf.mk (Uc ([] : List (Int × Bool)) 0 true) ([] : List ((xv Int) × Bool)) ([] : List (z8 × Bool)))
def yV (aj : List (Int × Bool)) (al : List ((xv Int) × Bool)) (ct : Int) (dr : Int) (bu : Int) (ap : zy) (a9 : List (z8 × Bool)) : Option (LR ((List (Int × Bool)) × (List ((xv Int) × Bool)) × (List (z8 × Bool)) × Int × Int × Int × Int) zf) :=
 some (.next ((Uc aj ap.To true), (Uc al (xv.mk ct bu) true), a9, ap.To, ct, bu, w64 (dr + 1)))
def xS (m_ : z7) (w_ : List Int) (aj : List (Int × Bool)) (al : List ((xv Int) × Bool)) (aq : List (z8 × Bool)) (ct : Int) (bf : Int) (bj : Int) (dr : Int) : Option (LR ((List (Int × Bool)) × (List ((xv Int) × Bool)) × (List (z8 × Bool)) × Int × Int × Int × Int) zf) :=
 bif decide (dr < ((w_.length : Nat) : Int)) then (
  (idx w_ dr).bind fun bu =>
  (idx m_.Rows ct).bind fun au =>
  (idx au bu).bind fun ap =>
  bif ap.To == (-1) then (
   some (.done (zf.mk aj al aq)))
  else (
   bif bf != (-1) then (
    yV aj al ct dr bu ap (Uc aq (z8.mk bf bj bu) true))
   else (
    yV aj al ct dr bu ap aq)))
 else (
  some (.done (zf.mk aj al aq)))
def xV (m_ : z7) (w_ : List Int) (x_ : zf) : Option zf :=
 (loop (fun s => xS m_ w_ s.1 s.2.1 s.2.2.1 s.2.2.2.1 s.2.2.2.2.1 s.2.2.2.2.2.1 s.2.2.2.2.2.2) (x_.states_, x_.edges_, x_.pairs_, 0, (-1), (-1), 0)).bind fun t1 =>
 some t1
def uJ (aj : List (Int × Bool)) (al : List ((xv Int) × Bool)) (aq : List (z8 × Bool)) : Option zf :=
 some (zf.mk aj al aq)
def xM (m_ : z7) (l_ : List (List Int)) (bh : List (Int × Bool)) (bl : List ((xv Int) × Bool)) (a9 : List (z8 × Bool)) (dh : Int) : Option (LR ((List (Int × Bool)) × (List ((xv Int) × Bool)) × (List (z8 × Bool)) × Int) (((List (Int × Bool)) × (List ((xv Int) × Bool)) × (List (z8 × Bool))))) :=
 bif decide (dh < ((l_.length : Nat) : Int)) then (
  (idx l_ dh).bind fun az =>
  (xV m_ az (zf.mk bh bl a9)).bind fun ah =>
  some (.next (ah.states_, ah.edges_, ah.pairs_, w64 (dh + 1))))
 else (
  some (.done (bh, bl, a9)))
def yH (m_ : z7) (l_ : List (List Int)) : Option zf :=
 (ui).bind fun r_ =>
 (loop (fun s => xM m_ l_ s.1 s.2.1 s.2.2.1 s.2.2.2) (r_.states_, r_.edges_, r_.pairs_, 0)).bind fun t2 =>
 uJ t2.1 t2.2.1 t2.2.2
def we (goal : Int) (x_ : zf) : Option Int :=
 (idx ([((x_.states_.length : Nat) : Int), ((x_.edges_.length : Nat) : Int), ((x_.pairs_.length : Nat) : Int)] : List Int) goal).bind fun cell =>
 some cell
def jh (m_ : z7) (from_ : Int) : Option (z7 × Int) :=
 some (m_, from_)
variable {σ : Type}
def yz (cm : Int) (fc : List Bool) (eb : List zh) : Option (LR (List Bool × List zh × Int) ((σ × List Bool × List zh))) :=
 some (.next (fc, eb, w64 (cm + 1)))
def xU (ay : zh) (yr : σ × Bool) (au : List zy) (ck : List Bool) (bp : List zh) (cm : Int) : Option (LR (List Bool × List zh × Int) ((σ × List Bool × List zh))) :=
 bif decide (cm < ((au.length : Nat) : Int)) then (
  (idx au cm).bind fun ap =>
  bif ap.To != (-1) then (
   (idx ck ap.To).bind fun gc =>
   bif !gc then (
    (idx ck ap.To).bind fun gn =>
    gd (bp.length + ([(zh.mk ap.To ay.state_ cm)] : List zh).length ≤ 4294967296) <|
    yz cm (ck.set ap.To.toNat true) (bp ++ ([(zh.mk ap.To ay.state_ cm)] : List zh)))
   else (
    yz cm ck bp))
  else (
   yz cm ck bp))
 else (
  some (.done (yr.1, ck, bp)))
def wG (x0 : z7) (yy : σ → zh → Option (σ × Bool)) (d8 : σ) (ee : List Bool) (bg : List zh) : Option (LR (σ × List Bool × List zh) σ) :=
 bif decide (((bg.length : Nat) : Int) > 0) then (
  (idx bg 0).bind fun ay =>
  gd ((0 : Int) ≤ 1 ∧ (1 : Int) ≤ ((bg.length : Nat) : Int)) <|
  (yy d8 ay).bind fun yr =>
  bif !yr.2 then (
   some (.done yr.1))
  else (
   (idx x0.Rows ay.state_).bind fun au =>
   (loop (fun s => xU ay yr au s.1 s.2.1 s.2.2) (ee, (bg.drop (1 : Int).toNat), 0)).bind fun t2 =>
   some (.next t2)))
 else (
  some (.done d8))
def vZ (x0 : z7) (x1 : Int) {σ : Type} (yy : σ → zh → Option (σ × Bool)) (sg : σ) : Option σ :=
 gd ((0 : Int) ≤ ((x0.Rows.length : Nat) : Int) ∧ (((x0.Rows.length : Nat) : Int) : Int) ≤ 4294967296) <|
 (idx (List.replicate ((x0.Rows.length : Nat) : Int).toNat false) x1).bind fun gr =>
 (loop (fun s => wG x0 yy s.1 s.2.1 s.2.2) (sg, ((List.replicate ((x0.Rows.length : Nat) : Int).toNat false).set x1.toNat true), ([(zh.mk x1 (-1) (-1))] : List zh))).bind fun t1 =>
 some t1
def zT (s_ : List Int) : Option (List Int) :=
 gd (([] : List Int).length + s_.length ≤ 4294967296) <|
 some s_
def y3 (s_ : List Int) : Option (List Int) :=
 gd ((0 : Int) ≤ 0 ∧ (0 : Int) ≤ ((s_.length : Nat) : Int) ∧ (((s_.length : Nat) : Int) : Int) ≤ ((s_.length : Nat) : Int) ∧ (((s_.length : Nat) : Int) : Int) ≤ ((s_.length : Nat) : Int)) <|
 some ((s_.drop 0).take (((s_.length : Nat) : Int).toNat - 0))
def jg (l_ : List (List Int)) (is : List Bool) : Option (List (List Int) × List Bool) :=
 some (l_, is)
def w4 (dj : List (List Int)) (dm : List Bool) (bo : zh) : Option (LR (List (List Int) × List Bool) Empty) :=
 (idx dm bo.state_).bind fun gq =>
 bif bo.from_ != (-1) then (
  (idx dj bo.from_).bind fun az =>
  (zT az).bind fun ah =>
  gd (ah.length + ([bo.input_] : List Int).length ≤ 4294967296) <|
  (y3 (ah ++ ([bo.input_] : List Int))).bind fun ak =>
  (idx dj bo.state_).bind fun br =>
  some (.next ((dj.set bo.state_.toNat ak), (dm.set bo.state_.toNat true))))
 else (
  some (.next (dj, (dm.set bo.state_.toNat true))))
def ki (m_ : z7) (from_ : Int) : Option (List (List Int) × List Bool) :=
 gd ((0 : Int) ≤ ((m_.Rows.length : Nat) : Int) ∧ (((m_.Rows.length : Nat) : Int) : Int) ≤ 4294967296) <|
 gd ((0 : Int) ≤ ((m_.Rows.length : Nat) : Int) ∧ (((m_.Rows.length : Nat) : Int) : Int) ≤ 4294967296) <|
 (jh m_ from_).bind fun r_ =>
 (vZ r_.1 r_.2 (yOf (fun s x => w4 s.1 s.2 x)) (.next ((List.replicate ((m_.Rows.length : Nat) : Int).toNat ([] : List Int)), (List.replicate ((m_.Rows.length : Nat) : Int).toNat false)))).bind fun t2 =>
 match t2 with
 | .next (dj, dm) => (
  jg dj dm)
 | .done z => nomatch z
def jm (m_ : z7) : Option (List (List Int) × List Bool × Int) :=
 (uh m_).bind fun r_ =>
 bif r_ != 0 then (
  some (([] : List (List Int)), ([] : List Bool), r_))
 else (
  (ki m_ 0).bind fun ah =>
  some (ah.1, ah.2, 0))
def uW (out : List za) : Option (List za) :=
 some out
def xO (av : Int) (bc : List za) : Option (LR (List za × Int) (List za)) :=
 some (.next (bc, w64 (av + 1)))
def xN (a6 : Int) (cx : List za) : Option (LR (List za × Int) (List za)) :=
 some (.next (cx, w64 (a6 + 1)))
def wY (bt : Int) (ft : List za) : Option (LR (List za × Int) (List za)) :=
 some (.next (ft, w64 (bt + 1)))
def wV (av : Int) (a6 : Int) (ak : List Int) (bq : List zy) (dl : List za) (bt : Int) : Option (LR (List za × Int) (List za)) :=
 bif decide (bt < ((bq.length : Nat) : Int)) then (
  (idx bq bt).bind fun fw =>
  bif fw.To != (-1) then (
   (zT (ak ++ ([a6] : List Int))).bind fun ar =>
   (y3 ar).bind fun aw =>
   gd (aw.length + ([bt] : List Int).length ≤ 4294967296) <|
   gd (dl.length + ([(za.mk (aw ++ ([bt] : List Int)) (z8.mk av a6 bt) (.inr (.inr (z8.mk av a6 bt))))] : List za).length ≤ 4294967296) <|
   wY bt (dl ++ ([(za.mk (aw ++ ([bt] : List Int)) (z8.mk av a6 bt) (.inr (.inr (z8.mk av a6 bt))))] : List za)))
  else (
   wY bt dl))
 else (
  some (.done dl))
def wW (m_ : z7) (goal : Int) (r_ : List (List Int) × List Bool × Int) (av : Int) (au : List zy) (cb : List za) (a6 : Int) : Option (LR (List za × Int) (List za)) :=
 bif decide (a6 < ((au.length : Nat) : Int)) then (
  (idx au a6).bind fun ap =>
  bif ap.To == (-1) then (
   xN a6 cb)
  else (
   (idx r_.1 av).bind fun gl =>
   (zT gl).bind fun ah =>
   (y3 ah).bind fun ak =>
   gd (ak.length + ([a6] : List Int).length ≤ 4294967296) <|
   bif goal == 1 then (
    gd (cb.length + ([(za.mk (ak ++ ([a6] : List Int)) (z8.mk av a6 0) (.inr (.inl (av, a6))))] : List za).length ≤ 4294967296) <|
    xN a6 (cb ++ ([(za.mk (ak ++ ([a6] : List Int)) (z8.mk av a6 0) (.inr (.inl (av, a6))))] : List za)))
   else (
    (idx m_.Rows ap.To).bind fun bq =>
    (loop (fun s => wV av a6 ak bq s.1 s.2) (cb, 0)).bind fun t6 =>
    xN a6 t6)))
 else (
  some (.done cb))
def wX (m_ : z7) (goal : Int) (r_ : List (List Int) × List Bool × Int) (am : List za) (av : Int) : Option (LR (List za × Int) (List za)) :=
 bif decide (av < ((m_.Rows.length : Nat) : Int)) then (
  (idx m_.Rows av).bind fun au =>
  (idx r_.2.1 av).bind fun u_ =>
  bif !u_ then (
   xO av am)
  else (
   bif goal == 0 then (
    (idx r_.1 av).bind fun eg =>
    gd (am.length + ([(za.mk eg (z8.mk av 0 0) (.inl av))] : List za).length ≤ 4294967296) <|
    xO av (am ++ ([(za.mk eg (z8.mk av 0 0) (.inl av))] : List za)))
   else (
    (loop (fun s => wW m_ goal r_ av au s.1 s.2) (am, 0)).bind fun t4 =>
    xO av t4)))
 else (
  some (.done am))
def va (m_ : z7) (goal : Int) : Option (List za) :=
 (jm m_).bind fun r_ =>
 (loop (fun s => wX m_ goal r_ s.1 s.2) (([] : List za), 0)).bind fun t2 =>
 uW t2
def kF (n_ : ZU (xv Int)) : Option (yb × Int) :=
 some ((yb.mk n_.e0 n_.e1 n_.e2), 0)
def wg (m_ : z7) (ah : zf) (cg : ZU (xv Int)) (bo : Int) : Option (LR (ZU (xv Int) × Int) (ZU (xv Int))) :=
 bif decide (bo < 3) then (
  (we bo ah).bind fun ak =>
  (va m_ bo).bind fun ar =>
  (idx (ZU.toL cg) bo).bind fun cell =>
  (some (ZU.setI cg bo (xv.mk ak ((ar.length : Nat) : Int)))).bind fun arr =>
  some (.next (arr, w64 (bo + 1))))
 else (
  some (.done cg))
def vb (m_ : z7) (l_ : List (List Int)) : Option (yb × Int) :=
 (yo m_ l_).bind fun r_ =>
 bif r_ != 0 then (
  some ((yb.mk (xv.mk 0 0) (xv.mk 0 0) (xv.mk 0 0)), r_))
 else (
  (yH m_ l_).bind fun ah =>
  (loop (fun s => wg m_ ah s.1 s.2) ((ZU.mk (xv.mk 0 0) (xv.mk 0 0) (xv.mk 0 0)), 0)).bind fun t2 =>
  kF t2)
def qz (x0 : Int) (x_ : zf) : Option Bool :=
 (some ((z2O x_.states_ x0).getD false)).bind fun val =>
 some val
def qw (x0 : Int) (x1 : Int) (x_ : zf) : Option Bool :=
 (some ((z2O x_.edges_ (xv.mk x0 x1)).getD false)).bind fun val =>
 some val
def qu (x0 : z8) (x_ : zf) : Option Bool :=
 (some ((z2O x_.pairs_ x0).getD false)).bind fun val =>
 some val
def X6 (f : Int ⊕ (Int × Int) ⊕ z8) (x : zf) : Option Bool :=
 match f with
 | (.inl c) => qz c x
 | (.inr (.inl c)) => qw c.1 c.2 x
 | (.inr (.inr c)) => qu c x
def zR (s_ : List z8) : Option (List z8) :=
 gd ((0 : Int) ≤ 0 ∧ (0 : Int) ≤ ((s_.length : Nat) : Int) ∧ (((s_.length : Nat) : Int) : Int) ≤ ((s_.length : Nat) : Int) ∧ (((s_.length : Nat) : Int) : Int) ≤ ((s_.length : Nat) : Int)) <|
 some ((s_.drop 0).take (((s_.length : Nat) : Int).toNat - 0))
def vw (out : List z8) : Option (List z8 × Int) :=
 (zR out).bind fun ak =>
 some (ak, 0)
def xL (av : Int) (bc : List z8) : Option (LR (List z8 × Int) (List z8)) :=
 some (.next (bc, w64 (av + 1)))
def xK (ah : zf) (ar : List za) (am : List z8) (av : Int) : Option (LR (List z8 × Int) (List z8)) :=
 bif decide (av < ((ar.length : Nat) : Int)) then (
  (idx ar av).bind fun bv =>
  (X6 bv.has_ ah).bind fun aw =>
  bif !aw then (
   gd (am.length + ([bv.pair_] : List z8).length ≤ 4294967296) <|
   xL av (am ++ ([bv.pair_] : List z8)))
  else (
   xL av am))
 else (
  some (.done am))
def yG (m_ : z7) (l_ : List (List Int)) (goal : Int) : Option (List z8 × Int) :=
 (yo m_ l_).bind fun r_ =>
 bif r_ != 0 then (
  some (([] : List z8), r_))
 else (
  (yH m_ l_).bind fun ah =>
  (va m_ goal).bind fun ar =>
  (loop (fun s => xK ah ar s.1 s.2) (([] : List z8), 0)).bind fun t2 =>
  vw t2)
def wK (r_ : List z8 × Int) (out : List Int) : Option (List Int × Int) :=
 gd (out.length = ((r_.1.length : Nat) : Int).toNat) <|
 some (out, r_.2)
def xg (r_ : List z8 × Int) (am : List Int) (dt : Int) : Option (LR (List Int × Int) (List Int)) :=
 bif decide (dt < ((r_.1.length : Nat) : Int)) then (
  (idx r_.1 dt).bind fun u_ =>
  gd (am.length + ([u_.State] : List Int).length ≤ ((r_.1.length : Nat) : Int).toNat) <|
  some (.next ((am ++ ([u_.State] : List Int)), w64 (dt + 1))))
 else (
  some (.done am))
def ws (m_ : z7) (l_ : List (List Int)) : Option (List Int × Int) :=
 (yG m_ l_ 0).bind fun r_ =>
 gd ((0 : Int) ≤ ((r_.1.length : Nat) : Int) ∧ (((r_.1.length : Nat) : Int) : Int) ≤ 4294967296) <|
 (loop (fun s => xg r_ s.1 s.2) (([] : List Int), 0)).bind fun t2 =>
 wK r_ t2
def vd (r_ : List z8 × Int) (out : List (xv Int)) : Option (List (xv Int) × Int) :=
 gd (out.length = ((r_.1.length : Nat) : Int).toNat) <|
 some (out, r_.2)
def xF (r_ : List z8 × Int) (am : List (xv Int)) (dt : Int) : Option (LR (List (xv Int) × Int) (List (xv Int))) :=
 bif decide (dt < ((r_.1.length : Nat) : Int)) then (
  (idx r_.1 dt).bind fun u_ =>
  gd (am.length + ([(xv.mk u_.State u_.Input)] : List (xv Int)).length ≤ ((r_.1.length : Nat) : Int).toNat) <|
  some (.next ((am ++ ([(xv.mk u_.State u_.Input)] : List (xv Int))), w64 (dt + 1))))
 else (
  some (.done am))
def wh (m_ : z7) (l_ : List (List Int)) : Option (List (xv Int) × Int) :=
 (yG m_ l_ 1).bind fun r_ =>
 gd ((0 : Int) ≤ ((r_.1.length : Nat) : Int) ∧ (((r_.1.length : Nat) : Int) : Int) ≤ 4294967296) <|
 (loop (fun s => xF r_ s.1 s.2) (([] : List (xv Int)), 0)).bind fun t2 =>
 vd r_ t2
def wL (m_ : z7) (l_ : List (List Int)) : Option (List z8 × Int) :=
 (yG m_ l_ 2).bind fun r_ =>
 some (r_.1, r_.2)
def wZ (s_ : List (List Int)) : Option (List (List Int)) :=
 gd (([] : List (List Int)).length + s_.length ≤ 4294967296) <|
 some s_
def ua (a_ : List Int) (b_ : List Int) : Option Bool :=
 (yX a_ b_).bind fun r_ =>
 some (r_ == 0)
def wa (s_ : List (List Int)) : Option (List (List Int)) :=
 some s_
def yS (k_ : Int) : Option (LR Int (Unit ⊕ List (List Int))) :=
 some (.next (w64 (k_ + 1)))
def y9 (dc : List (List Int)) (cd : Int) : Option (LR Int (Unit ⊕ List (List Int))) :=
 gd ((0 : Int) ≤ cd ∧ (cd : Int) ≤ ((dc.length : Nat) : Int)) <|
 gd ((0 : Int) ≤ cd ∧ (cd : Int) ≤ ((dc.length : Nat) : Int)) <|
 gd ((0 : Int) ≤ cd ∧ (cd : Int) ≤ (((dc.take cd.toNat ++ List.replicate (dc.length - cd.toNat) []).length : Nat) : Int)) <|
 some (.done (.inr ((dc.take cd.toNat ++ List.replicate (dc.length - cd.toNat) []).take cd.toNat)))
def y8 (k2 : Int) (ge : List (List Int)) (gf : Int) : Option (LR (List (List Int) × Int × Int) ((List (List Int) × Int))) :=
 some (.next (ge, gf, w64 (k2 + 1)))
def y7 (k_ : Int) (cu : List (List Int)) (dv : Int) (k2 : Int) : Option (LR (List (List Int) × Int × Int) ((List (List Int) × Int))) :=
 bif decide (k2 < ((cu.length - k_.toNat : Nat) : Int)) then (
  gd ((0 : Int) ≤ k_ ∧ (0 : Int) ≤ k2) <|
  (idx cu (k_ + k2)).bind fun fh =>
  gd ((0 : Int) ≤ k_ ∧ (0 : Int) ≤ w64 (k2 - 1)) <|
  (idx cu (k_ + (w64 (k2 - 1)))).bind fun fj =>
  (ua fh fj).bind fun ah =>
  bif !ah then (
   gd ((0 : Int) ≤ k_ ∧ (0 : Int) ≤ k2) <|
   (idx cu (k_ + k2)).bind fun fk =>
   (idx cu dv).bind fun gp =>
   y8 k2 (cu.set dv.toNat fk) (w64 (dv + 1)))
  else (
   y8 k2 cu dv))
 else (
  some (.done (cu, dv)))
def yl (s_ : List (List Int)) (k_ : Int) : Option (LR Int (Unit ⊕ List (List Int))) :=
 bif decide (k_ < ((s_.length : Nat) : Int)) then (
  (idx s_ k_).bind fun db =>
  (idx s_ (w64 (k_ - 1))).bind fun fl =>
  (ua db fl).bind fun r_ =>
  bif r_ then (
   gd ((0 : Int) ≤ k_ ∧ (k_ : Int) ≤ ((s_.length : Nat) : Int)) <|
   (loop (fun s => y7 k_ s.1 s.2.1 s.2.2) (s_, k_, 1)).bind fun t5 =>
   y9 t5.1 t5.2)
  else (
   yS k_))
 else (
  some (.done (.inl ())))
def yC (s_ : List (List Int)) (eq : Unit) : Option (List (List Int)) :=
 bif decide (((s_.length : Nat) : Int) < 2) then (
  some s_)
 else (
  (loop (fun s => yl s_ s) 1).bind fun t2 =>
  match t2 with
  | .inl p => wa s_
  | .inr p => some p)
def xx (s_ : List (List Int)) : Option (List (List Int)) :=
 some s_
def qm (out : List (List Int × Bool)) : Option (List (List Int) × Int) :=
 gd (∀ q ∈ out, q.2 = true) <|
 some ((out.map (·.1)), 0)
def w7 (ak : List (List Int)) (bc : List (List Int × Bool)) (dw : Int) : Option (LR ((List (List Int × Bool)) × Int) ((List (List Int × Bool)))) :=
 bif decide (dw < ((ak.length - (0 : Int).toNat : Nat) : Int)) then (
  gd ((0 : Int) ≤ 0 ∧ (0 : Int) ≤ dw) <|
  (idx bc (0 + dw)).bind fun dg =>
  (zT dg.1).bind fun aw =>
  (y3 aw).bind fun bi =>
  (idx bc dw).bind fun fx =>
  some (.next ((bc.set dw.toNat (bi, true)), w64 (dw + 1))))
 else (
  some (.done bc))
def jo (l_ : List (List Int)) : Option (List (List Int) × Int) :=
 (wZ l_).bind fun r_ =>
 (z3h (fun x y => yX x y) r_).bind fun sorted =>
 (yC sorted ()).bind fun ah =>
 (xx ah).bind fun ak =>
 bif decide (((ak.length : Nat) : Int) > 4096) then (
  some (([] : List (List Int)), 3))
 else (
  (qV ak).bind fun ar =>
  bif decide (ar > 65536) then (
   some (([] : List (List Int)), 3))
  else (
   (loop (fun s => w7 ak s.1 s.2) ((ak.map fun q => (q, false)), 0)).bind fun t2 =>
   qm t2))
def Xf (l_ : List (List Int)) (inputs : Int) : Option (List (List Int) × Int) :=
 (qW l_ inputs).bind fun r_ =>
 bif r_ != 0 then (
  some (([] : List (List Int)), r_))
 else (
  (jo l_).bind fun ah =>
  some (ah.1, ah.2))
def vX (m_ : z7) (am : List (List Int)) : Option (List (List Int) × Int) :=
 bif decide (((am.length : Nat) : Int) > 4096) then (
  some (([] : List (List Int)), 3))
 else (
  (Xf am m_.Inputs).bind fun ak =>
  some (ak.1, ak.2))
def xX (du : Int) (bh : List (Int × Bool)) (bl : List ((xv Int) × Bool)) (a9 : List (z8 × Bool)) (cb : List (List Int)) : Option (LR ((List (Int × Bool)) × (List ((xv Int) × Bool)) × (List (z8 × Bool)) × List (List Int) × Int) (List (List Int))) :=
 some (.next (bh, bl, a9, cb, w64 (du + 1)))
def wM (m_ : z7) (ar : List za) (aj : List (Int × Bool)) (al : List ((xv Int) × Bool)) (aq : List (z8 × Bool)) (bc : List (List Int)) (du : Int) : Option (LR ((List (Int × Bool)) × (List ((xv Int) × Bool)) × (List (z8 × Bool)) × List (List Int) × Int) (List (List Int))) :=
 bif decide (du < ((ar.length : Nat) : Int)) then (
  (idx ar du).bind fun bv =>
  (X6 bv.has_ (zf.mk aj al aq)).bind fun aw =>
  bif !aw then (
   (xV m_ bv.word_ (zf.mk aj al aq)).bind fun bi =>
   (zT bv.word_).bind fun ba =>
   (y3 ba).bind fun da =>
   gd (bc.length + ([da] : List (List Int)).length ≤ 4294967296) <|
   xX du bi.states_ bi.edges_ bi.pairs_ (bc ++ ([da] : List (List Int))))
  else (
   xX du aj al aq bc))
 else (
  some (.done bc))
def vY (m_ : z7) (goal : Int) (ah : zf) (out : List (List Int)) : Option (List (List Int) × Int) :=
 (va m_ goal).bind fun ar =>
 (loop (fun s => wM m_ ar s.1 s.2.1 s.2.2.1 s.2.2.2.1 s.2.2.2.2) (ah.states_, ah.edges_, ah.pairs_, out, 0)).bind fun t3 =>
 vX m_ t3
def xW (l_ : List (List Int)) (cx : List (List Int)) (fy : Int) : Option (LR (List (List Int) × Int) (List (List Int))) :=
 bif decide (fy < ((l_.length : Nat) : Int)) then (
  (idx l_ fy).bind fun az =>
  (zT az).bind fun cr =>
  (y3 cr).bind fun bz =>
  gd (cx.length + ([bz] : List (List Int)).length ≤ 4294967296) <|
  some (.next ((cx ++ ([bz] : List (List Int))), w64 (fy + 1))))
 else (
  some (.done cx))
def yh (m_ : z7) (l_ : List (List Int)) (goal : Int) : Option (List (List Int) × Int) :=
 (yo m_ l_).bind fun r_ =>
 bif r_ != 0 then (
  some (([] : List (List Int)), r_))
 else (
  bif decide (goal < 0) then (
   some (([] : List (List Int)), 1))
  else (
   bif decide (goal ≥ 3) then (
    some (([] : List (List Int)), 1))
   else (
    (yH m_ l_).bind fun ah =>
    gd ((0 : Int) ≤ ((l_.length : Nat) : Int) ∧ (((l_.length : Nat) : Int) : Int) ≤ 4294967296) <|
    (loop (fun s => xW l_ s.1 s.2) (([] : List (List Int)), 0)).bind fun t5 =>
    vY m_ goal ah t5)))
def uG (out : List Int) : Option (List Int) :=
 some out
def wF (cn : Int) (bc : List Int) : Option (LR (List Int × Int) (List Int)) :=
 some (.next (bc, w64 (cn + 1)))
def uF (bk : List za) (x_ : zf) (am : List Int) (cn : Int) : Option (LR (List Int × Int) (List Int)) :=
 bif decide (cn < ((bk.length : Nat) : Int)) then (
  (idx bk cn).bind fun d0 =>
  (X6 d0.has_ x_).bind fun r_ =>
  bif r_ then (
   gd ((64 : Int) ≠ 0) <|
   (idx am (w64 (Int.tdiv cn 64))).bind fun dg =>
   gd ((64 : Int) ≠ 0) <|
   gd ((0 : Int) ≤ Int.tmod cn 64) <|
   (idx am (w64 (Int.tdiv cn 64))).bind fun fx =>
   wF cn (am.set (w64 (Int.tdiv cn 64)).toNat (orK .u64 dg (z6Y .u64 1 (Int.tmod cn 64)))))
  else (
   wF cn am))
 else (
  some (.done am))
def vo (bk : List za) (x_ : zf) : Option (List Int) :=
 gd ((64 : Int) ≠ 0) <|
 gd ((0 : Int) ≤ w64 ((w64 (Int.tdiv ((bk.length : Nat) : Int) 64)) + 1) ∧ (w64 ((w64 (Int.tdiv ((bk.length : Nat) : Int) 64)) + 1) : Int) ≤ 4294967296) <|
 (loop (fun s => uF bk x_ s.1 s.2) ((List.replicate (w64 ((w64 (Int.tdiv ((bk.length : Nat) : Int) 64)) + 1)).toNat (0 : Int)), 0)).bind fun t2 =>
 uG t2
def x5 : Option Bool :=
 some true
def x4 (s1 : List Int) (s2 : List Int) (ff : Int) : Option (LR Int (Unit ⊕ Bool)) :=
 bif decide (ff < ((s1.length : Nat) : Int)) then (
  (idx s1 ff).bind fun fq =>
  (idx s2 ff).bind fun ez =>
  bif fq != ez then (
   some (.done (.inr false)))
  else (
   some (.next (w64 (ff + 1)))))
 else (
  some (.done (.inl ())))
def yK (s1 : List Int) (s2 : List Int) : Option Bool :=
 bif ((s1.length : Nat) : Int) != ((s2.length : Nat) : Int) then (
  some false)
 else (
  (loop (fun s => x4 s1 s2 s) 0).bind fun t2 =>
  match t2 with
  | .inl p => x5
  | .inr p => some p)
def yM (s_ : List Int) : Option (List Int) :=
 gd (([] : List Int).length + s_.length ≤ 4294967296) <|
 some s_
def xE : Option (List Int × Bool) :=
 some (([] : List Int), false)
def xD (i_ : Int) : Option (LR Int (Unit ⊕ (List Int × Bool))) :=
 some (.next (w64 (i_ + 1)))
def xC (c_ : zz) (many : Int) (d9 : zz → (List Int) → Int → Int → Option (List Int × Bool)) (i_ : Int) (dx : List Int) : Option (LR Int (Unit ⊕ (List Int × Bool))) :=
 (d9 c_ dx (w64 (i_ + 1)) (w64 (many - 1))).bind fun ak =>
 bif ak.2 then (
  gd (([i_] : List Int).length + ak.1.length ≤ 4294967296) <|
  some (.done (.inr ((([i_]) ++ ak.1), true))))
 else (
  xD i_)
def xz (ce : List Int) (cw : List Int) (cp : Int) : Option (LR (List Int × Int) (List Int)) :=
 bif decide (cp < ((ce.length : Nat) : Int)) then (
  (idx ce cp).bind fun dy =>
  (idx cw cp).bind fun em =>
  (idx cw cp).bind fun gg =>
  some (.next ((cw.set cp.toNat (orK .u64 em dy)), w64 (cp + 1))))
 else (
  some (.done cw))
def xA (c_ : zz) (bn : List Int) (many : Int) (d9 : zz → (List Int) → Int → Int → Option (List Int × Bool)) (i_ : Int) : Option (LR Int (Unit ⊕ (List Int × Bool))) :=
 bif decide ((w64 (i_ + many)) ≤ ((c_.sets_.length : Nat) : Int)) then (
  (yM bn).bind fun ah =>
  (idx c_.sets_ i_).bind fun ce =>
  (loop (fun s => xz ce s.1 s.2) (ah, 0)).bind fun t5 =>
  xC c_ many d9 i_ t5)
 else (
  some (.done (.inl ())))
def yc (d9 : zz → (List Int) → Int → Int → Option (List Int × Bool)) (c_ : zz) (bn : List Int) (from_ : Int) (many : Int) : Option (List Int × Bool) :=
 bif many == 0 then (
  (yK bn c_.want_).bind fun r_ =>
  some (([] : List Int), r_))
 else (
  (loop (fun s => xA c_ bn many d9 s) from_).bind fun t2 =>
  match t2 with
  | .inl p => xE
  | .inr p => some p)
def ym (fu : Nat) : zz → (List Int) → Int → Int → Option (List Int × Bool) := Nat.rec (motive := fun _ => zz → (List Int) → Int → Int → Option (List Int × Bool)) (fun _ _ _ _ => none) (fun _ ih => yc ih) fu
def vG (c_ : zz) (bn : List Int) (from_ : Int) (many : Int) : Option (List Int × Bool) := ym (many.toNat + 1) c_ bn from_ many
def vV : Option (List (List Int) × Int) :=
 some (([] : List (List Int)), 0)
def vU (dn : Int) : Option (LR Int (Unit ⊕ (List (List Int) × Int))) :=
 some (.next (w64 (dn + 1)))
def vT (ba : List Int × Bool) (out : List (List Int)) : Option (LR Int (Unit ⊕ (List (List Int) × Int))) :=
 gd (out.length = ((ba.1.length : Nat) : Int).toNat) <|
 some (.done (.inr (out, 0)))
def vR (l_ : List (List Int)) (ba : List Int × Bool) (am : List (List Int)) (fz : Int) : Option (LR (List (List Int) × Int) (List (List Int))) :=
 bif decide (fz < ((ba.1.length : Nat) : Int)) then (
  (idx ba.1 fz).bind fun u_ =>
  (idx l_ u_).bind fun az =>
  (zT az).bind fun da =>
  (y3 da).bind fun cr =>
  gd (am.length + ([cr] : List (List Int)).length ≤ ((ba.1.length : Nat) : Int).toNat) <|
  some (.next ((am ++ ([cr] : List (List Int))), w64 (fz + 1))))
 else (
  some (.done am))
def vS (l_ : List (List Int)) (ah : List za) (ar : List Int) (bw : List (List Int)) (dn : Int) : Option (LR Int (Unit ⊕ (List (List Int) × Int))) :=
 bif decide (dn < (w64 (((l_.length : Nat) : Int) + 1))) then (
  (ui).bind fun aw =>
  (vo ah aw).bind fun bi =>
  (vG (zz.mk bw ar) bi 0 dn).bind fun ba =>
  bif !ba.2 then (
   vU dn)
  else (
   gd ((0 : Int) ≤ ((ba.1.length : Nat) : Int) ∧ (((ba.1.length : Nat) : Int) : Int) ≤ 4294967296) <|
   (loop (fun s => vR l_ ba s.1 s.2) (([] : List (List Int)), 0)).bind fun t6 =>
   vT ba t6))
 else (
  some (.done (.inl ())))
def vW (l_ : List (List Int)) (ah : List za) (ar : List Int) (bw : List (List Int)) : Option (List (List Int) × Int) :=
 (loop (fun s => vS l_ ah ar bw s) 0).bind fun t3 =>
 match t3 with
 | .inl p => vV
 | .inr p => some p
def vQ (m_ : z7) (l_ : List (List Int)) (ah : List za) (ca : List (List Int)) (cp : Int) : Option (LR (List (List Int) × Int) (List (List Int))) :=
 bif decide (cp < ((l_.length : Nat) : Int)) then (
  (idx l_ cp).bind fun br =>
  (yH m_ ([br])).bind fun bz =>
  (vo ah bz).bind fun de =>
  gd (ca.length + ([de] : List (List Int)).length ≤ 4294967296) <|
  some (.next ((ca ++ ([de] : List (List Int))), w64 (cp + 1))))
 else (
  some (.done ca))
def zZ (m_ : z7) (l_ : List (List Int)) (goal : Int) : Option (List (List Int) × Int) :=
 (yo m_ l_).bind fun r_ =>
 bif r_ != 0 then (
  some (([] : List (List Int)), r_))
 else (
  bif decide (goal < 0) then (
   some (([] : List (List Int)), 1))
  else (
   bif decide (goal ≥ 3) then (
    some (([] : List (List Int)), 1))
   else (
    bif decide (((l_.length : Nat) : Int) > 16) then (
     some (([] : List (List Int)), 3))
    else (
     (va m_ goal).bind fun ah =>
     (yH m_ l_).bind fun ak =>
     (vo ah ak).bind fun ar =>
     (loop (fun s => vQ m_ l_ ah s.1 s.2) (([] : List (List Int)), 0)).bind fun t7 =>
     vW l_ ah ar t7))))
def X3 : Option z7 :=
 some (z7.mk 2 2 ([[(zy.mk 1 0), (zy.mk 0 0)], [(zy.mk 0 1), (zy.mk 1 0)]]))
def uk (i_ : Int) : Option (List UInt8) :=
 bif decide (i_ < 10) then (
  gd ((0 : Int) ≤ i_ ∧ (i_ : Int) ≤ w64 (i_ + 1) ∧ (w64 (i_ + 1) : Int) ≤ ((([48, 49, 50, 51, 52, 53, 54, 55, 56, 57, 97, 98, 99, 100, 101, 102, 103, 104, 105, 106, 107, 108, 109, 110, 111, 112, 113, 114, 115, 116, 117, 118, 119, 120, 121, 122] : List UInt8).length : Nat) : Int)) <|
  some ((([48, 49, 50, 51, 52, 53, 54, 55, 56, 57, 97, 98, 99, 100, 101, 102, 103, 104, 105, 106, 107, 108, 109, 110, 111, 112, 113, 114, 115, 116, 117, 118, 119, 120, 121, 122] : List UInt8).take (w64 (i_ + 1)).toNat).drop i_.toNat))
 else (
  gd ((0 : Int) ≤ w64 (i_ * 2) ∧ (w64 (i_ * 2) : Int) ≤ w64 ((w64 (i_ * 2)) + 2) ∧ (w64 ((w64 (i_ * 2)) + 2) : Int) ≤ ((([48, 48, 48, 49, 48, 50, 48, 51, 48, 52, 48, 53, 48, 54, 48, 55, 48, 56, 48, 57, 49, 48, 49, 49, 49, 50, 49, 51, 49, 52, 49, 53, 49, 54, 49, 55, 49, 56, 49, 57, 50, 48, 50, 49, 50, 50, 50, 51, 50, 52, 50, 53, 50, 54, 50, 55, 50, 56, 50, 57, 51, 48, 51, 49, 51, 50, 51, 51, 51, 52, 51, 53, 51, 54, 51, 55, 51, 56, 51, 57, 52, 48, 52, 49, 52, 50, 52, 51, 52, 52, 52, 53, 52, 54, 52, 55, 52, 56, 52, 57, 53, 48, 53, 49, 53, 50, 53, 51, 53, 52, 53, 53, 53, 54, 53, 55, 53, 56, 53, 57, 54, 48, 54, 49, 54, 50, 54, 51, 54, 52, 54, 53, 54, 54, 54, 55, 54, 56, 54, 57, 55, 48, 55, 49, 55, 50, 55, 51, 55, 52, 55, 53, 55, 54, 55, 55, 55, 56, 55, 57, 56, 48, 56, 49, 56, 50, 56, 51, 56, 52, 56, 53, 56, 54, 56, 55, 56, 56, 56, 57, 57, 48, 57, 49, 57, 50, 57, 51, 57, 52, 57, 53, 57, 54, 57, 55, 57, 56, 57, 57] : List UInt8).length : Nat) : Int)) <|
  some ((([48, 48, 48, 49, 48, 50, 48, 51, 48, 52, 48, 53, 48, 54, 48, 55, 48, 56, 48, 57, 49, 48, 49, 49, 49, 50, 49, 51, 49, 52, 49, 53, 49, 54, 49, 55, 49, 56, 49, 57, 50, 48, 50, 49, 50, 50, 50, 51, 50, 52, 50, 53, 50, 54, 50, 55, 50, 56, 50, 57, 51, 48, 51, 49, 51, 50, 51, 51, 51, 52, 51, 53, 51, 54, 51, 55, 51, 56, 51, 57, 52, 48, 52, 49, 52, 50, 52, 51, 52, 52, 52, 53, 52, 54, 52, 55, 52, 56, 52, 57, 53, 48, 53, 49, 53, 50, 53, 51, 53, 52, 53, 53, 53, 54, 53, 55, 53, 56, 53, 57, 54, 48, 54, 49, 54, 50, 54, 51, 54, 52, 54, 53, 54, 54, 54, 55, 54, 56, 54, 57, 55, 48, 55, 49, 55, 50, 55, 51, 55, 52, 55, 53, 55, 54, 55, 55, 55, 56, 55, 57, 56, 48, 56, 49, 56, 50, 56, 51, 56, 52, 56, 53, 56, 54, 56, 55, 56, 56, 56, 57, 57, 48, 57, 49, 57, 50, 57, 51, 57, 52, 57, 53, 57, 54, 57, 55, 57, 56, 57, 57] : List UInt8).take (w64 ((w64 (i_ * 2)) + 2)).toNat).drop (w64 (i_ * 2)).toNat))
def x6 (u_ : Int) : Option (List UInt8) :=
 none
def x9 (i_ : Int) : Option (List UInt8) :=
 bif decide (i_ < 0) then (
  x6 (IntKind.u64.wrap (0 - (IntKind.u64.wrap (i_)))))
 else (
  x6 (IntKind.u64.wrap (i_)))
def wR (i_ : Int) (base : Int) : Option (List UInt8) :=
 bif base == 10 then (
  bif decide (0 ≤ i_) then (
   bif decide (i_ < 100) then (
    (uk i_).bind fun r_ =>
    some r_)
   else (
    x9 i_))
  else (
   x9 i_))
 else (
  none)
def uz (i_ : Int) : Option (List UInt8) :=
 (wR i_ 10).bind fun r_ =>
 some r_
def vJ (i_ : Int) : Option (List UInt8) :=
 (uz i_).bind fun r_ =>
 some r_
def ja (s_ : List UInt8) : Option (List UInt8) :=
 some s_
def Zs (c_ : yb) : Option (List UInt8) :=
 (vJ c_.States.e0).bind fun r_ =>
 gd (([115, 116, 97, 116, 101, 115, 32] : List UInt8).length + r_.length ≤ 4611686018427387904) <|
 gd ((([115, 116, 97, 116, 101, 115, 32] : List UInt8) ++ r_).length + ([47] : List UInt8).length ≤ 4611686018427387904) <|
 (vJ c_.States.e1).bind fun ah =>
 gd (((([115, 116, 97, 116, 101, 115, 32] : List UInt8) ++ r_) ++ ([47] : List UInt8)).length + ah.length ≤ 4611686018427387904) <|
 gd (([] : List UInt8).length + (((([115, 116, 97, 116, 101, 115, 32] : List UInt8) ++ r_) ++ ([47] : List UInt8)) ++ ah).length ≤ 4611686018427387904) <|
 (vJ c_.Edges.e0).bind fun ak =>
 gd (([44, 32, 101, 100, 103, 101, 115, 32] : List UInt8).length + ak.length ≤ 4611686018427387904) <|
 gd ((([44, 32, 101, 100, 103, 101, 115, 32] : List UInt8) ++ ak).length + ([47] : List UInt8).length ≤ 4611686018427387904) <|
 (vJ c_.Edges.e1).bind fun ar =>
 gd (((([44, 32, 101, 100, 103, 101, 115, 32] : List UInt8) ++ ak) ++ ([47] : List UInt8)).length + ar.length ≤ 4611686018427387904) <|
 gd ((([] : List UInt8) ++ (((([115, 116, 97, 116, 101, 115, 32] : List UInt8) ++ r_) ++ ([47] : List UInt8)) ++ ah)).length + (((([44, 32, 101, 100, 103, 101, 115, 32] : List UInt8) ++ ak) ++ ([47] : List UInt8)) ++ ar).length ≤ 4611686018427387904) <|
 (vJ c_.Pairs.e0).bind fun aw =>
 gd (([44, 32, 112, 97, 105, 114, 115, 32] : List UInt8).length + aw.length ≤ 4611686018427387904) <|
 gd ((([44, 32, 112, 97, 105, 114, 115, 32] : List UInt8) ++ aw).length + ([47] : List UInt8).length ≤ 4611686018427387904) <|
 (vJ c_.Pairs.e1).bind fun bi =>
 gd (((([44, 32, 112, 97, 105, 114, 115, 32] : List UInt8) ++ aw) ++ ([47] : List UInt8)).length + bi.length ≤ 4611686018427387904) <|
 gd (((([] : List UInt8) ++ (((([115, 116, 97, 116, 101, 115, 32] : List UInt8) ++ r_) ++ ([47] : List UInt8)) ++ ah)) ++ (((([44, 32, 101, 100, 103, 101, 115, 32] : List UInt8) ++ ak) ++ ([47] : List UInt8)) ++ ar)).length + (((([44, 32, 112, 97, 105, 114, 115, 32] : List UInt8) ++ aw) ++ ([47] : List UInt8)) ++ bi).length ≤ 4611686018427387904) <|
 ja (((([] : List UInt8) ++ (((([115, 116, 97, 116, 101, 115, 32] : List UInt8) ++ r_) ++ ([47] : List UInt8)) ++ ah)) ++ (((([44, 32, 101, 100, 103, 101, 115, 32] : List UInt8) ++ ak) ++ ([47] : List UInt8)) ++ ar)) ++ (((([44, 32, 112, 97, 105, 114, 115, 32] : List UInt8) ++ aw) ++ ([47] : List UInt8)) ++ bi))
def Y8 : Option Bool :=
 some true
def Y7 (a_ : List (List Int)) (b_ : List (List Int)) (i_ : Int) : Option (LR Int (Unit ⊕ Bool)) :=
 bif decide (i_ < ((a_.length : Nat) : Int)) then (
  (idx a_ i_).bind fun eu =>
  (idx b_ i_).bind fun ew =>
  (uE eu ew).bind fun r_ =>
  bif r_ != 0 then (
   some (.done (.inr false)))
  else (
   some (.next (w64 (i_ + 1)))))
 else (
  some (.done (.inl ())))
def Xi (a_ : List (List Int)) (b_ : List (List Int)) : Option Bool :=
 bif ((a_.length : Nat) : Int) != ((b_.length : Nat) : Int) then (
  some false)
 else (
  (loop (fun s => Y7 a_ b_ s) 0).bind fun t2 =>
  match t2 with
  | .inl p => Y8
  | .inr p => some p)
def uZ : Option Bool :=
 (X3).bind fun r_ =>
 (vb r_ []).bind fun ah =>
 (vb r_ ([[1], [0, 0, 1]])).bind fun ak =>
 (wh r_ ([[1], [0, 0, 1]])).bind fun ar =>
 (yh r_ [] 1).bind fun aw =>
 (zZ r_ ([[0], [1], [0, 0], [0, 1, 1]]) 1).bind fun bi =>
 bif ah.2 == 0 then (
  bif ak.2 == 0 then (
   bif ar.2 == 0 then (
    bif aw.2 == 0 then (
     bif bi.2 == 0 then (
      bif (ah.1.States.e0 == 1) && ((ah.1.States.e1 == 2) && ((ah.1.Edges.e0 == 0) && ((ah.1.Edges.e1 == 4) && ((ah.1.Pairs.e0 == 0) && ((ah.1.Pairs.e1 == 8) && true))))) then (
       (Zs ah.1).bind fun ba =>
       bif ba == ([115, 116, 97, 116, 101, 115, 32, 49, 47, 50, 44, 32, 101, 100, 103, 101, 115, 32, 48, 47, 52, 44, 32, 112, 97, 105, 114, 115, 32, 48, 47, 56] : List UInt8) then (
        bif (ak.1.States.e0 == 2) && ((ak.1.States.e1 == 2) && ((ak.1.Edges.e0 == 3) && ((ak.1.Edges.e1 == 4) && ((ak.1.Pairs.e0 == 2) && ((ak.1.Pairs.e1 == 8) && true))))) then (
         bif ((ar.1.length : Nat) : Int) == 1 then (
          (idx ar.1 0).bind fun u_ =>
          bif (u_.e0 == 1) && ((u_.e1 == 1) && true) then (
           (Xi aw.1 ([[0], [1], [0, 0], [0, 1]])).bind fun da =>
           bif da then (
            (Xi bi.1 ([[1], [0, 0], [0, 1, 1]])).bind fun cr =>
            some cr)
           else (
            some false))
          else (
           some false))
         else (
          some false))
        else (
         some false))
       else (
        some false))
      else (
       some false))
     else (
      some false))
    else (
     some false))
   else (
    some false))
  else (
   some false))
 else (
  some false)
def ya (m_ : z7) (l_ : List (List Int)) (goal : Int) (want : Int) : Option Bool :=
 (vb m_ l_).bind fun ah =>
 (ws m_ l_).bind fun ak =>
 (wh m_ l_).bind fun ar =>
 (wL m_ l_).bind fun aw =>
 (yh m_ l_ goal).bind fun bi =>
 (zZ m_ l_ goal).bind fun ba =>
 bif want != 0 then (
  bif ah.2 == want then (
   bif ak.2 == want then (
    bif ar.2 == want then (
     bif aw.2 == want then (
      bif bi.2 == want then (
       bif ba.2 == want then (
        bif (ah.1.States.e0 == 0) && ((ah.1.States.e1 == 0) && ((ah.1.Edges.e0 == 0) && ((ah.1.Edges.e1 == 0) && ((ah.1.Pairs.e0 == 0) && ((ah.1.Pairs.e1 == 0) && true))))) then (
         bif (w64 ((w64 ((w64 ((w64 (((ak.1.length : Nat) : Int) + ((ar.1.length : Nat) : Int))) + ((aw.1.length : Nat) : Int))) + ((bi.1.length : Nat) : Int))) + ((ba.1.length : Nat) : Int))) == 0 then (
          (uZ).bind fun da =>
          some da)
         else (
          some false))
        else (
         some false))
       else (
        some false))
      else (
       some false))
     else (
      some false))
    else (
     some false))
   else (
    some false))
  else (
   some false))
 else (
  bif decide (goal < 0) then (
   bif ah.2 == 0 then (
    bif bi.2 == 1 then (
     bif ba.2 == 1 then (
      bif (w64 (((bi.1.length : Nat) : Int) + ((ba.1.length : Nat) : Int))) == 0 then (
       (uZ).bind fun cr =>
       some cr)
      else (
       some false))
     else (
      some false))
    else (
     some false))
   else (
    some false))
  else (
   bif decide (goal > 2) then (
    bif ah.2 == 0 then (
     bif bi.2 == 1 then (
      bif ba.2 == 1 then (
       bif (w64 (((bi.1.length : Nat) : Int) + ((ba.1.length : Nat) : Int))) == 0 then (
        (uZ).bind fun bz =>
        some bz)
       else (
        some false))
      else (
       some false))
     else (
      some false))
    else (
     some false))
   else (
    bif ah.2 == 0 then (
     bif bi.2 == 0 then (
      bif (ba.2 == 3) == (decide (((l_.length : Nat) : Int) > 16)) then (
       bif (ba.2 == 0) == (decide (((l_.length : Nat) : Int) ≤ 16)) then (
        (uZ).bind fun de =>
        some de)
       else (
        some false))
      else (
       some false))
     else (
      some false))
    else (
     some false))))
def xm (m_ : z7) (l_ : List (List Int)) (goal : Int) : Option Bool :=
 (ky m_).bind fun r_ =>
 bif r_ == 0 then (
  (kx l_ m_.Inputs).bind fun gh =>
  ya m_ l_ goal gh)
 else (
  ya m_ l_ goal r_)
def xk (l_ : List (List Int)) (i_ : Int) : Option (LR Int (Unit ⊕ Bool)) :=
 bif decide (i_ < ((l_.length : Nat) : Int)) then (
  (idx l_ i_).bind fun az =>
  bif decide (((az.length : Nat) : Int) > 300) then (
   some (.done (.inr true)))
  else (
   some (.next (w64 (i_ + 1)))))
 else (
  some (.done (.inl ())))
def wn (m_ : z7) (l_ : List (List Int)) (goal : Int) : Option Bool :=
 (loop (fun s => xk l_ s) 0).bind fun t4 =>
 match t4 with
 | .inl p => xm m_ l_ goal
 | .inr p => some p
def xj (m_ : z7) (ga : Int) : Option (LR Int (Unit ⊕ Bool)) :=
 bif decide (ga < ((m_.Rows.length : Nat) : Int)) then (
  (idx m_.Rows ga).bind fun au =>
  bif decide (((au.length : Nat) : Int) > 20) then (
   some (.done (.inr true)))
  else (
   some (.next (w64 (ga + 1)))))
 else (
  some (.done (.inl ())))
def v8 (m_ : z7) (l_ : List (List Int)) (goal : Int) : Option Bool :=
 bif decide (((m_.Rows.length : Nat) : Int) > 10) then (
  some true)
 else (
  bif decide (((l_.length : Nat) : Int) > 20) then (
   some true)
  else (
   (loop (fun s => xj m_ s) 0).bind fun t5 =>
   match t5 with
   | .inl p => wn m_ l_ goal
   | .inr p => some p))
abbrev F0_ := Wu (eI .i64)
abbrev F1_ := eSl 1 true (eI .i64)
abbrev F2_ := eSl 1 true (eI .u64)
abbrev F3_ := eOs 1 true (eI .i64)
abbrev F4_ := eSl 1 false (eI .i64)
abbrev F5_ := eSl 1 false (eI .u64)
abbrev F6_ := yU (eI .i64) (eI .i64)
abbrev F7_ := eSl 1 true F1_
abbrev F8_ := eSl 1 true F4_
abbrev F9_ := eSl 1 false F4_
abbrev z9q := eOs 1 false F4_
abbrev zfU := eSl 1 false F5_
abbrev zf8 := eSl 2 true F6_
abbrev jB := eSl 2 false F6_
abbrev qg := kE (eI .i64) (eI .i64) (eI .i64)
abbrev zG := zY (eI .i64) (eI .i64) (eI .i64)
abbrev zfT := eSl 1 true zf8
abbrev zfS := eSl 1 false jB
abbrev zcx := xJ F0_ F0_ F0_
abbrev z7y := xe zfU F5_
abbrev zci := eSp z7y
abbrev z9D := wC (eI .i64) (eI .i64) zfT
abbrev xH := wC (eI .i64) (eI .i64) zfS
abbrev z6S := eSp xH
def rpN {α : Type _} (n : Nat) (a : α) (l : List α) : List α := Nat.rec l (fun _ r => a :: r) n
abbrev aLn (n : Nat) : H := .a (.atom (.int .i64 ((n : Nat) : Int)))
end Go.Own

namespace Go.Proofs
open Go.Shelf
def Tryd.so67_ren : Go.Shelf.Ren := ⟨fun | 6 => 67 | 15 => 79 | 14 => 78 | 28 => 97 | 29 => 98 | 20 => 89 | 21 => 90 | 22 => 91 | 23 => 92 | 24 => 93 | 25 => 94 | 26 => 95 | 27 => 96 | 46 => 104 | 47 => 105 | 48 => 106 | 49 => 107 | 50 => 108 | 57 => 111 | n => n, fun | 22 => 31 | 24 => 43 | 25 => 92 | 3 => 3 | 39 => 140 | 0 => 0 | 53 => 160 | 55 => 116 | 4 => 4 | 46 => 153 | 45 => 152 | 50 => 157 | 5 => 5 | 9 => 9 | 66 => 164 | 70 => 168 | 76 => 170 | 77 => 171 | n => n, fun | n => n⟩
theorem Tryd.so67 : Go.Proofs.SlLaysF0.n6 Tryd.prog Tryd.so67_ren := {
 mixed := by kernel_rfl
 f6 := ⟨Tryd.f67.name, by decide, Tryd.func67.trans (congrArg some (by kernel_rfl))⟩
 f14 := ⟨Tryd.f78.name, by decide, Tryd.func78.trans (congrArg some (by kernel_rfl))⟩
 f15 := Tryd.func79.trans (congrArg some (by kernel_rfl))
 f20 := ⟨Tryd.f89.name, by decide, Tryd.func89.trans (congrArg some (by kernel_rfl))⟩
 f21 := ⟨Tryd.f90.name, by decide, Tryd.func90.trans (congrArg some (by kernel_rfl))⟩
 f22 := ⟨Tryd.f91.name, by decide, Tryd.func91.trans (congrArg some (by kernel_rfl))⟩
 f23 := ⟨Tryd.f92.name, by decide, Tryd.func92.trans (congrArg some (by kernel_rfl))⟩
 f24 := ⟨Tryd.f93.name, by decide, Tryd.func93.trans (congrArg some (by kernel_rfl))⟩
 f25 := ⟨Tryd.f94.name, by decide, Tryd.func94.trans (congrArg some (by kernel_rfl))⟩
 f26 := ⟨Tryd.f95.name, by decide, Tryd.func95.trans (congrArg some (by kernel_rfl))⟩
 f27 := ⟨Tryd.f96.name, by decide, Tryd.func96.trans (congrArg some (by kernel_rfl))⟩
 f28 := Tryd.func97.trans (congrArg some (by kernel_rfl))
 f29 := Tryd.func98.trans (congrArg some (by kernel_rfl))
 f46 := ⟨Tryd.f104.name, by decide, Tryd.func104.trans (congrArg some (by kernel_rfl))⟩
 f47 := Tryd.func105.trans (congrArg some (by kernel_rfl))
 f48 := Tryd.func106.trans (congrArg some (by kernel_rfl))
 f49 := ⟨Tryd.f107.name, by decide, Tryd.func107.trans (congrArg some (by kernel_rfl))⟩
 f50 := ⟨Tryd.f108.name, by decide, Tryd.func108.trans (congrArg some (by kernel_rfl))⟩
 f57 := ⟨Tryd.f111.name, by decide, Tryd.func111.trans (congrArg some (by kernel_rfl))⟩
 t0 := Tryd.underlying0
 a0 := Tryd.isAgg0
 z0 := Tryd.sizeOf0
 v0 := Tryd.zeroValue0
 t3 := Tryd.underlying3
 a3 := Tryd.isAgg3
 z3 := Tryd.sizeOf3
 v3 := Tryd.zeroValue3
 t4 := Tryd.underlying4
 a4 := Tryd.isAgg4
 z4 := Tryd.sizeOf4
 v4 := Tryd.zeroValue4
 t5 := Tryd.underlying5
 a5 := Tryd.isAgg5
 z5 := Tryd.sizeOf5
 v5 := Tryd.zeroValue5
 t9 := Tryd.underlying9
 a9 := Tryd.isAgg9
 z9 := Tryd.sizeOf9
 v9 := Tryd.zeroValue9
 t22 := Tryd.underlying31
 a22 := Tryd.isAgg31
 z22 := Tryd.sizeOf31
 v22 := Tryd.zeroValue31
 t25 := Tryd.underlying92
 a25 := Tryd.isAgg92
 z25 := Tryd.sizeOf92
 v25 := Tryd.zeroValue92
 t39 := Tryd.underlying140
 a39 := Tryd.isAgg140
 z39 := Tryd.sizeOf140
 v39 := Tryd.zeroValue140
 t45 := Tryd.underlying152
 a45 := Tryd.isAgg152
 z45 := Tryd.sizeOf152
 v45 := Tryd.zeroValue152
 t46 := Tryd.underlying153
 a46 := Tryd.isAgg153
 z46 := Tryd.sizeOf153
 v46 := Tryd.zeroValue153
 t50 := Tryd.underlying157
 a50 := Tryd.isAgg157
 z50 := Tryd.sizeOf157
 v50 := Tryd.zeroValue157
 t53 := Tryd.underlying160
 a53 := Tryd.isAgg160
 z53 := Tryd.sizeOf160
 v53 := Tryd.zeroValue160
 t55 := Tryd.underlying116
 a55 := Tryd.isAgg116
 z55 := Tryd.sizeOf116
 v55 := Tryd.zeroValue116
 t66 := Tryd.underlying164
 a66 := Tryd.isAgg164
 z66 := Tryd.sizeOf164
 v66 := Tryd.zeroValue164
 t70 := Tryd.underlying168
 a70 := Tryd.isAgg168
 z70 := Tryd.sizeOf168
 v70 := Tryd.zeroValue168
 t76 := Tryd.underlying170
 a76 := Tryd.isAgg170
 z76 := Tryd.sizeOf170
 v76 := Tryd.zeroValue170
 t77 := Tryd.underlying171
 a77 := Tryd.isAgg171
 z77 := Tryd.sizeOf171
 v77 := Tryd.zeroValue171 }
end Go.Proofs
