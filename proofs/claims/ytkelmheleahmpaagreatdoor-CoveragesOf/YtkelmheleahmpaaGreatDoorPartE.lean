/- -/
import Derived.Test.YtkelmheleahmpaaGreatDoorPartB
import Derived.Test.YtkelmheleahmpaaGreatDoorProg
import Derived.Test.YtkelmheleahmpaaGreatDoorPartD
import Derived.Test.YtkelmheleahmpaaGreatDoorPartC
import Derived.Shelf.SlSortCmp.NoneTotal
import Derived.Ground.SlsfProg
set_option linter.unusedVariables false
set_option linter.unusedSimpArgs false
namespace Go.Ex
open Go.Proofs
theorem q3 : EqP Tryz.prog 3 [.int .i64 0] false 1 := z7C (k := .int .i64) Tryz.underlying3 ⟨_, (by kernel_rfl : Tryz.prog.info? 3 = some Tryz.t3), rfl⟩ rfl
theorem q34 : EqP Tryz.prog 34 (z4F 2 [.int .i64 0]) true 2 := Jr Tryz.underlying34 q3 ⟨_, (by kernel_rfl : Tryz.prog.info? 34 = some Tryz.t34), rfl⟩
def i34 : EI := ⟨.array 2 3, 2, 16, some [.int .i64 0, .int .i64 0], true⟩
theorem z8D : z42 Tryz.prog 34 i34 := ⟨⟨Tryz.t34, by kernel_rfl, rfl, rfl, fun z h => by cases h; exact ⟨_, rfl, rfl, X5 rfl, rfl, ⟨_, rfl⟩⟩⟩, Tryz.underlying34, fun _ => k7 q34 rfl rfl (Nat.le_of_ble_eq_true (by kernel_rfl)) (by decide)⟩
theorem q35 : EqP Tryz.prog 35 (Zg [([.int .i64 0, .int .i64 0], true), ([.int .i64 0, .int .i64 0], true), ([.int .i64 0, .int .i64 0], true)]) true 3 := ul Tryz.underlying35 (by kernel_rfl) ⟨_, (by kernel_rfl : Tryz.prog.info? 35 = some Tryz.t35), rfl⟩ (by decide) (zM.cons (by decide) rfl (q34.mono (by decide)) (zM.cons (by decide) rfl (q34.mono (by decide)) (zM.cons (by decide) rfl (q34.mono (by decide)) (zM.nil))))
def i35 : EI := ⟨.struct [(0, 34), (2, 34), (4, 34)], 6, 48, some [.int .i64 0, .int .i64 0, .int .i64 0, .int .i64 0, .int .i64 0, .int .i64 0], true⟩
theorem zgA : z42 Tryz.prog 35 i35 := ⟨⟨Tryz.t35, by kernel_rfl, rfl, rfl, fun z h => by cases h; exact ⟨_, rfl, rfl, X5 rfl, rfl, ⟨_, rfl⟩⟩⟩, ⟨_, Tryz.underlying35, by kernel_rfl, by
  intro f hf
  simp only [List.mem_cons, List.not_mem_nil, or_false] at hf
  rcases hf with rfl | rfl | rfl
  ·exact ⟨Tryz.t34, by kernel_rfl⟩
  ·exact ⟨Tryz.t34, by kernel_rfl⟩
  ·exact ⟨Tryz.t34, by kernel_rfl⟩⟩, fun _ => k7 q35 rfl rfl (Nat.le_of_ble_eq_true (by kernel_rfl)) (by decide)⟩
theorem q36 : EqP Tryz.prog 36 (Zg [([.int .i64 0, .int .i64 0], true), ([.int .i64 0, .int .i64 0], true), ([.int .i64 0, .int .i64 0], true)]) true 3 := ul Tryz.underlying36 (by kernel_rfl) ⟨_, (by kernel_rfl : Tryz.prog.info? 36 = some Tryz.t36), rfl⟩ (by decide) (zM.cons (by decide) rfl (q34.mono (by decide)) (zM.cons (by decide) rfl (q34.mono (by decide)) (zM.cons (by decide) rfl (q34.mono (by decide)) (zM.nil))))
def i36 : EI := ⟨.struct [(0, 34), (2, 34), (4, 34)], 6, 48, some [.int .i64 0, .int .i64 0, .int .i64 0, .int .i64 0, .int .i64 0, .int .i64 0], true⟩
theorem zca : z42 Tryz.prog 36 i36 := ⟨⟨Tryz.t36, by kernel_rfl, rfl, rfl, fun z h => by cases h; exact ⟨_, rfl, rfl, X5 rfl, rfl, ⟨_, rfl⟩⟩⟩, ⟨_, Tryz.underlying36, by kernel_rfl, by
  intro f hf
  simp only [List.mem_cons, List.not_mem_nil, or_false] at hf
  rcases hf with rfl | rfl | rfl
  ·exact ⟨Tryz.t34, by kernel_rfl⟩
  ·exact ⟨Tryz.t34, by kernel_rfl⟩
  ·exact ⟨Tryz.t34, by kernel_rfl⟩⟩, fun _ => k7 q36 rfl rfl (Nat.le_of_ble_eq_true (by kernel_rfl)) (by decide)⟩
theorem q59 : EqP Tryz.prog 59 (Zg [([.int .i64 0], false), ([.int .i64 0], false), ([.int .i64 0], false)]) true 2 := ul Tryz.underlying59 (by kernel_rfl) ⟨_, (by kernel_rfl : Tryz.prog.info? 59 = some Tryz.t59), rfl⟩ (by decide) (zM.cons (by decide) rfl (q3.mono (by decide)) (zM.cons (by decide) rfl (q3.mono (by decide)) (zM.cons (by decide) rfl (q3.mono (by decide)) (zM.nil))))
def i59 : EI := ⟨.struct [(0, 3), (1, 3), (2, 3)], 3, 24, some [.int .i64 0, .int .i64 0, .int .i64 0], true⟩
theorem zgz : z42 Tryz.prog 59 i59 := ⟨⟨Tryz.t59, by kernel_rfl, rfl, rfl, fun z h => by cases h; exact ⟨_, rfl, rfl, X5 rfl, rfl, ⟨_, rfl⟩⟩⟩, ⟨_, Tryz.underlying59, by kernel_rfl, by
  intro f hf
  simp only [List.mem_cons, List.not_mem_nil, or_false] at hf
  rcases hf with rfl | rfl | rfl
  ·exact ⟨Tryz.t3, by kernel_rfl⟩
  ·exact ⟨Tryz.t3, by kernel_rfl⟩
  ·exact ⟨Tryz.t3, by kernel_rfl⟩⟩, fun _ => k7 q59 rfl rfl (Nat.le_of_ble_eq_true (by kernel_rfl)) (by decide)⟩
theorem q60 : EqP Tryz.prog 60 (Zg [([.int .i64 0], false), ([.int .i64 0], false), ([.int .i64 0], false)]) true 2 := ul Tryz.underlying60 (by kernel_rfl) ⟨_, (by kernel_rfl : Tryz.prog.info? 60 = some Tryz.t60), rfl⟩ (by decide) (zM.cons (by decide) rfl (q3.mono (by decide)) (zM.cons (by decide) rfl (q3.mono (by decide)) (zM.cons (by decide) rfl (q3.mono (by decide)) (zM.nil))))
def i60 : EI := ⟨.struct [(0, 3), (1, 3), (2, 3)], 3, 24, some [.int .i64 0, .int .i64 0, .int .i64 0], true⟩
theorem zc9 : z42 Tryz.prog 60 i60 := ⟨⟨Tryz.t60, by kernel_rfl, rfl, rfl, fun z h => by cases h; exact ⟨_, rfl, rfl, X5 rfl, rfl, ⟨_, rfl⟩⟩⟩, ⟨_, Tryz.underlying60, by kernel_rfl, by
  intro f hf
  simp only [List.mem_cons, List.not_mem_nil, or_false] at hf
  rcases hf with rfl | rfl | rfl
  ·exact ⟨Tryz.t3, by kernel_rfl⟩
  ·exact ⟨Tryz.t3, by kernel_rfl⟩
  ·exact ⟨Tryz.t3, by kernel_rfl⟩⟩, fun _ => k7 q60 rfl rfl (Nat.le_of_ble_eq_true (by kernel_rfl)) (by decide)⟩
theorem q61 : EqP Tryz.prog 61 (Zg [([.int .i64 0], false), ([.int .i64 0], false), ([.int .i64 0], false)]) true 2 := ul Tryz.underlying61 (by kernel_rfl) ⟨_, (by kernel_rfl : Tryz.prog.info? 61 = some Tryz.t61), rfl⟩ (by decide) (zM.cons (by decide) rfl (q3.mono (by decide)) (zM.cons (by decide) rfl (q3.mono (by decide)) (zM.cons (by decide) rfl (q3.mono (by decide)) (zM.nil))))
def i61 : EI := ⟨.struct [(0, 3), (1, 3), (2, 3)], 3, 24, some [.int .i64 0, .int .i64 0, .int .i64 0], true⟩
theorem z8C : z42 Tryz.prog 61 i61 := ⟨⟨Tryz.t61, by kernel_rfl, rfl, rfl, fun z h => by cases h; exact ⟨_, rfl, rfl, X5 rfl, rfl, ⟨_, rfl⟩⟩⟩, ⟨_, Tryz.underlying61, by kernel_rfl, by
  intro f hf
  simp only [List.mem_cons, List.not_mem_nil, or_false] at hf
  rcases hf with rfl | rfl | rfl
  ·exact ⟨Tryz.t3, by kernel_rfl⟩
  ·exact ⟨Tryz.t3, by kernel_rfl⟩
  ·exact ⟨Tryz.t3, by kernel_rfl⟩⟩, fun _ => k7 q61 rfl rfl (Nat.le_of_ble_eq_true (by kernel_rfl)) (by decide)⟩
def i64 : EI := ⟨.slice 5, 1, 24, some [.slice none 0 0], false⟩
theorem q73 : EqP Tryz.prog 73 (z4F 3 [.int .i64 0, .int .i64 0]) true 3 := Jr Tryz.underlying73 q34 ⟨_, (by kernel_rfl : Tryz.prog.info? 73 = some Tryz.t73), rfl⟩
def i73 : EI := ⟨.array 3 34, 6, 48, some [.int .i64 0, .int .i64 0, .int .i64 0, .int .i64 0, .int .i64 0, .int .i64 0], true⟩
theorem zc8 : z42 Tryz.prog 73 i73 := ⟨⟨Tryz.t73, by kernel_rfl, rfl, rfl, fun z h => by cases h; exact ⟨_, rfl, rfl, X5 rfl, rfl, ⟨_, rfl⟩⟩⟩, Tryz.underlying73, fun _ => k7 q73 rfl rfl (Nat.le_of_ble_eq_true (by kernel_rfl)) (by decide)⟩
theorem zhk : EqP Tryz.prog 104 (Zg [([.int .i64 0], false), ([.int .i64 0], false)]) true 2 := ul Tryz.underlying104 (by kernel_rfl) ⟨_, (by kernel_rfl : Tryz.prog.info? 104 = some Tryz.t104), rfl⟩ (by decide) (zM.cons (by decide) rfl (q3.mono (by decide)) (zM.cons (by decide) rfl (q3.mono (by decide)) (zM.nil)))
def zhs : EI := ⟨.struct [(0, 3), (1, 3)], 2, 16, some [.int .i64 0, .int .i64 0], true⟩
theorem zeD : z42 Tryz.prog 104 zhs := ⟨⟨Tryz.t104, by kernel_rfl, rfl, rfl, fun z h => by cases h; exact ⟨_, rfl, rfl, X5 rfl, rfl, ⟨_, rfl⟩⟩⟩, ⟨_, Tryz.underlying104, by kernel_rfl, by
  intro f hf
  simp only [List.mem_cons, List.not_mem_nil, or_false] at hf
  rcases hf with rfl | rfl
  ·exact ⟨Tryz.t3, by kernel_rfl⟩
  ·exact ⟨Tryz.t3, by kernel_rfl⟩⟩, fun _ => k7 zhk rfl rfl (Nat.le_of_ble_eq_true (by kernel_rfl)) (by decide)⟩
theorem zhj : EqP Tryz.prog 105 (Zg [([.int .i64 0], false), ([.int .i64 0], false)]) true 2 := ul Tryz.underlying105 (by kernel_rfl) ⟨_, (by kernel_rfl : Tryz.prog.info? 105 = some Tryz.t105), rfl⟩ (by decide) (zM.cons (by decide) rfl (q3.mono (by decide)) (zM.cons (by decide) rfl (q3.mono (by decide)) (zM.nil)))
def zhr : EI := ⟨.struct [(0, 3), (1, 3)], 2, 16, some [.int .i64 0, .int .i64 0], true⟩
theorem zaj : z42 Tryz.prog 105 zhr := ⟨⟨Tryz.t105, by kernel_rfl, rfl, rfl, fun z h => by cases h; exact ⟨_, rfl, rfl, X5 rfl, rfl, ⟨_, rfl⟩⟩⟩, ⟨_, Tryz.underlying105, by kernel_rfl, by
  intro f hf
  simp only [List.mem_cons, List.not_mem_nil, or_false] at hf
  rcases hf with rfl | rfl
  ·exact ⟨Tryz.t3, by kernel_rfl⟩
  ·exact ⟨Tryz.t3, by kernel_rfl⟩⟩, fun _ => k7 zhj rfl rfl (Nat.le_of_ble_eq_true (by kernel_rfl)) (by decide)⟩
theorem zhi : EqP Tryz.prog 109 (z4F 3 [.int .i64 0]) true 2 := Jr Tryz.underlying109 q3 ⟨_, (by kernel_rfl : Tryz.prog.info? 109 = some Tryz.t109), rfl⟩
def zhq : EI := ⟨.array 3 3, 3, 24, some [.int .i64 0, .int .i64 0, .int .i64 0], true⟩
theorem zai : z42 Tryz.prog 109 zhq := ⟨⟨Tryz.t109, by kernel_rfl, rfl, rfl, fun z h => by cases h; exact ⟨_, rfl, rfl, X5 rfl, rfl, ⟨_, rfl⟩⟩⟩, Tryz.underlying109, fun _ => k7 zhi rfl rfl (Nat.le_of_ble_eq_true (by kernel_rfl)) (by decide)⟩
theorem zhh : EqP Tryz.prog 137 (Zg [([.int .i64 0], false), ([.int .i64 0], false), ([.int .i64 0], false)]) true 2 := ul Tryz.underlying137 (by kernel_rfl) ⟨_, (by kernel_rfl : Tryz.prog.info? 137 = some Tryz.t137), rfl⟩ (by decide) (zM.cons (by decide) rfl (q3.mono (by decide)) (zM.cons (by decide) rfl (q3.mono (by decide)) (zM.cons (by decide) rfl (q3.mono (by decide)) (zM.nil))))
def zhp : EI := ⟨.struct [(0, 3), (1, 3), (2, 3)], 3, 24, some [.int .i64 0, .int .i64 0, .int .i64 0], true⟩
theorem zeC : z42 Tryz.prog 137 zhp := ⟨⟨Tryz.t137, by kernel_rfl, rfl, rfl, fun z h => by cases h; exact ⟨_, rfl, rfl, X5 rfl, rfl, ⟨_, rfl⟩⟩⟩, ⟨_, Tryz.underlying137, by kernel_rfl, by
  intro f hf
  simp only [List.mem_cons, List.not_mem_nil, or_false] at hf
  rcases hf with rfl | rfl | rfl
  ·exact ⟨Tryz.t3, by kernel_rfl⟩
  ·exact ⟨Tryz.t3, by kernel_rfl⟩
  ·exact ⟨Tryz.t3, by kernel_rfl⟩⟩, fun _ => k7 zhh rfl rfl (Nat.le_of_ble_eq_true (by kernel_rfl)) (by decide)⟩
theorem zhg : EqP Tryz.prog 138 (Zg [([.int .i64 0], false), ([.int .i64 0], false), ([.int .i64 0], false)]) true 2 := ul Tryz.underlying138 (by kernel_rfl) ⟨_, (by kernel_rfl : Tryz.prog.info? 138 = some Tryz.t138), rfl⟩ (by decide) (zM.cons (by decide) rfl (q3.mono (by decide)) (zM.cons (by decide) rfl (q3.mono (by decide)) (zM.cons (by decide) rfl (q3.mono (by decide)) (zM.nil))))
def zho : EI := ⟨.struct [(0, 3), (1, 3), (2, 3)], 3, 24, some [.int .i64 0, .int .i64 0, .int .i64 0], true⟩
theorem zah : z42 Tryz.prog 138 zho := ⟨⟨Tryz.t138, by kernel_rfl, rfl, rfl, fun z h => by cases h; exact ⟨_, rfl, rfl, X5 rfl, rfl, ⟨_, rfl⟩⟩⟩, ⟨_, Tryz.underlying138, by kernel_rfl, by
  intro f hf
  simp only [List.mem_cons, List.not_mem_nil, or_false] at hf
  rcases hf with rfl | rfl | rfl
  ·exact ⟨Tryz.t3, by kernel_rfl⟩
  ·exact ⟨Tryz.t3, by kernel_rfl⟩
  ·exact ⟨Tryz.t3, by kernel_rfl⟩⟩, fun _ => k7 zhg rfl rfl (Nat.le_of_ble_eq_true (by kernel_rfl)) (by decide)⟩
end Go.Ex

namespace Go.Own
open Go.Proofs
def zeB : Value → Bool
 | .int _ _ => true
 | _ => false
theorem z1A : ∀ {z vs us : List Value} {r : Bool}, z.all zeB = true → z.length = vs.length → yG vs us = some r → Go.Ex.z0C z vs = true ∧ Go.Ex.yG vs us = some r
 | [], [], us, r, _, _, h => by
  cases us with
  | nil => simp only [yG, Option.some.injEq] at h; subst h; exact ⟨rfl, rfl⟩
  | cons u us => simp [yG] at h
 | a :: z, v :: vs, us, r, hz, hl, h => by
  have q : ∃ k x u' k' y, v = .int k x ∧ us = .int k' y :: u' ∧ k = k' := by
   cases us with
   | nil => cases v <;> simp [yG] at h
   | cons u us =>
    cases v <;> cases u <;> simp [yG] at h
    exact ⟨_, _, _, _, _, rfl, rfl, h.1⟩
  obtain ⟨k, x, u', k', y, rfl, rfl, hk⟩ := q
  simp only [yG, hk, if_true, Option.map_eq_some_iff] at h
  obtain ⟨r', e1, rfl⟩ := h
  simp only [List.all_cons, Bool.and_eq_true] at hz
  obtain ⟨q1, q2⟩ := z1A hz.2 (by simpa using hl) e1
  refine ⟨?_, by simp [Go.Ex.yG, hk, q2]⟩
  cases a <;> first | (simp [zeB] at hz; done) | simpa [Go.Ex.z0C] using q1
 | [], _ :: _, _, _, _, hl, _ => by simp at hl
 | _ :: _, [], _, _, _, hl, _ => by simp at hl
variable {P : Program}
theorem XK {t n : Nat} {i : Go.Ex.EI} (h : Go.Ex.z8P P t i) {z : List Value} (hz : i.zero = some z) (hi : z.all zeB = true) (hs : i.size = n) (hn : z.length = n) : z8P P t n := {
 guard := h.guard
 run := fun vs us r w hv hu he => by
  obtain ⟨q1, q2⟩ := z1A hi (by rw [hn, hv]) he
  exact h.run vs us r w (by rw [hs]; exact hv) (by rw [hs]; exact hu) (by simpa only [Go.Ex.zeH, hz] using q1) q2 }
variable {h : Array Obj}{S : zn}
theorem zk {v : Value} (hv : v.oneCell' = true) : zI S h (.atom v) [v] [] := by simp only [zI, Rep]; exact ⟨⟨trivial, hv⟩, trivial⟩
theorem xe (sz : Nat) : zI S h (.osl sz true []) [.slice none 0 0] [] := by
 simp only [zI]
 exact ⟨none, 0, rfl, (fun _ => rfl), Nat.le_refl _, Nat.zero_le _, by simp, .inl ⟨trivial, rfl, rfl, trivial⟩⟩
variable {a : A}
theorem z5H {c : List Value} (q : zI S h a c []) : ∀ n, zO S h (List.replicate n a) (List.replicate n c).flatten []
 | 0 => by simp [zO]
 | n + 1 => by
  rw [List.replicate_succ, List.replicate_succ, List.flatten_cons]
  simp only [zO]
  exact ⟨c, _, [], [], rfl, rfl, q, z5H q n⟩
theorem zhv {c c' : List Value} (q : zI S h a c []) (e : c' = c) : zI S h a c' [] := e ▸ q
variable {fs : List A}
theorem yU {cs : List Value} (q : zO S h fs cs []) : zI S h (.agg fs) cs [] := by simpa only [zI] using q
theorem yk : zO S h [] [] [] := by simp [zO]
theorem zo {c1 c2 : List Value} (q1 : zI S h a c1 []) (q2 : zO S h fs c2 []) : zO S h (a :: fs) (c1 ++ c2) [] := by simp only [zO]; exact ⟨c1, c2, [], [], rfl, rfl, q1, q2⟩
def ti1 : TI := ⟨.other, 1, 8, some (.atom .nilFunc), false⟩
theorem zb2 : qr Tryz.prog 1 ti1 := ⟨⟨Tryz.t1, by kernel_rfl, rfl, rfl, fun z h => by cases h; exact ⟨_, rfl, rfl, fun S h => zk rfl⟩⟩, ⟨_, Tryz.underlying1, rfl⟩, by intro h; cases h⟩
def ti2 : TI := ⟨.int .i64, 1, 8, some (.atom (.int .i64 0)), false⟩
theorem zb1 : qr Tryz.prog 2 ti2 := ⟨⟨Tryz.t2, by kernel_rfl, rfl, rfl, fun z h => by cases h; exact ⟨_, rfl, rfl, fun S h => zk rfl⟩⟩, Tryz.underlying2, by intro h; cases h⟩
def ti3 : TI := ⟨.int .i64, 1, 8, some (.atom (.int .i64 0)), false⟩
theorem zb0 : qr Tryz.prog 3 ti3 := ⟨⟨Tryz.t3, by kernel_rfl, rfl, rfl, fun z h => by cases h; exact ⟨_, rfl, rfl, fun S h => zk rfl⟩⟩, Tryz.underlying3, by intro h; cases h⟩
def ti4 : TI := ⟨.bool, 1, 1, some (.atom (.bool false)), false⟩
theorem zaZ : qr Tryz.prog 4 ti4 := ⟨⟨Tryz.t4, by kernel_rfl, rfl, rfl, fun z h => by cases h; exact ⟨_, rfl, rfl, fun S h => zk rfl⟩⟩, Tryz.underlying4, by intro h; cases h⟩
def ti5 : TI := ⟨.int .u8, 1, 1, some (.atom (.int .u8 0)), false⟩
theorem zaY : qr Tryz.prog 5 ti5 := ⟨⟨Tryz.t5, by kernel_rfl, rfl, rfl, fun z h => by cases h; exact ⟨_, rfl, rfl, fun S h => zk rfl⟩⟩, Tryz.underlying5, by intro h; cases h⟩
def ti9 : TI := ⟨.str, 1, 16, some (.atom (.string ⟨#[]⟩)), false⟩
theorem zaX : qr Tryz.prog 9 ti9 := ⟨⟨Tryz.t9, by kernel_rfl, rfl, rfl, fun z h => by cases h; exact ⟨_, rfl, rfl, fun S h => zk rfl⟩⟩, Tryz.underlying9, by intro h; cases h⟩
def zgc : TI := ⟨.slice 103, 1, 24, some (.osl 1 true []), false⟩
theorem z9r : qr Tryz.prog 22 zgc := ⟨⟨Tryz.t22, by kernel_rfl, rfl, rfl, fun z h => by cases h; exact ⟨_, rfl, rfl, fun S h => xe _⟩⟩, Tryz.underlying22, by intro h; cases h⟩
def zgb : TI := ⟨.struct [(0, 1), (1, 1), (2, 1), (3, 1), (4, 1)], 5, 32, some (.agg [.atom (.int .u8 0), .atom (.int .u8 0), .atom (.int .u8 0), .atom (.bool false), .osl 1 true []]), false⟩
theorem z9q : qr Tryz.prog 24 zgb := ⟨⟨Tryz.t24, by kernel_rfl, rfl, rfl, fun z h => by cases h; exact ⟨_, rfl, rfl, fun S h => yU (zo (zk rfl) (zo (zk rfl) (zo (zk rfl) (zo (zk rfl) (zo (xe _) (yk))))))⟩⟩, ⟨_, Tryz.underlying24, by kernel_rfl, by
  intro f hf
  simp only [List.mem_cons, List.not_mem_nil, or_false] at hf
  rcases hf with rfl | rfl | rfl | rfl | rfl
  ·exact ⟨Tryz.t5, by kernel_rfl⟩
  ·exact ⟨Tryz.t5, by kernel_rfl⟩
  ·exact ⟨Tryz.t5, by kernel_rfl⟩
  ·exact ⟨Tryz.t4, by kernel_rfl⟩
  ·exact ⟨Tryz.t22, by kernel_rfl⟩⟩, by intro h; cases h⟩
def zga : TI := ⟨.slice 64, 1, 24, some (.osl 1 true []), false⟩
theorem z9p : qr Tryz.prog 25 zga := ⟨⟨Tryz.t25, by kernel_rfl, rfl, rfl, fun z h => by cases h; exact ⟨_, rfl, rfl, fun S h => xe _⟩⟩, Tryz.underlying25, by intro h; cases h⟩
def zg9 : TI := ⟨.struct [(0, 5), (5, 1)], 6, 56, some (.agg [.agg [.atom (.int .u8 0), .atom (.int .u8 0), .atom (.int .u8 0), .atom (.bool false), .osl 1 true []], .osl 1 true []]), false⟩
theorem z9o : qr Tryz.prog 27 zg9 := ⟨⟨Tryz.t27, by kernel_rfl, rfl, rfl, fun z h => by cases h; exact ⟨_, rfl, rfl, fun S h => yU (zo (yU (zo (zk rfl) (zo (zk rfl) (zo (zk rfl) (zo (zk rfl) (zo (xe _) (yk))))))) (zo (xe _) (yk)))⟩⟩, ⟨_, Tryz.underlying27, by kernel_rfl, by
  intro f hf
  simp only [List.mem_cons, List.not_mem_nil, or_false] at hf
  rcases hf with rfl | rfl
  ·exact ⟨Tryz.t24, by kernel_rfl⟩
  ·exact ⟨Tryz.t25, by kernel_rfl⟩⟩, by intro h; cases h⟩
def zg8 : TI := ⟨.slice 102, 1, 24, some (.osl 1 true []), false⟩
theorem z9n : qr Tryz.prog 28 zg8 := ⟨⟨Tryz.t28, by kernel_rfl, rfl, rfl, fun z h => by cases h; exact ⟨_, rfl, rfl, fun S h => xe _⟩⟩, Tryz.underlying28, by intro h; cases h⟩
def zg7 : TI := ⟨.struct [(0, 1), (1, 1), (2, 1)], 3, 40, some (.agg [.atom (.int .i64 0), .atom (.int .i64 0), .osl 1 true []]), false⟩
theorem z9m : qr Tryz.prog 30 zg7 := ⟨⟨Tryz.t30, by kernel_rfl, rfl, rfl, fun z h => by cases h; exact ⟨_, rfl, rfl, fun S h => yU (zo (zk rfl) (zo (zk rfl) (zo (xe _) (yk))))⟩⟩, ⟨_, Tryz.underlying30, by kernel_rfl, by
  intro f hf
  simp only [List.mem_cons, List.not_mem_nil, or_false] at hf
  rcases hf with rfl | rfl | rfl
  ·exact ⟨Tryz.t3, by kernel_rfl⟩
  ·exact ⟨Tryz.t3, by kernel_rfl⟩
  ·exact ⟨Tryz.t28, by kernel_rfl⟩⟩, by intro h; cases h⟩
def zg6 : TI := ⟨.slice 51, 1, 24, some (.osl 1 true []), false⟩
theorem z9l : qr Tryz.prog 31 zg6 := ⟨⟨Tryz.t31, by kernel_rfl, rfl, rfl, fun z h => by cases h; exact ⟨_, rfl, rfl, fun S h => xe _⟩⟩, Tryz.underlying31, by intro h; cases h⟩
def zg5 : TI := ⟨.array 2 3, 2, 16, some (.agg [.atom (.int .i64 0), .atom (.int .i64 0)]), true⟩
theorem z4f : qr Tryz.prog 34 zg5 := ⟨⟨Tryz.t34, by kernel_rfl, rfl, rfl, fun z h => by cases h; exact ⟨_, rfl, rfl, fun S h => yU (zo (zk rfl) (zo (zk rfl) (yk)))⟩⟩, Tryz.underlying34, fun _ => XK (Go.Ex.z8D.eqn rfl) rfl rfl rfl rfl⟩
def zg4 : TI := ⟨.struct [(0, 2), (2, 2), (4, 2)], 6, 48, some (.agg [.agg [.atom (.int .i64 0), .atom (.int .i64 0)], .agg [.atom (.int .i64 0), .atom (.int .i64 0)], .agg [.atom (.int .i64 0), .atom (.int .i64 0)]]), true⟩
theorem z9k : qr Tryz.prog 36 zg4 := ⟨⟨Tryz.t36, by kernel_rfl, rfl, rfl, fun z h => by cases h; exact ⟨_, rfl, rfl, fun S h => yU (zo (yU (zo (zk rfl) (zo (zk rfl) (yk)))) (zo (yU (zo (zk rfl) (zo (zk rfl) (yk)))) (zo (yU (zo (zk rfl) (zo (zk rfl) (yk)))) (yk))))⟩⟩, ⟨_, Tryz.underlying36, by kernel_rfl, by
  intro f hf
  simp only [List.mem_cons, List.not_mem_nil, or_false] at hf
  rcases hf with rfl | rfl | rfl
  ·exact ⟨Tryz.t34, by kernel_rfl⟩
  ·exact ⟨Tryz.t34, by kernel_rfl⟩
  ·exact ⟨Tryz.t34, by kernel_rfl⟩⟩, fun _ => XK (Go.Ex.zca.eqn rfl) rfl rfl rfl rfl⟩
def zg3 : TI := ⟨.int .i64, 1, 8, some (.atom (.int .i64 0)), false⟩
theorem z9j : qr Tryz.prog 37 zg3 := ⟨⟨Tryz.t37, by kernel_rfl, rfl, rfl, fun z h => by cases h; exact ⟨_, rfl, rfl, fun S h => zk rfl⟩⟩, Tryz.underlying37, by intro h; cases h⟩
def zg2 : TI := ⟨.other, 1, 8, some (.atom .nilFunc), false⟩
theorem z9i : qr Tryz.prog 46 zg2 := ⟨⟨Tryz.t46, by kernel_rfl, rfl, rfl, fun z h => by cases h; exact ⟨_, rfl, rfl, fun S h => zk rfl⟩⟩, ⟨_, Tryz.underlying46, rfl⟩, by intro h; cases h⟩
def zg1 : TI := ⟨.slice 60, 1, 24, some (.osl 3 true []), false⟩
theorem z9h : qr Tryz.prog 47 zg1 := ⟨⟨Tryz.t47, by kernel_rfl, rfl, rfl, fun z h => by cases h; exact ⟨_, rfl, rfl, fun S h => xe _⟩⟩, Tryz.underlying47, by intro h; cases h⟩
def zg0 : TI := ⟨.other, 1, 8, some (.atom .nilFunc), false⟩
theorem z9g : qr Tryz.prog 48 zg0 := ⟨⟨Tryz.t48, by kernel_rfl, rfl, rfl, fun z h => by cases h; exact ⟨_, rfl, rfl, fun S h => zk rfl⟩⟩, ⟨_, Tryz.underlying48, rfl⟩, by intro h; cases h⟩
def zfZ : TI := ⟨.slice 34, 1, 24, some (.osl 2 true []), false⟩
theorem z9f : qr Tryz.prog 49 zfZ := ⟨⟨Tryz.t49, by kernel_rfl, rfl, rfl, fun z h => by cases h; exact ⟨_, rfl, rfl, fun S h => xe _⟩⟩, Tryz.underlying49, by intro h; cases h⟩
def zfY : TI := ⟨.slice 3, 1, 24, some (.osl 1 true []), false⟩
theorem z9e : qr Tryz.prog 51 zfY := ⟨⟨Tryz.t51, by kernel_rfl, rfl, rfl, fun z h => by cases h; exact ⟨_, rfl, rfl, fun S h => xe _⟩⟩, Tryz.underlying51, by intro h; cases h⟩
def zfX : TI := ⟨.slice 61, 1, 24, some (.osl 3 true []), false⟩
theorem z9d : qr Tryz.prog 56 zfX := ⟨⟨Tryz.t56, by kernel_rfl, rfl, rfl, fun z h => by cases h; exact ⟨_, rfl, rfl, fun S h => xe _⟩⟩, Tryz.underlying56, by intro h; cases h⟩
def zfW : TI := ⟨.other, 1, 8, some (.atom .nilFunc), false⟩
theorem z9c : qr Tryz.prog 58 zfW := ⟨⟨Tryz.t58, by kernel_rfl, rfl, rfl, fun z h => by cases h; exact ⟨_, rfl, rfl, fun S h => zk rfl⟩⟩, ⟨_, Tryz.underlying58, rfl⟩, by intro h; cases h⟩
def zfV : TI := ⟨.struct [(0, 1), (1, 1), (2, 1)], 3, 24, some (.agg [.atom (.int .i64 0), .atom (.int .i64 0), .atom (.int .i64 0)]), true⟩
theorem z9b : qr Tryz.prog 60 zfV := ⟨⟨Tryz.t60, by kernel_rfl, rfl, rfl, fun z h => by cases h; exact ⟨_, rfl, rfl, fun S h => yU (zo (zk rfl) (zo (zk rfl) (zo (zk rfl) (yk))))⟩⟩, ⟨_, Tryz.underlying60, by kernel_rfl, by
  intro f hf
  simp only [List.mem_cons, List.not_mem_nil, or_false] at hf
  rcases hf with rfl | rfl | rfl
  ·exact ⟨Tryz.t3, by kernel_rfl⟩
  ·exact ⟨Tryz.t3, by kernel_rfl⟩
  ·exact ⟨Tryz.t3, by kernel_rfl⟩⟩, fun _ => XK (Go.Ex.zc9.eqn rfl) rfl rfl rfl rfl⟩
def zfU : TI := ⟨.struct [(0, 1), (1, 1), (2, 1)], 3, 24, some (.agg [.atom (.int .i64 0), .atom (.int .i64 0), .atom (.int .i64 0)]), true⟩
theorem z4e : qr Tryz.prog 61 zfU := ⟨⟨Tryz.t61, by kernel_rfl, rfl, rfl, fun z h => by cases h; exact ⟨_, rfl, rfl, fun S h => yU (zo (zk rfl) (zo (zk rfl) (zo (zk rfl) (yk))))⟩⟩, ⟨_, Tryz.underlying61, by kernel_rfl, by
  intro f hf
  simp only [List.mem_cons, List.not_mem_nil, or_false] at hf
  rcases hf with rfl | rfl | rfl
  ·exact ⟨Tryz.t3, by kernel_rfl⟩
  ·exact ⟨Tryz.t3, by kernel_rfl⟩
  ·exact ⟨Tryz.t3, by kernel_rfl⟩⟩, fun _ => XK (Go.Ex.z8C.eqn rfl) rfl rfl rfl rfl⟩
def zfT : TI := ⟨.slice 5, 1, 24, some (.osl 1 true []), false⟩
theorem z9a : qr Tryz.prog 64 zfT := ⟨⟨Tryz.t64, by kernel_rfl, rfl, rfl, fun z h => by cases h; exact ⟨_, rfl, rfl, fun S h => xe _⟩⟩, Tryz.underlying64, by intro h; cases h⟩
def zfS : TI := ⟨.other, 1, 8, some (.atom (.map none)), false⟩
theorem z99 : qr Tryz.prog 67 zfS := ⟨⟨Tryz.t67, by kernel_rfl, rfl, rfl, fun z h => by cases h; exact ⟨_, rfl, rfl, fun S h => zk rfl⟩⟩, ⟨_, Tryz.underlying67, rfl⟩, by intro h; cases h⟩
def zfR : TI := ⟨.other, 1, 8, some (.atom (.map none)), false⟩
theorem z98 : qr Tryz.prog 68 zfR := ⟨⟨Tryz.t68, by kernel_rfl, rfl, rfl, fun z h => by cases h; exact ⟨_, rfl, rfl, fun S h => zk rfl⟩⟩, ⟨_, Tryz.underlying68, rfl⟩, by intro h; cases h⟩
def zfQ : TI := ⟨.other, 1, 8, some (.atom (.map none)), false⟩
theorem z97 : qr Tryz.prog 69 zfQ := ⟨⟨Tryz.t69, by kernel_rfl, rfl, rfl, fun z h => by cases h; exact ⟨_, rfl, rfl, fun S h => zk rfl⟩⟩, ⟨_, Tryz.underlying69, rfl⟩, by intro h; cases h⟩
def zfP : TI := ⟨.struct [(0, 1), (1, 1), (2, 1)], 3, 24, some (.agg [.atom (.map none), .atom (.map none), .atom (.map none)]), false⟩
theorem z96 : qr Tryz.prog 71 zfP := ⟨⟨Tryz.t71, by kernel_rfl, rfl, rfl, fun z h => by cases h; exact ⟨_, rfl, rfl, fun S h => yU (zo (zk rfl) (zo (zk rfl) (zo (zk rfl) (yk))))⟩⟩, ⟨_, Tryz.underlying71, by kernel_rfl, by
  intro f hf
  simp only [List.mem_cons, List.not_mem_nil, or_false] at hf
  rcases hf with rfl | rfl | rfl
  ·exact ⟨Tryz.t67, by kernel_rfl⟩
  ·exact ⟨Tryz.t68, by kernel_rfl⟩
  ·exact ⟨Tryz.t69, by kernel_rfl⟩⟩, by intro h; cases h⟩
def zfO : TI := ⟨.array 3 34, 6, 48, some (.agg [.agg [.atom (.int .i64 0), .atom (.int .i64 0)], .agg [.atom (.int .i64 0), .atom (.int .i64 0)], .agg [.atom (.int .i64 0), .atom (.int .i64 0)]]), true⟩
theorem z95 : qr Tryz.prog 73 zfO := ⟨⟨Tryz.t73, by kernel_rfl, rfl, rfl, fun z h => by cases h; exact ⟨_, rfl, rfl, fun S h => yU (zo (yU (zo (zk rfl) (zo (zk rfl) (yk)))) (zo (yU (zo (zk rfl) (zo (zk rfl) (yk)))) (zo (yU (zo (zk rfl) (zo (zk rfl) (yk)))) (yk))))⟩⟩, Tryz.underlying73, fun _ => XK (Go.Ex.zc8.eqn rfl) rfl rfl rfl rfl⟩
def zfN : TI := ⟨.slice 82, 1, 24, some (.osl 5 true []), false⟩
theorem z94 : qr Tryz.prog 75 zfN := ⟨⟨Tryz.t75, by kernel_rfl, rfl, rfl, fun z h => by cases h; exact ⟨_, rfl, rfl, fun S h => xe _⟩⟩, Tryz.underlying75, by intro h; cases h⟩
def zfM : TI := ⟨.other, 1, 8, some (.atom .nilFunc), false⟩
theorem z93 : qr Tryz.prog 78 zfM := ⟨⟨Tryz.t78, by kernel_rfl, rfl, rfl, fun z h => by cases h; exact ⟨_, rfl, rfl, fun S h => zk rfl⟩⟩, ⟨_, Tryz.underlying78, rfl⟩, by intro h; cases h⟩
def zfL : TI := ⟨.other, 1, 8, some (.atom .nilFunc), false⟩
theorem z92 : qr Tryz.prog 80 zfL := ⟨⟨Tryz.t80, by kernel_rfl, rfl, rfl, fun z h => by cases h; exact ⟨_, rfl, rfl, fun S h => zk rfl⟩⟩, ⟨_, Tryz.underlying80, rfl⟩, by intro h; cases h⟩
def zfK : TI := ⟨.struct [(0, 1), (1, 3), (4, 1)], 5, 56, some (.agg [.osl 1 true [], .agg [.atom (.int .i64 0), .atom (.int .i64 0), .atom (.int .i64 0)], .atom .nilFunc]), false⟩
theorem z91 : qr Tryz.prog 82 zfK := ⟨⟨Tryz.t82, by kernel_rfl, rfl, rfl, fun z h => by cases h; exact ⟨_, rfl, rfl, fun S h => yU (zo (xe _) (zo (yU (zo (zk rfl) (zo (zk rfl) (zo (zk rfl) (yk))))) (zo (zk rfl) (yk))))⟩⟩, ⟨_, Tryz.underlying82, by kernel_rfl, by
  intro f hf
  simp only [List.mem_cons, List.not_mem_nil, or_false] at hf
  rcases hf with rfl | rfl | rfl
  ·exact ⟨Tryz.t51, by kernel_rfl⟩
  ·exact ⟨Tryz.t61, by kernel_rfl⟩
  ·exact ⟨Tryz.t80, by kernel_rfl⟩⟩, by intro h; cases h⟩
def zfJ : TI := ⟨.other, 1, 8, some (.atom .nilFunc), false⟩
theorem z90 : qr Tryz.prog 85 zfJ := ⟨⟨Tryz.t85, by kernel_rfl, rfl, rfl, fun z h => by cases h; exact ⟨_, rfl, rfl, fun S h => zk rfl⟩⟩, ⟨_, Tryz.underlying85, rfl⟩, by intro h; cases h⟩
def zfI : TI := ⟨.slice 4, 1, 24, some (.osl 1 true []), false⟩
theorem z8Z : qr Tryz.prog 86 zfI := ⟨⟨Tryz.t86, by kernel_rfl, rfl, rfl, fun z h => by cases h; exact ⟨_, rfl, rfl, fun S h => xe _⟩⟩, Tryz.underlying86, by intro h; cases h⟩
def zfH : TI := ⟨.ptr 95, 1, 8, some (.atom (.pointer none)), false⟩
theorem z8Y : qr Tryz.prog 90 zfH := ⟨⟨Tryz.t90, by kernel_rfl, rfl, rfl, fun z h => by cases h; exact ⟨_, rfl, rfl, fun S h => zk rfl⟩⟩, Tryz.underlying90, by intro h; cases h⟩
def zfG : TI := ⟨.slice 117, 1, 24, some (.osl 1 true []), false⟩
theorem z8X : qr Tryz.prog 91 zfG := ⟨⟨Tryz.t91, by kernel_rfl, rfl, rfl, fun z h => by cases h; exact ⟨_, rfl, rfl, fun S h => xe _⟩⟩, Tryz.underlying91, by intro h; cases h⟩
def zfF : TI := ⟨.slice 91, 1, 24, some (.osl 1 true []), false⟩
theorem z8W : qr Tryz.prog 93 zfF := ⟨⟨Tryz.t93, by kernel_rfl, rfl, rfl, fun z h => by cases h; exact ⟨_, rfl, rfl, fun S h => xe _⟩⟩, Tryz.underlying93, by intro h; cases h⟩
def zfE : TI := ⟨.struct [(0, 1), (1, 1)], 2, 48, some (.agg [.osl 1 true [], .osl 1 true []]), false⟩
theorem z8V : qr Tryz.prog 95 zfE := ⟨⟨Tryz.t95, by kernel_rfl, rfl, rfl, fun z h => by cases h; exact ⟨_, rfl, rfl, fun S h => yU (zo (xe _) (zo (xe _) (yk)))⟩⟩, ⟨_, Tryz.underlying95, by kernel_rfl, by
  intro f hf
  simp only [List.mem_cons, List.not_mem_nil, or_false] at hf
  rcases hf with rfl | rfl
  ·exact ⟨Tryz.t93, by kernel_rfl⟩
  ·exact ⟨Tryz.t91, by kernel_rfl⟩⟩, by intro h; cases h⟩
def zbh : TI := ⟨.slice 105, 1, 24, some (.osl 2 true []), false⟩
theorem z6D : qr Tryz.prog 102 zbh := ⟨⟨Tryz.t102, by kernel_rfl, rfl, rfl, fun z h => by cases h; exact ⟨_, rfl, rfl, fun S h => xe _⟩⟩, Tryz.underlying102, by intro h; cases h⟩
def zbg : TI := ⟨.int .u16, 1, 2, some (.atom (.int .u16 0)), false⟩
theorem z6C : qr Tryz.prog 103 zbg := ⟨⟨Tryz.t103, by kernel_rfl, rfl, rfl, fun z h => by cases h; exact ⟨_, rfl, rfl, fun S h => zk rfl⟩⟩, Tryz.underlying103, by intro h; cases h⟩
def zbf : TI := ⟨.struct [(0, 1), (1, 1)], 2, 16, some (.agg [.atom (.int .i64 0), .atom (.int .i64 0)]), true⟩
theorem z6B : qr Tryz.prog 105 zbf := ⟨⟨Tryz.t105, by kernel_rfl, rfl, rfl, fun z h => by cases h; exact ⟨_, rfl, rfl, fun S h => yU (zo (zk rfl) (zo (zk rfl) (yk)))⟩⟩, ⟨_, Tryz.underlying105, by kernel_rfl, by
  intro f hf
  simp only [List.mem_cons, List.not_mem_nil, or_false] at hf
  rcases hf with rfl | rfl
  ·exact ⟨Tryz.t3, by kernel_rfl⟩
  ·exact ⟨Tryz.t3, by kernel_rfl⟩⟩, fun _ => XK (Go.Ex.zaj.eqn rfl) rfl rfl rfl rfl⟩
def zbe : TI := ⟨.array 3 3, 3, 24, some (.agg [.atom (.int .i64 0), .atom (.int .i64 0), .atom (.int .i64 0)]), true⟩
theorem z6A : qr Tryz.prog 109 zbe := ⟨⟨Tryz.t109, by kernel_rfl, rfl, rfl, fun z h => by cases h; exact ⟨_, rfl, rfl, fun S h => yU (zo (zk rfl) (zo (zk rfl) (zo (zk rfl) (yk))))⟩⟩, Tryz.underlying109, fun _ => XK (Go.Ex.zai.eqn rfl) rfl rfl rfl rfl⟩
def zbd : TI := ⟨.array 3 9, 3, 48, some (.agg [.atom (.string ⟨#[]⟩), .atom (.string ⟨#[]⟩), .atom (.string ⟨#[]⟩)]), false⟩
theorem z6z : qr Tryz.prog 112 zbd := ⟨⟨Tryz.t112, by kernel_rfl, rfl, rfl, fun z h => by cases h; exact ⟨_, rfl, rfl, fun S h => yU (zo (zk rfl) (zo (zk rfl) (zo (zk rfl) (yk))))⟩⟩, Tryz.underlying112, by intro h; cases h⟩
def zbc : TI := ⟨.int .u64, 1, 8, some (.atom (.int .u64 0)), false⟩
theorem z6y : qr Tryz.prog 117 zbc := ⟨⟨Tryz.t117, by kernel_rfl, rfl, rfl, fun z h => by cases h; exact ⟨_, rfl, rfl, fun S h => zk rfl⟩⟩, Tryz.underlying117, by intro h; cases h⟩
def zbb : TI := ⟨.other, 1, 8, some (.atom .nilFunc), false⟩
theorem z6x : qr Tryz.prog 123 zbb := ⟨⟨Tryz.t123, by kernel_rfl, rfl, rfl, fun z h => by cases h; exact ⟨_, rfl, rfl, fun S h => zk rfl⟩⟩, ⟨_, Tryz.underlying123, rfl⟩, by intro h; cases h⟩
def zba : TI := ⟨.other, 1, 8, some (.atom .nilFunc), false⟩
theorem z6w : qr Tryz.prog 129 zba := ⟨⟨Tryz.t129, by kernel_rfl, rfl, rfl, fun z h => by cases h; exact ⟨_, rfl, rfl, fun S h => zk rfl⟩⟩, ⟨_, Tryz.underlying129, rfl⟩, by intro h; cases h⟩
def zb9 : TI := ⟨.other, 1, 8, some (.atom .nilFunc), false⟩
theorem z6v : qr Tryz.prog 134 zb9 := ⟨⟨Tryz.t134, by kernel_rfl, rfl, rfl, fun z h => by cases h; exact ⟨_, rfl, rfl, fun S h => zk rfl⟩⟩, ⟨_, Tryz.underlying134, rfl⟩, by intro h; cases h⟩
def zb8 : TI := ⟨.other, 1, 8, some (.atom .nilFunc), false⟩
theorem z6u : qr Tryz.prog 135 zb8 := ⟨⟨Tryz.t135, by kernel_rfl, rfl, rfl, fun z h => by cases h; exact ⟨_, rfl, rfl, fun S h => zk rfl⟩⟩, ⟨_, Tryz.underlying135, rfl⟩, by intro h; cases h⟩
def zb7 : TI := ⟨.struct [(0, 1), (1, 1), (2, 1)], 3, 24, some (.agg [.atom (.int .i64 0), .atom (.int .i64 0), .atom (.int .i64 0)]), true⟩
theorem z6t : qr Tryz.prog 138 zb7 := ⟨⟨Tryz.t138, by kernel_rfl, rfl, rfl, fun z h => by cases h; exact ⟨_, rfl, rfl, fun S h => yU (zo (zk rfl) (zo (zk rfl) (zo (zk rfl) (yk))))⟩⟩, ⟨_, Tryz.underlying138, by kernel_rfl, by
  intro f hf
  simp only [List.mem_cons, List.not_mem_nil, or_false] at hf
  rcases hf with rfl | rfl | rfl
  ·exact ⟨Tryz.t3, by kernel_rfl⟩
  ·exact ⟨Tryz.t3, by kernel_rfl⟩
  ·exact ⟨Tryz.t3, by kernel_rfl⟩⟩, fun _ => XK (Go.Ex.zah.eqn rfl) rfl rfl rfl rfl⟩
def zb6 : TI := ⟨.other, 1, 8, some (.atom .nilFunc), false⟩
theorem z6s : qr Tryz.prog 141 zb6 := ⟨⟨Tryz.t141, by kernel_rfl, rfl, rfl, fun z h => by cases h; exact ⟨_, rfl, rfl, fun S h => zk rfl⟩⟩, ⟨_, Tryz.underlying141, rfl⟩, by intro h; cases h⟩
def zb5 : TI := ⟨.other, 1, 8, some (.atom .nilFunc), false⟩
theorem z6r : qr Tryz.prog 148 zb5 := ⟨⟨Tryz.t148, by kernel_rfl, rfl, rfl, fun z h => by cases h; exact ⟨_, rfl, rfl, fun S h => zk rfl⟩⟩, ⟨_, Tryz.underlying148, rfl⟩, by intro h; cases h⟩
def zb4 : TI := ⟨.slice 138, 1, 24, some (.osl 3 true []), false⟩
theorem z6q : qr Tryz.prog 149 zb4 := ⟨⟨Tryz.t149, by kernel_rfl, rfl, rfl, fun z h => by cases h; exact ⟨_, rfl, rfl, fun S h => xe _⟩⟩, Tryz.underlying149, by intro h; cases h⟩
def zb3 : TI := ⟨.array 24 5, 24, 24, some (.agg [.atom (.int .u8 0), .atom (.int .u8 0), .atom (.int .u8 0), .atom (.int .u8 0), .atom (.int .u8 0), .atom (.int .u8 0), .atom (.int .u8 0), .atom (.int .u8 0), .atom (.int .u8 0), .atom (.int .u8 0), .atom (.int .u8 0), .atom (.int .u8 0), .atom (.int .u8 0), .atom (.int .u8 0), .atom (.int .u8 0), .atom (.int .u8 0), .atom (.int .u8 0), .atom (.int .u8 0), .atom (.int .u8 0), .atom (.int .u8 0), .atom (.int .u8 0), .atom (.int .u8 0), .atom (.int .u8 0), .atom (.int .u8 0)]), false⟩
theorem z6p : qr Tryz.prog 150 zb3 := ⟨⟨Tryz.t150, by kernel_rfl, rfl, rfl, fun z h => by cases h; exact ⟨_, rfl, rfl, fun S h => yU (zo (zk rfl) (zo (zk rfl) (zo (zk rfl) (zo (zk rfl) (zo (zk rfl) (zo (zk rfl) (zo (zk rfl) (zo (zk rfl) (zo (zk rfl) (zo (zk rfl) (zo (zk rfl) (zo (zk rfl) (zo (zk rfl) (zo (zk rfl) (zo (zk rfl) (zo (zk rfl) (zo (zk rfl) (zo (zk rfl) (zo (zk rfl) (zo (zk rfl) (zo (zk rfl) (zo (zk rfl) (zo (zk rfl) (zo (zk rfl) (yk)))))))))))))))))))))))))⟩⟩, Tryz.underlying150, by intro h; cases h⟩
def tiL : List (Nat × TI) := [(1, ti1), (2, ti2), (3, ti3), (4, ti4), (5, ti5), (9, ti9), (22, zgc), (24, zgb), (25, zga), (27, zg9), (28, zg8), (30, zg7), (31, zg6), (34, zg5), (36, zg4), (37, zg3), (46, zg2), (47, zg1), (48, zg0), (49, zfZ), (51, zfY), (56, zfX), (58, zfW), (60, zfV), (61, zfU), (64, zfT), (67, zfS), (68, zfR), (69, zfQ), (71, zfP), (73, zfO), (75, zfN), (78, zfM), (80, zfL), (82, zfK), (85, zfJ), (86, zfI), (90, zfH), (91, zfG), (93, zfF), (95, zfE), (102, zbh), (103, zbg), (105, zbf), (109, zbe), (112, zbd), (117, zbc), (123, zbb), (129, zba), (134, zb9), (135, zb8), (138, zb7), (141, zb6), (148, zb5), (149, zb4), (150, zb3)]
def xX : TT := fun t => (tiL.find? fun p => p.1 == t).map (·.2)
def z6e (P : Program) : List (Nat × TI) → Prop
 | [] => True
 | p :: l => qr P p.1 p.2 ∧ z6e P l
theorem z6e.mem : ∀ {l : List (Nat × TI)}, z6e P l → ∀ p ∈ l, qr P p.1 p.2
 | p :: _, h, q, hq => by
  rcases List.mem_cons.1 hq with rfl | hq
  ·exact h.1
  ·exact z6e.mem h.2 q hq
 | [], _, _, hq => by cases hq
theorem zaW : z6e Tryz.prog tiL := ⟨zb2, zb1, zb0, zaZ, zaY, zaX, z9r, z9q, z9p, z9o, z9n, z9m, z9l, z4f, z9k, z9j, z9i, z9h, z9g, z9f, z9e, z9d, z9c, z9b, z4e, z9a, z99, z98, z97, z96, z95, z94, z93, z92, z91, z90, z8Z, z8Y, z8X, z8W, z8V, z6D, z6C, z6B, z6A, z6z, z6y, z6x, z6w, z6v, z6u, z6t, z6s, z6r, z6q, z6p, trivial⟩
theorem zB : xu Tryz.prog xX := by
 intro t i h
 unfold xX at h
 rw [Option.map_eq_some_iff] at h
 obtain ⟨p, h1, rfl⟩ := h
 have h2 := List.find?_some h1
 have h3 := zaW.mem p (List.mem_of_find?_eq_some h1)
 rw [beq_iff_eq.1 h2] at h3
 exact h3
theorem zhB : xX 1 = some ⟨.other, 1, 8, some (.atom .nilFunc), false⟩ := rfl
theorem zhA : xX 2 = some ⟨.int .i64, 1, 8, some (.atom (.int .i64 0)), false⟩ := rfl
theorem zhz : xX 3 = some ⟨.int .i64, 1, 8, some (.atom (.int .i64 0)), false⟩ := rfl
theorem zhy : xX 4 = some ⟨.bool, 1, 1, some (.atom (.bool false)), false⟩ := rfl
theorem zhx : xX 5 = some ⟨.int .u8, 1, 1, some (.atom (.int .u8 0)), false⟩ := rfl
theorem zhw : xX 9 = some ⟨.str, 1, 16, some (.atom (.string ⟨#[]⟩)), false⟩ := rfl
theorem zfm : xX 22 = some ⟨.slice 103, 1, 24, some (.osl 1 true []), false⟩ := rfl
theorem zfl : xX 24 = some ⟨.struct [(0, 1), (1, 1), (2, 1), (3, 1), (4, 1)], 5, 32, some (.agg [.atom (.int .u8 0), .atom (.int .u8 0), .atom (.int .u8 0), .atom (.bool false), .osl 1 true []]), false⟩ := rfl
theorem zfk : xX 25 = some ⟨.slice 64, 1, 24, some (.osl 1 true []), false⟩ := rfl
theorem zfj : xX 27 = some ⟨.struct [(0, 5), (5, 1)], 6, 56, some (.agg [.agg [.atom (.int .u8 0), .atom (.int .u8 0), .atom (.int .u8 0), .atom (.bool false), .osl 1 true []], .osl 1 true []]), false⟩ := rfl
theorem zfi : xX 28 = some ⟨.slice 102, 1, 24, some (.osl 1 true []), false⟩ := rfl
theorem zfh : xX 30 = some ⟨.struct [(0, 1), (1, 1), (2, 1)], 3, 40, some (.agg [.atom (.int .i64 0), .atom (.int .i64 0), .osl 1 true []]), false⟩ := rfl
theorem zfg : xX 31 = some ⟨.slice 51, 1, 24, some (.osl 1 true []), false⟩ := rfl
theorem zff : xX 34 = some ⟨.array 2 3, 2, 16, some (.agg [.atom (.int .i64 0), .atom (.int .i64 0)]), true⟩ := rfl
theorem zfe : xX 36 = some ⟨.struct [(0, 2), (2, 2), (4, 2)], 6, 48, some (.agg [.agg [.atom (.int .i64 0), .atom (.int .i64 0)], .agg [.atom (.int .i64 0), .atom (.int .i64 0)], .agg [.atom (.int .i64 0), .atom (.int .i64 0)]]), true⟩ := rfl
theorem zfd : xX 37 = some ⟨.int .i64, 1, 8, some (.atom (.int .i64 0)), false⟩ := rfl
theorem zfc : xX 46 = some ⟨.other, 1, 8, some (.atom .nilFunc), false⟩ := rfl
theorem zfb : xX 47 = some ⟨.slice 60, 1, 24, some (.osl 3 true []), false⟩ := rfl
theorem zfa : xX 48 = some ⟨.other, 1, 8, some (.atom .nilFunc), false⟩ := rfl
theorem zf9 : xX 49 = some ⟨.slice 34, 1, 24, some (.osl 2 true []), false⟩ := rfl
theorem zf8 : xX 51 = some ⟨.slice 3, 1, 24, some (.osl 1 true []), false⟩ := rfl
theorem zf7 : xX 56 = some ⟨.slice 61, 1, 24, some (.osl 3 true []), false⟩ := rfl
theorem zf6 : xX 58 = some ⟨.other, 1, 8, some (.atom .nilFunc), false⟩ := rfl
theorem zf5 : xX 60 = some ⟨.struct [(0, 1), (1, 1), (2, 1)], 3, 24, some (.agg [.atom (.int .i64 0), .atom (.int .i64 0), .atom (.int .i64 0)]), true⟩ := rfl
theorem zf4 : xX 61 = some ⟨.struct [(0, 1), (1, 1), (2, 1)], 3, 24, some (.agg [.atom (.int .i64 0), .atom (.int .i64 0), .atom (.int .i64 0)]), true⟩ := rfl
theorem zf3 : xX 64 = some ⟨.slice 5, 1, 24, some (.osl 1 true []), false⟩ := rfl
theorem zf2 : xX 67 = some ⟨.other, 1, 8, some (.atom (.map none)), false⟩ := rfl
theorem zf1 : xX 68 = some ⟨.other, 1, 8, some (.atom (.map none)), false⟩ := rfl
theorem zf0 : xX 69 = some ⟨.other, 1, 8, some (.atom (.map none)), false⟩ := rfl
theorem zeZ : xX 71 = some ⟨.struct [(0, 1), (1, 1), (2, 1)], 3, 24, some (.agg [.atom (.map none), .atom (.map none), .atom (.map none)]), false⟩ := rfl
theorem zeY : xX 73 = some ⟨.array 3 34, 6, 48, some (.agg [.agg [.atom (.int .i64 0), .atom (.int .i64 0)], .agg [.atom (.int .i64 0), .atom (.int .i64 0)], .agg [.atom (.int .i64 0), .atom (.int .i64 0)]]), true⟩ := rfl
theorem zeX : xX 75 = some ⟨.slice 82, 1, 24, some (.osl 5 true []), false⟩ := rfl
theorem zeW : xX 78 = some ⟨.other, 1, 8, some (.atom .nilFunc), false⟩ := rfl
theorem zeV : xX 80 = some ⟨.other, 1, 8, some (.atom .nilFunc), false⟩ := rfl
theorem zeU : xX 82 = some ⟨.struct [(0, 1), (1, 3), (4, 1)], 5, 56, some (.agg [.osl 1 true [], .agg [.atom (.int .i64 0), .atom (.int .i64 0), .atom (.int .i64 0)], .atom .nilFunc]), false⟩ := rfl
theorem zeT : xX 85 = some ⟨.other, 1, 8, some (.atom .nilFunc), false⟩ := rfl
theorem zeS : xX 86 = some ⟨.slice 4, 1, 24, some (.osl 1 true []), false⟩ := rfl
theorem zeR : xX 90 = some ⟨.ptr 95, 1, 8, some (.atom (.pointer none)), false⟩ := rfl
theorem zeQ : xX 91 = some ⟨.slice 117, 1, 24, some (.osl 1 true []), false⟩ := rfl
theorem zeP : xX 93 = some ⟨.slice 91, 1, 24, some (.osl 1 true []), false⟩ := rfl
theorem zeO : xX 95 = some ⟨.struct [(0, 1), (1, 1)], 2, 48, some (.agg [.osl 1 true [], .osl 1 true []]), false⟩ := rfl
theorem zcM : xX 102 = some ⟨.slice 105, 1, 24, some (.osl 2 true []), false⟩ := rfl
theorem zcL : xX 103 = some ⟨.int .u16, 1, 2, some (.atom (.int .u16 0)), false⟩ := rfl
theorem zcK : xX 105 = some ⟨.struct [(0, 1), (1, 1)], 2, 16, some (.agg [.atom (.int .i64 0), .atom (.int .i64 0)]), true⟩ := rfl
theorem zcJ : xX 109 = some ⟨.array 3 3, 3, 24, some (.agg [.atom (.int .i64 0), .atom (.int .i64 0), .atom (.int .i64 0)]), true⟩ := rfl
theorem zcI : xX 112 = some ⟨.array 3 9, 3, 48, some (.agg [.atom (.string ⟨#[]⟩), .atom (.string ⟨#[]⟩), .atom (.string ⟨#[]⟩)]), false⟩ := rfl
theorem zcH : xX 117 = some ⟨.int .u64, 1, 8, some (.atom (.int .u64 0)), false⟩ := rfl
theorem zcG : xX 123 = some ⟨.other, 1, 8, some (.atom .nilFunc), false⟩ := rfl
theorem zcF : xX 129 = some ⟨.other, 1, 8, some (.atom .nilFunc), false⟩ := rfl
theorem zcE : xX 134 = some ⟨.other, 1, 8, some (.atom .nilFunc), false⟩ := rfl
theorem zcD : xX 135 = some ⟨.other, 1, 8, some (.atom .nilFunc), false⟩ := rfl
theorem zcC : xX 138 = some ⟨.struct [(0, 1), (1, 1), (2, 1)], 3, 24, some (.agg [.atom (.int .i64 0), .atom (.int .i64 0), .atom (.int .i64 0)]), true⟩ := rfl
theorem zcB : xX 141 = some ⟨.other, 1, 8, some (.atom .nilFunc), false⟩ := rfl
theorem zcA : xX 148 = some ⟨.other, 1, 8, some (.atom .nilFunc), false⟩ := rfl
theorem zcz : xX 149 = some ⟨.slice 138, 1, 24, some (.osl 3 true []), false⟩ := rfl
theorem zcy : xX 150 = some ⟨.array 24 5, 24, 24, some (.agg [.atom (.int .u8 0), .atom (.int .u8 0), .atom (.int .u8 0), .atom (.int .u8 0), .atom (.int .u8 0), .atom (.int .u8 0), .atom (.int .u8 0), .atom (.int .u8 0), .atom (.int .u8 0), .atom (.int .u8 0), .atom (.int .u8 0), .atom (.int .u8 0), .atom (.int .u8 0), .atom (.int .u8 0), .atom (.int .u8 0), .atom (.int .u8 0), .atom (.int .u8 0), .atom (.int .u8 0), .atom (.int .u8 0), .atom (.int .u8 0), .atom (.int .u8 0), .atom (.int .u8 0), .atom (.int .u8 0), .atom (.int .u8 0)]), false⟩ := rfl
attribute [go_sem] zhB zhA zhz zhy zhx zhw zfm zfl zfk zfj zfi zfh zfg zff zfe zfd zfc zfb zfa zf9 zf8 zf7 zf6 zf5 zf4 zf3 zf2 zf1 zf0 zeZ zeY zeX zeW zeV zeU zeT zeS zeR zeQ zeP zeO zcM zcL zcK zcJ zcI zcH zcG zcF zcE zcD zcC zcB zcA zcz zcy
structure yp (α : Type) where
 e0 : α
 e1 : α
 deriving DecidableEq
instance {α : Type} [BEq α] : BEq (yp α) := ⟨fun x y => (x.e0 == y.e0) && (x.e1 == y.e1)⟩
section
variable {α : Type}
def Vf (f : α → A) (x : yp α) : A := .agg [f x.e0, f x.e1]
instance (f : α → A) [h : WY f] : WY (Vf f) := ⟨fun x => by simp [Vf, A.isD, A.areD, h.isD]⟩
instance (f g : α → A) [h : ZC f g] : ZC (Vf f) (Vf g) := ⟨fun x => by simp [Vf, A.loose, A.looses, h.lo]⟩
instance (f g : α → A) [h : K8 f g] : K8 (Vf f) (Vf g) := ⟨fun x => by simp [Vf, A.live, A.lives, h.live], fun x => by simp [Vf, A.shut, A.shuts, h.sh]⟩
instance (f : α → A) [h : uS f] : uS (Vf f) := ⟨fun x y q => by
 simp only [Vf, A.agg.injEq, List.cons.injEq, and_true] at q
 cases x; cases y
 simp only [yp.mk.injEq]
 exact ⟨h.inj _ _ q.1, h.inj _ _ q.2⟩⟩
end
structure ua (α : Type) where
 e0 : α
 e1 : α
 e2 : α
 deriving DecidableEq
section
variable {α : Type}
def zeJ (f : α → A) (x : ua α) : A := .agg [f x.e0, f x.e1, f x.e2]
end
section
variable {α : Type}
def ua.toL (x : ua α) : List α := [x.e0, x.e1, x.e2]
def ua.ofL : List α → ua α → ua α
 | [x0, x1, x2], _ => ⟨x0, x1, x2⟩
 | _, d => d
theorem ua.toL_ofL (l : List α) (d : ua α) (h : l.length = 3) : (ua.ofL l d).toL = l := by
 match l, h with
 | [x0, x1, x2], _ => rfl
def ua.setI (x : ua α) (i : Int) (v : α) : ua α := ua.ofL (x.toL.set i.toNat v) x
theorem ua.setL (f : α → A) (x : ua α) (i : Int) (v : α) : (x.toL.map f).set i.toNat (f v) = ((ua.setI x i v).toL).map f := by
 unfold ua.setI
 rw [ua.toL_ofL _ _ (by simp [ua.toL]), List.map_set]
end
structure z8 where
 State : Int
 Input : Int
 Next : Int
instance : BEq z8 := ⟨fun x y => (x.State == y.State) && (x.Input == y.Input) && (x.Next == y.Next)⟩
def zY (f0 : Int → A) (f1 : Int → A) (f2 : Int → A) (x : z8) : A := .agg [f0 x.State, f1 x.Input, f2 x.Next]
instance (f0 : Int → A) (f1 : Int → A) (f2 : Int → A) [h0 : WY f0] [h1 : WY f1] [h2 : WY f2] : WY (zY f0 f1 f2) := ⟨fun x => by simp [zY, A.isD, A.areD, h0.isD, h1.isD, h2.isD]⟩
instance (f0 : Int → A) (f1 : Int → A) (f2 : Int → A) (g0 : Int → A) (g1 : Int → A) (g2 : Int → A) [h0 : ZC f0 g0] [h1 : ZC f1 g1] [h2 : ZC f2 g2] : ZC (zY f0 f1 f2) (zY g0 g1 g2) := ⟨fun x => by simp [zY, A.loose, A.looses, h0.lo, h1.lo, h2.lo]⟩
instance (f0 : Int → A) (f1 : Int → A) (f2 : Int → A) (g0 : Int → A) (g1 : Int → A) (g2 : Int → A) [h0 : K8 f0 g0] [h1 : K8 f1 g1] [h2 : K8 f2 g2] : K8 (zY f0 f1 f2) (zY g0 g1 g2) := ⟨fun x => by simp [zY, A.live, A.lives, h0.live, h1.live, h2.live], fun x => by simp [zY, A.shut, A.shuts, h0.sh, h1.sh, h2.sh]⟩
instance (f0 : Int → A) (f1 : Int → A) (f2 : Int → A) [h0 : uS f0] [h1 : uS f1] [h2 : uS f2] : uS (zY f0 f1 f2) := ⟨fun x y h => by
 simp only [zY, A.agg.injEq, List.cons.injEq, and_true] at h
 cases x; cases y
 simp only [z8.mk.injEq]
 exact ⟨h0.inj _ _ h.1, h1.inj _ _ h.2.1, h2.inj _ _ h.2.2⟩⟩
structure ye where
 States : Int
 Inputs : Int
 Outputs : Int
 Partial : Bool
 Edges : List Int
def uF (f0 : Int → A) (f1 : Int → A) (f2 : Int → A) (f3 : Bool → A) (f4 : List Int → A) (x : ye) : A := .agg [f0 x.States, f1 x.Inputs, f2 x.Outputs, f3 x.Partial, f4 x.Edges]
instance (f0 : Int → A) (f1 : Int → A) (f2 : Int → A) (f3 : Bool → A) (f4 : List Int → A) (g0 : Int → A) (g1 : Int → A) (g2 : Int → A) (g3 : Bool → A) (g4 : List Int → A) [h0 : ZC f0 g0] [h1 : ZC f1 g1] [h2 : ZC f2 g2] [h3 : ZC f3 g3] [h4 : ZC f4 g4] : ZC (uF f0 f1 f2 f3 f4) (uF g0 g1 g2 g3 g4) := ⟨fun x => by simp [uF, A.loose, A.looses, h0.lo, h1.lo, h2.lo, h3.lo, h4.lo]⟩
instance (f0 : Int → A) (f1 : Int → A) (f2 : Int → A) (f3 : Bool → A) (f4 : List Int → A) [h0 : uS f0] [h1 : uS f1] [h2 : uS f2] [h3 : uS f3] [h4 : uS f4] : uS (uF f0 f1 f2 f3 f4) := ⟨fun x y h => by
 simp only [uF, A.agg.injEq, List.cons.injEq, and_true] at h
 cases x; cases y
 simp only [ye.mk.injEq]
 exact ⟨h0.inj _ _ h.1, h1.inj _ _ h.2.1, h2.inj _ _ h.2.2.1, h3.inj _ _ h.2.2.2.1, h4.inj _ _ h.2.2.2.2⟩⟩
structure xW where
 M : ye
 L : List (List Int)
def uE (f0 : ye → A) (f1 : List (List Int) → A) (x : xW) : A := .agg [f0 x.M, f1 x.L]
instance (f0 : ye → A) (f1 : List (List Int) → A) (g0 : ye → A) (g1 : List (List Int) → A) [h0 : ZC f0 g0] [h1 : ZC f1 g1] : ZC (uE f0 f1) (uE g0 g1) := ⟨fun x => by simp [uE, A.loose, A.looses, h0.lo, h1.lo]⟩
instance (f0 : ye → A) (f1 : List (List Int) → A) [h0 : uS f0] [h1 : uS f1] : uS (uE f0 f1) := ⟨fun x y h => by
 simp only [uE, A.agg.injEq, List.cons.injEq, and_true] at h
 cases x; cases y
 simp only [xW.mk.injEq]
 exact ⟨h0.inj _ _ h.1, h1.inj _ _ h.2⟩⟩
structure ze where
 To : Int
 Out : Int
def wB (f0 : Int → A) (f1 : Int → A) (x : ze) : A := .agg [f0 x.To, f1 x.Out]
instance (f0 : Int → A) (f1 : Int → A) [h0 : WY f0] [h1 : WY f1] : WY (wB f0 f1) := ⟨fun x => by simp [wB, A.isD, A.areD, h0.isD, h1.isD]⟩
instance (f0 : Int → A) (f1 : Int → A) (g0 : Int → A) (g1 : Int → A) [h0 : ZC f0 g0] [h1 : ZC f1 g1] : ZC (wB f0 f1) (wB g0 g1) := ⟨fun x => by simp [wB, A.loose, A.looses, h0.lo, h1.lo]⟩
instance (f0 : Int → A) (f1 : Int → A) (g0 : Int → A) (g1 : Int → A) [h0 : K8 f0 g0] [h1 : K8 f1 g1] : K8 (wB f0 f1) (wB g0 g1) := ⟨fun x => by simp [wB, A.live, A.lives, h0.live, h1.live], fun x => by simp [wB, A.shut, A.shuts, h0.sh, h1.sh]⟩
instance (f0 : Int → A) (f1 : Int → A) [h0 : uS f0] [h1 : uS f1] : uS (wB f0 f1) := ⟨fun x y h => by
 simp only [wB, A.agg.injEq, List.cons.injEq, and_true] at h
 cases x; cases y
 simp only [ze.mk.injEq]
 exact ⟨h0.inj _ _ h.1, h1.inj _ _ h.2⟩⟩
structure z6 where
 Inputs : Int
 Outputs : Int
 Rows : List (List ze)
def vz (f0 : Int → A) (f1 : Int → A) (f2 : List (List ze) → A) (x : z6) : A := .agg [f0 x.Inputs, f1 x.Outputs, f2 x.Rows]
instance (f0 : Int → A) (f1 : Int → A) (f2 : List (List ze) → A) (g0 : Int → A) (g1 : Int → A) (g2 : List (List ze) → A) [h0 : ZC f0 g0] [h1 : ZC f1 g1] [h2 : ZC f2 g2] : ZC (vz f0 f1 f2) (vz g0 g1 g2) := ⟨fun x => by simp [vz, A.loose, A.looses, h0.lo, h1.lo, h2.lo]⟩
instance (f0 : Int → A) (f1 : Int → A) (f2 : List (List ze) → A) [h0 : uS f0] [h1 : uS f1] [h2 : uS f2] : uS (vz f0 f1 f2) := ⟨fun x y h => by
 simp only [vz, A.agg.injEq, List.cons.injEq, and_true] at h
 cases x; cases y
 simp only [z6.mk.injEq]
 exact ⟨h0.inj _ _ h.1, h1.inj _ _ h.2.1, h2.inj _ _ h.2.2⟩⟩
structure zh where
 states_ : List (Int × Bool)
 edges_ : List ((yp Int) × Bool)
 pairs_ : List (z8 × Bool)
def zR (f0 : List (Int × Bool) → A) (f1 : List ((yp Int) × Bool) → A) (f2 : List (z8 × Bool) → A) (x : zh) : A := .agg [f0 x.states_, f1 x.edges_, f2 x.pairs_]
structure zi where
 state_ : Int
 from_ : Int
 input_ : Int
def Zi (f0 : Int → A) (f1 : Int → A) (f2 : Int → A) (x : zi) : A := .agg [f0 x.state_, f1 x.from_, f2 x.input_]
instance (f0 : Int → A) (f1 : Int → A) (f2 : Int → A) [h0 : WY f0] [h1 : WY f1] [h2 : WY f2] : WY (Zi f0 f1 f2) := ⟨fun x => by simp [Zi, A.isD, A.areD, h0.isD, h1.isD, h2.isD]⟩
structure zb where
 word_ : List Int
 pair_ : z8
 has_ : Int ⊕ (Int × Int) ⊕ z8
def zc (f0 : List Int → A) (f1 : z8 → A) (f2 : Int ⊕ (Int × Int) ⊕ z8 → A) (x : zb) : A := .agg [f0 x.word_, f1 x.pair_, f2 x.has_]
instance (f0 : List Int → A) (f1 : z8 → A) (f2 : Int ⊕ (Int × Int) ⊕ z8 → A) [h0 : WY f0] [h1 : WY f1] [h2 : WY f2] : WY (zc f0 f1 f2) := ⟨fun x => by simp [zc, A.isD, A.areD, h0.isD, h1.isD, h2.isD]⟩
instance (f0 : List Int → A) (f1 : z8 → A) (f2 : Int ⊕ (Int × Int) ⊕ z8 → A) (g0 : List Int → A) (g1 : z8 → A) (g2 : Int ⊕ (Int × Int) ⊕ z8 → A) [h0 : K8 f0 g0] [h1 : K8 f1 g1] [h2 : K8 f2 g2] : K8 (zc f0 f1 f2) (zc g0 g1 g2) := ⟨fun x => by simp [zc, A.live, A.lives, h0.live, h1.live, h2.live], fun x => by simp [zc, A.shut, A.shuts, h0.sh, h1.sh, h2.sh]⟩
structure zJ where
 States : yp Int
 Edges : yp Int
 Pairs : yp Int
def x5 (f0 : yp Int → A) (f1 : yp Int → A) (f2 : yp Int → A) (x : zJ) : A := .agg [f0 x.States, f1 x.Edges, f2 x.Pairs]
instance (f0 : yp Int → A) (f1 : yp Int → A) (f2 : yp Int → A) (g0 : yp Int → A) (g1 : yp Int → A) (g2 : yp Int → A) [h0 : ZC f0 g0] [h1 : ZC f1 g1] [h2 : ZC f2 g2] : ZC (x5 f0 f1 f2) (x5 g0 g1 g2) := ⟨fun x => by simp [x5, A.loose, A.looses, h0.lo, h1.lo, h2.lo]⟩
instance (f0 : yp Int → A) (f1 : yp Int → A) (f2 : yp Int → A) [h0 : uS f0] [h1 : uS f1] [h2 : uS f2] : uS (x5 f0 f1 f2) := ⟨fun x y h => by
 simp only [x5, A.agg.injEq, List.cons.injEq, and_true] at h
 cases x; cases y
 simp only [zJ.mk.injEq]
 exact ⟨h0.inj _ _ h.1, h1.inj _ _ h.2.1, h2.inj _ _ h.2.2⟩⟩
structure za where
 State : Int
 Input : Int
 Next : Int
def vn (f0 : Int → A) (f1 : Int → A) (f2 : Int → A) (x : za) : A := .agg [f0 x.State, f1 x.Input, f2 x.Next]
instance (f0 : Int → A) (f1 : Int → A) (f2 : Int → A) [h0 : WY f0] [h1 : WY f1] [h2 : WY f2] : WY (vn f0 f1 f2) := ⟨fun x => by simp [vn, A.isD, A.areD, h0.isD, h1.isD, h2.isD]⟩
instance (f0 : Int → A) (f1 : Int → A) (f2 : Int → A) (g0 : Int → A) (g1 : Int → A) (g2 : Int → A) [h0 : ZC f0 g0] [h1 : ZC f1 g1] [h2 : ZC f2 g2] : ZC (vn f0 f1 f2) (vn g0 g1 g2) := ⟨fun x => by simp [vn, A.loose, A.looses, h0.lo, h1.lo, h2.lo]⟩
instance (f0 : Int → A) (f1 : Int → A) (f2 : Int → A) [h0 : uS f0] [h1 : uS f1] [h2 : uS f2] : uS (vn f0 f1 f2) := ⟨fun x y h => by
 simp only [vn, A.agg.injEq, List.cons.injEq, and_true] at h
 cases x; cases y
 simp only [za.mk.injEq]
 exact ⟨h0.inj _ _ h.1, h1.inj _ _ h.2.1, h2.inj _ _ h.2.2⟩⟩
structure zz where
 sets_ : List (List Int)
 want_ : List Int
def yR (f0 : List (List Int) → A) (f1 : List Int → A) (x : zz) : A := .agg [f0 x.sets_, f1 x.want_]
instance (f0 : List (List Int) → A) (f1 : List Int → A) (g0 : List (List Int) → A) (g1 : List Int → A) [h0 : ZC f0 g0] [h1 : ZC f1 g1] : ZC (yR f0 f1) (yR g0 g1) := ⟨fun x => by simp [yR, A.loose, A.looses, h0.lo, h1.lo]⟩
instance (f0 : List (List Int) → A) (f1 : List Int → A) [h0 : uS f0] [h1 : uS f1] : uS (yR f0 f1) := ⟨fun x y h => by
 simp only [yR, A.agg.injEq, List.cons.injEq, and_true] at h
 cases x; cases y
 simp only [zz.mk.injEq]
 exact ⟨h0.inj _ _ h.1, h1.inj _ _ h.2⟩⟩
instance : ze0 (K := yp Int) (Vf (eI .i64)) := ⟨fun x y => by
 obtain ⟨_, _⟩ := x
 obtain ⟨_, _⟩ := y
 simp only [Vf, eI, WX, Qk, Qk.keyLs, zQ, BEq.beq, Option.map_some, Option.some.injEq, Value.agg.injEq, List.cons_append, List.nil_append, List.append_nil, Array.mk.injEq, List.cons.injEq, Value.int.injEq, true_and, and_true, Bool.and_eq_true, decide_eq_true_eq, and_assoc]⟩
instance : ze0 (K := z8) (zY (eI .i64) (eI .i64) (eI .i64)) := ⟨fun x y => by
 obtain ⟨_, _, _⟩ := x
 obtain ⟨_, _, _⟩ := y
 simp only [zY, eI, WX, Qk, Qk.keyLs, zQ, BEq.beq, Option.map_some, Option.some.injEq, Value.agg.injEq, List.cons_append, List.nil_append, List.append_nil, Array.mk.injEq, List.cons.injEq, Value.int.injEq, true_and, and_true, Bool.and_eq_true, decide_eq_true_eq, and_assoc]⟩
def zc0 : Int ⊕ (Int × Int) ⊕ z8 → Nat
 | (.inl _) => 46
 | (.inr (.inl _)) => 47
 | (.inr (.inr _)) => 48
def zcp : Int ⊕ (Int × Int) ⊕ z8 → List A
 | (.inl c) => [.sptr (I c)]
 | (.inr (.inl c)) => [.sptr (I c.1), .sptr (I c.2)]
 | (.inr (.inr c)) => [.sptr (.agg [I c.State, I c.Input, I c.Next])]
def zC (x : Int ⊕ (Int × Int) ⊕ z8) : A := .fn (zc0 x) (zcp x)
instance : WY zC := ⟨fun _ => rfl⟩
instance : K8 zC zC := ⟨fun _ => rfl, fun _ => rfl⟩
def kD (x_ : ye) (fk : List (List ze)) : Option z6 :=
 some (z6.mk (w64 (1 + (w64 (Int.tmod x_.Inputs 3)))) (w64 (1 + (w64 (Int.tmod x_.Outputs 3)))) fk)
def kC (s_ : Int) (fe : List (List ze)) : Option (LR (List (List ze) × Int) (List (List ze))) :=
 some (.next (fe, w64 (s_ + 1)))
def kB (a9 : List (List ze)) (s_ : Int) (row : List ze) : Option (LR (List (List ze) × Int) (List (List ze))) :=
 gd (a9.length + ([row] : List (List ze)).length ≤ 4294967296) <|
 kC s_ (a9 ++ ([row] : List (List ze)))
def qK (i_ : Int) (gj : List ze) : Option (LR (List ze × Int) (List ze)) :=
 some (.next (gj, w64 (i_ + 1)))
def vw (x_ : ye) (cg : List ze) (i_ : Int) (v_ : Int) : Option (LR (List ze × Int) (List ze)) :=
 bif x_.Partial then (
  gd ((4 : Int) ≠ 0) <|
  bif (Int.tmod v_ 4) == 3 then (
   gd (cg.length + ([(ze.mk (-1) (-1))] : List ze).length ≤ 4294967296) <|
   qK i_ (cg ++ ([(ze.mk (-1) (-1))] : List ze)))
  else (
   gd ((4 : Int) ≠ 0) <|
   gd (((w64 (1 + (w64 (Int.tmod x_.States 6)))) : Int) ≠ 0) <|
   gd ((4 : Int) ≠ 0) <|
   gd (((w64 (1 + (w64 (Int.tmod x_.States 6)))) : Int) ≠ 0) <|
   gd (((w64 (1 + (w64 (Int.tmod x_.Outputs 3)))) : Int) ≠ 0) <|
   gd (cg.length + ([(ze.mk (Int.tmod (w64 (Int.tdiv v_ 4)) (w64 (1 + (w64 (Int.tmod x_.States 6))))) (Int.tmod (w64 (Int.tdiv (w64 (Int.tdiv v_ 4)) (w64 (1 + (w64 (Int.tmod x_.States 6)))))) (w64 (1 + (w64 (Int.tmod x_.Outputs 3))))))] : List ze).length ≤ 4294967296) <|
   qK i_ (cg ++ ([(ze.mk (Int.tmod (w64 (Int.tdiv v_ 4)) (w64 (1 + (w64 (Int.tmod x_.States 6))))) (Int.tmod (w64 (Int.tdiv (w64 (Int.tdiv v_ 4)) (w64 (1 + (w64 (Int.tmod x_.States 6)))))) (w64 (1 + (w64 (Int.tmod x_.Outputs 3))))))] : List ze))))
 else (
  gd ((4 : Int) ≠ 0) <|
  gd (((w64 (1 + (w64 (Int.tmod x_.States 6)))) : Int) ≠ 0) <|
  gd ((4 : Int) ≠ 0) <|
  gd (((w64 (1 + (w64 (Int.tmod x_.States 6)))) : Int) ≠ 0) <|
  gd (((w64 (1 + (w64 (Int.tmod x_.Outputs 3)))) : Int) ≠ 0) <|
  gd (cg.length + ([(ze.mk (Int.tmod (w64 (Int.tdiv v_ 4)) (w64 (1 + (w64 (Int.tmod x_.States 6))))) (Int.tmod (w64 (Int.tdiv (w64 (Int.tdiv v_ 4)) (w64 (1 + (w64 (Int.tmod x_.States 6)))))) (w64 (1 + (w64 (Int.tmod x_.Outputs 3))))))] : List ze).length ≤ 4294967296) <|
  qK i_ (cg ++ ([(ze.mk (Int.tmod (w64 (Int.tdiv v_ 4)) (w64 (1 + (w64 (Int.tmod x_.States 6))))) (Int.tmod (w64 (Int.tdiv (w64 (Int.tdiv v_ 4)) (w64 (1 + (w64 (Int.tmod x_.States 6)))))) (w64 (1 + (w64 (Int.tmod x_.Outputs 3))))))] : List ze)))
def qJ (x_ : ye) (s_ : Int) (cg : List ze) (i_ : Int) : Option (LR (List ze × Int) (List ze)) :=
 bif decide (i_ < (w64 (1 + (w64 (Int.tmod x_.Inputs 3))))) then (
  bif decide ((w64 ((w64 (s_ * (w64 (1 + (w64 (Int.tmod x_.Inputs 3)))))) + i_)) < ((x_.Edges.length : Nat) : Int)) then (
   (idx x_.Edges (w64 ((w64 (s_ * (w64 (1 + (w64 (Int.tmod x_.Inputs 3)))))) + i_))).bind fun gk =>
   vw x_ cg i_ (w64 (gk)))
  else (
   vw x_ cg i_ 0))
 else (
  some (.done cg))
def kA (x_ : ye) (a9 : List (List ze)) (s_ : Int) : Option (LR (List (List ze) × Int) (List (List ze))) :=
 bif decide (s_ < (w64 (1 + (w64 (Int.tmod x_.States 6))))) then (
  (loop (fun s => qJ x_ s_ s.1 s.2) (([] : List ze), 0)).bind fun t5 =>
  kB a9 s_ t5)
 else (
  some (.done a9))
def Yc (x_ : ye) : Option z6 :=
 gd ((6 : Int) ≠ 0) <|
 gd ((3 : Int) ≠ 0) <|
 gd ((3 : Int) ≠ 0) <|
 (loop (fun s => kA x_ s.1 s.2) (([] : List (List ze)), 0)).bind fun t2 =>
 kD x_ t2
def kz (out : List Int) : Option (List Int) :=
 some out
def ky (w_ : List Int) (inputs : Int) (most : Int) (ak : List Int) (k_ : Int) : Option (LR (List Int × Int) (List Int)) :=
 bif decide (k_ < ((w_.length : Nat) : Int)) then (
  bif decide (k_ < most) then (
   (idx w_ k_).bind fun bc =>
   gd ((inputs : Int) ≠ 0) <|
   gd (ak.length + ([Int.tmod (w64 (bc)) inputs] : List Int).length ≤ 4294967296) <|
   some (.next ((ak ++ ([Int.tmod (w64 (bc)) inputs] : List Int)), w64 (k_ + 1))))
  else (
   some (.done ak)))
 else (
  some (.done ak))
def Yb (w_ : List Int) (inputs : Int) (most : Int) : Option (List Int) :=
 (loop (fun s => ky w_ inputs most s.1 s.2) (([] : List Int), 0)).bind fun t2 =>
 kz t2
def jZ : Option Int :=
 some 0
def vF (a_ : List Int) (b_ : List Int) (i_ : Int) : Option (LR Int (Unit ⊕ Int)) :=
 bif decide (i_ < ((a_.length : Nat) : Int)) then (
  (idx a_ i_).bind fun ft =>
  (idx b_ i_).bind fun fw =>
  bif decide (ft < fw) then (
   some (.done (.inr (-1))))
  else (
   (idx a_ i_).bind fun ie =>
   (idx b_ i_).bind fun ig =>
   bif decide (ie > ig) then (
    some (.done (.inr 1)))
   else (
    some (.next (w64 (i_ + 1))))))
 else (
  some (.done (.inl ())))
def vu (a_ : List Int) (b_ : List Int) : Option Int :=
 bif ((a_.length : Nat) : Int) != ((b_.length : Nat) : Int) then (
  bif decide (((a_.length : Nat) : Int) < ((b_.length : Nat) : Int)) then (
   some (-1))
  else (
   some 1))
 else (
  (loop (fun s => vF a_ b_ s) 0).bind fun t2 =>
  match t2 with
  | .inl p => jZ
  | .inr p => some p)
def ZD (w_ : List Int) (co : Int) (bl : List (List Int)) : Option (List (List Int)) :=
 gd (([] : List Int).length + w_.length ≤ 4294967296) <|
 (idx bl co).bind fun ba =>
 some (bl.set co.toNat w_)
def jF (co : Int) (dy : List (List Int)) (i_ : Int) : Option (LR (List (List Int) × Int) (List (List Int))) :=
 bif decide (i_ > co) then (
  (idx dy (w64 (i_ - 1))).bind fun cn =>
  (idx dy i_).bind fun iu =>
  some (.next ((dy.set i_.toNat cn), w64 (i_ - 1))))
 else (
  some (.done dy))
def qo (l_ : List (List Int)) (w_ : List Int) (co : Int) : Option (List (List Int)) :=
 gd (l_.length + ([[]] : List (List Int)).length ≤ 4294967296) <|
 (loop (fun s => jF co s.1 s.2) ((l_ ++ ([[]] : List (List Int))), w64 ((((l_ ++ ([[]] : List (List Int))).length : Nat) : Int) - 1))).bind fun t4 =>
 ZD w_ co t4
def ZF (l_ : List (List Int)) (w_ : List Int) (co : Int) : Option (List (List Int)) :=
 bif decide (co < ((l_.length : Nat) : Int)) then (
  (idx l_ co).bind fun gc =>
  (vu gc w_).bind fun r_ =>
  bif r_ == 0 then (
   some l_)
  else (
   qo l_ w_ co))
 else (
  qo l_ w_ co)
def jE (l_ : List (List Int)) (w_ : List Int) (du : Int) (d9 : Int) : Option (LR (Int × Int) Int) :=
 bif decide (du < d9) then (
  gd ((2 : Int) ≠ 0) <|
  (idx l_ (w64 (Int.tdiv (w64 (du + d9)) 2))).bind fun ge =>
  (vu ge w_).bind fun ah =>
  bif decide (ah < 0) then (
   some (.next (w64 ((w64 (Int.tdiv (w64 (du + d9)) 2)) + 1), d9)))
  else (
   some (.next (du, w64 (Int.tdiv (w64 (du + d9)) 2)))))
 else (
  some (.done du))
def Xx (l_ : List (List Int)) (w_ : List Int) : Option (List (List Int)) :=
 (loop (fun s => jE l_ w_ s.1 s.2) (0, ((l_.length : Nat) : Int))).bind fun t5 =>
 ZF l_ w_ t5
def YA (out : List (List Int)) : Option (List (List Int)) :=
 some out
def wL (l_ : List (List Int)) (ak : List (List Int)) (i_ : Int) : Option (LR (List (List Int) × Int) (List (List Int))) :=
 bif decide (i_ < ((l_.length : Nat) : Int)) then (
  (idx l_ i_).bind fun ba =>
  (Xx ak ba).bind fun r_ =>
  some (.next (r_, w64 (i_ + 1))))
 else (
  some (.done ak))
def Y5 (l_ : List (List Int)) : Option (List (List Int)) :=
 (loop (fun s => wL l_ s.1 s.2) (([] : List (List Int)), 0)).bind fun t2 =>
 YA t2
def kx (r_ : z6) (l_ : List (List Int)) : Option (z6 × List (List Int)) :=
 (Y5 l_).bind fun ah =>
 some (r_, ah)
def kw (x_ : xW) (r_ : z6) (bl : List (List Int)) (i_ : Int) : Option (LR (List (List Int) × Int) (List (List Int))) :=
 bif decide (i_ < ((x_.L.length : Nat) : Int)) then (
  bif decide (i_ < 12) then (
   (idx x_.L i_).bind fun ii =>
   (Yb ii r_.Inputs 8).bind fun am =>
   gd (bl.length + ([am] : List (List Int)).length ≤ 4294967296) <|
   some (.next ((bl ++ ([am] : List (List Int))), w64 (i_ + 1))))
  else (
   some (.done bl)))
 else (
  some (.done bl))
def kL (x_ : xW) : Option (z6 × List (List Int)) :=
 (Yc x_.M).bind fun r_ =>
 (loop (fun s => kw x_ r_ s.1 s.2) (([] : List (List Int)), 0)).bind fun t2 =>
 kx r_ t2
def ku : Option ze :=
 some (ze.mk (-1) (-1))
def qI (m_ : z6) (x_ : ze) : Option Bool :=
 (ku).bind fun r_ =>
 bif (x_.To == r_.To) && ((x_.Out == r_.Out) && true) then (
  some true)
 else (
  bif decide (x_.To ≥ 0) then (
   bif decide (x_.To < ((m_.Rows.length : Nat) : Int)) then (
    bif decide (x_.Out ≥ 0) then (
     some (decide (x_.Out < m_.Outputs)))
    else (
     some false))
   else (
    some false))
  else (
   some false))
def uO (x_ : ze) (x1 : z6) : Option Bool :=
 (qI x1 x_).bind fun r_ =>
 some (!r_)
def yu : Option Int :=
 some (-1)
def zP (s_ : List ze) (f_ : z6) (x8 : Int) : Option (LR Int (Unit ⊕ Int)) :=
 bif decide (x8 < ((s_.length : Nat) : Int)) then (
  (idx s_ x8).bind fun dp =>
  (uO dp f_).bind fun r_ =>
  bif r_ then (
   some (.done (.inr x8)))
  else (
   some (.next (w64 (x8 + 1)))))
 else (
  some (.done (.inl ())))
def yf (s_ : List ze) (f_ : z6) : Option Int :=
 (loop (fun s => zP s_ f_ s) 0).bind fun t2 =>
 match t2 with
 | .inl p => yu
 | .inr p => some p
def zW (s_ : List ze) (f_ : z6) : Option Bool :=
 (yf s_ f_).bind fun r_ =>
 some (decide (r_ ≥ 0))
def jk : Option Int :=
 some 0
def w9 (m_ : z6) (gl : Int) : Option (LR Int (Unit ⊕ Int)) :=
 bif decide (gl < ((m_.Rows.length : Nat) : Int)) then (
  (idx m_.Rows gl).bind fun ar =>
  bif ((ar.length : Nat) : Int) != m_.Inputs then (
   some (.done (.inr 1)))
  else (
   (zW ar m_).bind fun r_ =>
   bif r_ then (
    some (.done (.inr 1)))
   else (
    some (.next (w64 (gl + 1))))))
 else (
  some (.done (.inl ())))
def vJ (m_ : z6) : Option Int :=
 bif decide (m_.Inputs > 16) then (
  some 3)
 else (
  bif decide (m_.Outputs > 16) then (
   some 3)
  else (
   bif decide (((m_.Rows.length : Nat) : Int) > 64) then (
    some 3)
   else (
    bif decide (m_.Inputs < 1) then (
     some 1)
    else (
     bif decide (m_.Outputs < 1) then (
      some 1)
     else (
      bif decide (((m_.Rows.length : Nat) : Int) < 1) then (
       some 1)
      else (
       (loop (fun s => w9 m_ s) 0).bind fun t2 =>
       match t2 with
       | .inl p => jk
       | .inr p => some p))))))
def ki (c_ : Int) (x1 : Int) : Option Bool :=
 bif decide (c_ < 0) then (
  some true)
 else (
  some (decide (c_ ≥ x1)))
def we : Option Int :=
 some (-1)
def y9 (s_ : List Int) (f_ : Int) (x8 : Int) : Option (LR Int (Unit ⊕ Int)) :=
 bif decide (x8 < ((s_.length : Nat) : Int)) then (
  (idx s_ x8).bind fun dp =>
  (ki dp f_).bind fun r_ =>
  bif r_ then (
   some (.done (.inr x8)))
  else (
   some (.next (w64 (x8 + 1)))))
 else (
  some (.done (.inl ())))
def xM (s_ : List Int) (f_ : Int) : Option Int :=
 (loop (fun s => y9 s_ f_ s) 0).bind fun t2 =>
 match t2 with
 | .inl p => we
 | .inr p => some p
def yV (s_ : List Int) (f_ : Int) : Option Bool :=
 (xM s_ f_).bind fun r_ =>
 some (decide (r_ ≥ 0))
def j9 (w_ : List Int) (inputs : Int) : Option Int :=
 bif decide (inputs > 16) then (
  some 3)
 else (
  bif decide (((w_.length : Nat) : Int) > 256) then (
   some 3)
  else (
   bif decide (inputs < 1) then (
    some 1)
   else (
    (yV w_ inputs).bind fun r_ =>
    bif r_ then (
     some 1)
    else (
     some 0))))
def ZI : Option Int :=
 some 0
def vH (l_ : List (List Int)) (inputs : Int) (gm : Int) : Option (LR Int (Unit ⊕ Int)) :=
 bif decide (gm < ((l_.length : Nat) : Int)) then (
  (idx l_ gm).bind fun ba =>
  (j9 ba inputs).bind fun r_ =>
  bif r_ != 0 then (
   some (.done (.inr r_)))
  else (
   some (.next (w64 (gm + 1)))))
 else (
  some (.done (.inl ())))
def jd (l_ : List (List Int)) (inputs : Int) : Option Int :=
 bif decide (inputs > 16) then (
  some 3)
 else (
  bif decide (((l_.length : Nat) : Int) > 4096) then (
   some 3)
  else (
   bif decide (inputs < 1) then (
    some 1)
   else (
    (loop (fun s => vH l_ inputs s) 0).bind fun t2 =>
    match t2 with
    | .inl p => ZI
    | .inr p => some p)))
def qO (x_ : Int) : Option Bool :=
 some (x_ != x_)
def vd (x_ : Int) (y_ : Int) : Option Int :=
 (qO x_).bind fun r_ =>
 (qO y_).bind fun ah =>
 bif r_ then (
  bif ah then (
   some 0)
  else (
   some (-1)))
 else (
  bif ah then (
   some 1)
  else (
   bif decide (x_ < y_) then (
    some (-1))
   else (
    bif decide (x_ > y_) then (
     some 1)
    else (
     some 0))))
def xq (s1 : List Int) (s2 : List Int) : Option Int :=
 bif decide (((s1.length : Nat) : Int) < ((s2.length : Nat) : Int)) then (
  some (-1))
 else (
  some 0)
def yg (s1 : List Int) (s2 : List Int) (dv : Int) : Option (LR Int (Unit ⊕ Int)) :=
 bif decide (dv < ((s1.length : Nat) : Int)) then (
  (idx s1 dv).bind fun gn =>
  bif decide (dv ≥ ((s2.length : Nat) : Int)) then (
   some (.done (.inr 1)))
  else (
   (idx s2 dv).bind fun fx =>
   (vd gn fx).bind fun r_ =>
   bif r_ != 0 then (
    some (.done (.inr r_)))
   else (
    some (.next (w64 (dv + 1))))))
 else (
  some (.done (.inl ())))
def xg (s1 : List Int) (s2 : List Int) : Option Int :=
 (loop (fun s => yg s1 s2 s) 0).bind fun t2 =>
 match t2 with
 | .inl p => xq s1 s2
 | .inr p => some p
def kE : Option Int :=
 some 0
def un (vals : List Int) (x8 : Int) : Option (LR Int (Unit ⊕ Int)) :=
 bif decide (x8 < ((vals.length : Nat) : Int)) then (
  (idx vals x8).bind fun gv =>
  bif gv != 0 then (
   some (.done (.inr gv)))
  else (
   some (.next (w64 (x8 + 1)))))
 else (
  some (.done (.inl ())))
def Yg (vals : List Int) : Option Int :=
 (loop (fun s => un vals s) 0).bind fun t2 =>
 match t2 with
 | .inl p => kE
 | .inr p => some p
def vo (a_ : List Int) (b_ : List Int) : Option Int :=
 (vd ((a_.length : Nat) : Int) ((b_.length : Nat) : Int)).bind fun r_ =>
 (xg a_ b_).bind fun ah =>
 (Yg ([r_, ah])).bind fun am =>
 some am
def jv : Option Bool :=
 some true
def vI (l_ : List (List Int)) (i_ : Int) : Option (LR Int (Unit ⊕ Bool)) :=
 bif decide (i_ < ((l_.length : Nat) : Int)) then (
  (idx l_ (w64 (i_ - 1))).bind fun ba =>
  (idx l_ i_).bind fun cn =>
  (vo ba cn).bind fun r_ =>
  bif decide (r_ ≥ 0) then (
   some (.done (.inr false)))
  else (
   some (.next (w64 (i_ + 1)))))
 else (
  some (.done (.inl ())))
def kR (l_ : List (List Int)) : Option Bool :=
 (loop (fun s => vI l_ s) 1).bind fun t2 =>
 match t2 with
 | .inl p => jv
 | .inr p => some p
def ZH (n_ : Int) : Option Int :=
 some n_
def vG (l_ : List (List Int)) (cr : Int) (x7 : Int) : Option (LR (Int × Int) Int) :=
 bif decide (x7 < ((l_.length : Nat) : Int)) then (
  (idx l_ x7).bind fun ba =>
  some (.next (w64 (cr + ((ba.length : Nat) : Int)), w64 (x7 + 1))))
 else (
  some (.done cr))
def jb (l_ : List (List Int)) : Option Int :=
 (loop (fun s => vG l_ s.1 s.2) (0, 0)).bind fun t2 =>
 ZH t2
def kS (l_ : List (List Int)) (inputs : Int) : Option Int :=
 (jd l_ inputs).bind fun r_ =>
 bif r_ != 0 then (
  some r_)
 else (
  (kR l_).bind fun ah =>
  bif !ah then (
   some 1)
  else (
   (jb l_).bind fun am =>
   bif decide (am > 65536) then (
    some 3)
   else (
    some 0)))
def xG (m_ : z6) (l_ : List (List Int)) : Option Int :=
 (vJ m_).bind fun r_ =>
 bif r_ != 0 then (
  some r_)
 else (
  (kS l_ m_.Inputs).bind fun ah =>
  some ah)
def uG : Option zh :=
 some (zh.mk (Qg ([] : List (Int × Bool)) 0 true) ([] : List ((yp Int) × Bool)) ([] : List (z8 × Bool)))
def yD (al : List (Int × Bool)) (ap : List ((yp Int) × Bool)) (bz : Int) (eb : Int) (bc : Int) (aj : ze) (bf : List (z8 × Bool)) : Option (LR ((List (Int × Bool)) × (List ((yp Int) × Bool)) × (List (z8 × Bool)) × Int × Int × Int × Int) zh) :=
 some (.next ((Qg al aj.To true), (Qg ap (yp.mk bz bc) true), bf, aj.To, bz, bc, w64 (eb + 1)))
def xh (m_ : z6) (w_ : List Int) (al : List (Int × Bool)) (ap : List ((yp Int) × Bool)) (aq : List (z8 × Bool)) (bz : Int) (bi : Int) (bm : Int) (eb : Int) : Option (LR ((List (Int × Bool)) × (List ((yp Int) × Bool)) × (List (z8 × Bool)) × Int × Int × Int × Int) zh) :=
 bif decide (eb < ((w_.length : Nat) : Int)) then (
  (idx w_ eb).bind fun bc =>
  (idx m_.Rows bz).bind fun ar =>
  (idx ar bc).bind fun aj =>
  bif aj.To == (-1) then (
   some (.done (zh.mk al ap aq)))
  else (
   bif bi != (-1) then (
    yD al ap bz eb bc aj (Qg aq (z8.mk bi bm bc) true))
   else (
    yD al ap bz eb bc aj aq)))
 else (
  some (.done (zh.mk al ap aq)))
def xj (m_ : z6) (w_ : List Int) (x_ : zh) : Option zh :=
 (loop (fun s => xh m_ w_ s.1 s.2.1 s.2.2.1 s.2.2.2.1 s.2.2.2.2.1 s.2.2.2.2.2.1 s.2.2.2.2.2.2) (x_.states_, x_.edges_, x_.pairs_, 0, (-1), (-1), 0)).bind fun t1 =>
 some t1
def uz (al : List (Int × Bool)) (ap : List ((yp Int) × Bool)) (aq : List (z8 × Bool)) : Option zh :=
 some (zh.mk al ap aq)
def x6 (m_ : z6) (l_ : List (List Int)) (bk : List (Int × Bool)) (bq : List ((yp Int) × Bool)) (bf : List (z8 × Bool)) (dv : Int) : Option (LR ((List (Int × Bool)) × (List ((yp Int) × Bool)) × (List (z8 × Bool)) × Int) (((List (Int × Bool)) × (List ((yp Int) × Bool)) × (List (z8 × Bool))))) :=
 bif decide (dv < ((l_.length : Nat) : Int)) then (
  (idx l_ dv).bind fun ba =>
  (xj m_ ba (zh.mk bk bq bf)).bind fun ah =>
  some (.next (ah.states_, ah.edges_, ah.pairs_, w64 (dv + 1))))
 else (
  some (.done (bk, bq, bf)))
def yn (m_ : z6) (l_ : List (List Int)) : Option zh :=
 (uG).bind fun r_ =>
 (loop (fun s => x6 m_ l_ s.1 s.2.1 s.2.2.1 s.2.2.2) (r_.states_, r_.edges_, r_.pairs_, 0)).bind fun t2 =>
 uz t2.1 t2.2.1 t2.2.2
def xF (goal : Int) (x_ : zh) : Option Int :=
 (idx ([((x_.states_.length : Nat) : Int), ((x_.edges_.length : Nat) : Int), ((x_.pairs_.length : Nat) : Int)] : List Int) goal).bind fun cell =>
 some cell
def jt (m_ : z6) (from_ : Int) : Option (z6 × Int) :=
 some (m_, from_)
variable {σ : Type}
def ym (db : Int) (fy : List Bool) (fl : List zi) : Option (LR (List Bool × List zi × Int) ((σ × List Bool × List zi))) :=
 some (.next (fy, fl, w64 (db + 1)))
def xi (az : zi) (yr : σ × Bool) (ar : List ze) (cx : List Bool) (bw : List zi) (db : Int) : Option (LR (List Bool × List zi × Int) ((σ × List Bool × List zi))) :=
 bif decide (db < ((ar.length : Nat) : Int)) then (
  (idx ar db).bind fun aj =>
  bif aj.To != (-1) then (
   (idx cx aj.To).bind fun gx =>
   bif !gx then (
    (idx cx aj.To).bind fun io =>
    gd (bw.length + ([(zi.mk aj.To az.state_ db)] : List zi).length ≤ 4294967296) <|
    ym db (cx.set aj.To.toNat true) (bw ++ ([(zi.mk aj.To az.state_ db)] : List zi)))
   else (
    ym db cx bw))
  else (
   ym db cx bw))
 else (
  some (.done (yr.1, cx, bw)))
def wa (x0 : z6) (yy : σ → zi → Option (σ × Bool)) (fj : σ) (fm : List Bool) (bj : List zi) : Option (LR (σ × List Bool × List zi) σ) :=
 bif decide (((bj.length : Nat) : Int) > 0) then (
  (idx bj 0).bind fun az =>
  gd ((0 : Int) ≤ 1 ∧ (1 : Int) ≤ ((bj.length : Nat) : Int)) <|
  (yy fj az).bind fun yr =>
  bif !yr.2 then (
   some (.done yr.1))
  else (
   (idx x0.Rows az.state_).bind fun ar =>
   (loop (fun s => xi az yr ar s.1 s.2.1 s.2.2) (fm, (bj.drop (1 : Int).toNat), 0)).bind fun t2 =>
   some (.next t2)))
 else (
  some (.done fj))
def vB (x0 : z6) (x1 : Int) {σ : Type} (yy : σ → zi → Option (σ × Bool)) (sg : σ) : Option σ :=
 gd ((0 : Int) ≤ ((x0.Rows.length : Nat) : Int) ∧ (((x0.Rows.length : Nat) : Int) : Int) ≤ 4294967296) <|
 (idx (List.replicate ((x0.Rows.length : Nat) : Int).toNat false) x1).bind fun ix =>
 (loop (fun s => wa x0 yy s.1 s.2.1 s.2.2) (sg, ((List.replicate ((x0.Rows.length : Nat) : Int).toNat false).set x1.toNat true), ([(zi.mk x1 (-1) (-1))] : List zi))).bind fun t1 =>
 some t1
def zS (s_ : List Int) : Option (List Int) :=
 gd (([] : List Int).length + s_.length ≤ 4294967296) <|
 some s_
def zZ (s_ : List Int) : Option (List Int) :=
 gd ((0 : Int) ≤ 0 ∧ (0 : Int) ≤ ((s_.length : Nat) : Int) ∧ (((s_.length : Nat) : Int) : Int) ≤ ((s_.length : Nat) : Int) ∧ (((s_.length : Nat) : Int) : Int) ≤ ((s_.length : Nat) : Int)) <|
 some ((s_.drop 0).take (((s_.length : Nat) : Int).toNat - 0))
def js (l_ : List (List Int)) (is : List Bool) : Option (List (List Int) × List Bool) :=
 some (l_, is)
def xp (bl : List (List Int)) (ck : List Bool) (bu : zi) : Option (LR (List (List Int) × List Bool) Empty) :=
 (idx ck bu.state_).bind fun gw =>
 bif bu.from_ != (-1) then (
  (idx bl bu.from_).bind fun ba =>
  (zS ba).bind fun ah =>
  gd (ah.length + ([bu.input_] : List Int).length ≤ 4294967296) <|
  (zZ (ah ++ ([bu.input_] : List Int))).bind fun am =>
  (idx bl bu.state_).bind fun cn =>
  some (.next ((bl.set bu.state_.toNat am), (ck.set bu.state_.toNat true))))
 else (
  some (.next (bl, (ck.set bu.state_.toNat true))))
def kN (m_ : z6) (from_ : Int) : Option (List (List Int) × List Bool) :=
 gd ((0 : Int) ≤ ((m_.Rows.length : Nat) : Int) ∧ (((m_.Rows.length : Nat) : Int) : Int) ≤ 4294967296) <|
 gd ((0 : Int) ≤ ((m_.Rows.length : Nat) : Int) ∧ (((m_.Rows.length : Nat) : Int) : Int) ≤ 4294967296) <|
 (jt m_ from_).bind fun r_ =>
 (vB r_.1 r_.2 (yOf (fun s x => xp s.1 s.2 x)) (.next ((List.replicate ((m_.Rows.length : Nat) : Int).toNat ([] : List Int)), (List.replicate ((m_.Rows.length : Nat) : Int).toNat false)))).bind fun t2 =>
 match t2 with
 | .next (bl, ck) => (
  js bl ck)
 | .done z => nomatch z
def jB (m_ : z6) : Option (List (List Int) × List Bool × Int) :=
 (vJ m_).bind fun r_ =>
 bif r_ != 0 then (
  some (([] : List (List Int)), ([] : List Bool), r_))
 else (
  (kN m_ 0).bind fun ah =>
  some (ah.1, ah.2, 0))
def uQ (out : List zb) : Option (List zb) :=
 some out
def xa (av : Int) (a7 : List zb) : Option (LR (List zb × Int) (List zb)) :=
 some (.next (a7, w64 (av + 1)))
def x9 (a8 : Int) (ct : List zb) : Option (LR (List zb × Int) (List zb)) :=
 some (.next (ct, w64 (a8 + 1)))
def wG (cd : Int) (cp : List zb) : Option (LR (List zb × Int) (List zb)) :=
 some (.next (cp, w64 (cd + 1)))
def wC (av : Int) (a8 : Int) (am : List Int) (br : List ze) (da : List zb) (cd : Int) : Option (LR (List zb × Int) (List zb)) :=
 bif decide (cd < ((br.length : Nat) : Int)) then (
  (idx br cd).bind fun bh =>
  bif bh.To != (-1) then (
   (zS (am ++ ([a8] : List Int))).bind fun au =>
   (zZ au).bind fun aw =>
   gd (aw.length + ([cd] : List Int).length ≤ 4294967296) <|
   gd (da.length + ([(zb.mk (aw ++ ([cd] : List Int)) (z8.mk av a8 cd) (.inr (.inr (z8.mk av a8 cd))))] : List zb).length ≤ 4294967296) <|
   wG cd (da ++ ([(zb.mk (aw ++ ([cd] : List Int)) (z8.mk av a8 cd) (.inr (.inr (z8.mk av a8 cd))))] : List zb)))
  else (
   wG cd da))
 else (
  some (.done da))
def wD (m_ : z6) (goal : Int) (r_ : List (List Int) × List Bool × Int) (av : Int) (ar : List ze) (bp : List zb) (a8 : Int) : Option (LR (List zb × Int) (List zb)) :=
 bif decide (a8 < ((ar.length : Nat) : Int)) then (
  (idx ar a8).bind fun aj =>
  bif aj.To == (-1) then (
   x9 a8 bp)
  else (
   (idx r_.1 av).bind fun ij =>
   (zS ij).bind fun ah =>
   (zZ ah).bind fun am =>
   gd (am.length + ([a8] : List Int).length ≤ 4294967296) <|
   bif goal == 1 then (
    gd (bp.length + ([(zb.mk (am ++ ([a8] : List Int)) (z8.mk av a8 0) (.inr (.inl (av, a8))))] : List zb).length ≤ 4294967296) <|
    x9 a8 (bp ++ ([(zb.mk (am ++ ([a8] : List Int)) (z8.mk av a8 0) (.inr (.inl (av, a8))))] : List zb)))
   else (
    (idx m_.Rows aj.To).bind fun br =>
    (loop (fun s => wC av a8 am br s.1 s.2) (bp, 0)).bind fun t6 =>
    x9 a8 t6)))
 else (
  some (.done bp))
def wF (m_ : z6) (goal : Int) (r_ : List (List Int) × List Bool × Int) (ak : List zb) (av : Int) : Option (LR (List zb × Int) (List zb)) :=
 bif decide (av < ((m_.Rows.length : Nat) : Int)) then (
  (idx m_.Rows av).bind fun ar =>
  (idx r_.2.1 av).bind fun u_ =>
  bif !u_ then (
   xa av ak)
  else (
   bif goal == 0 then (
    (idx r_.1 av).bind fun fp =>
    gd (ak.length + ([(zb.mk fp (z8.mk av 0 0) (.inl av))] : List zb).length ≤ 4294967296) <|
    xa av (ak ++ ([(zb.mk fp (z8.mk av 0 0) (.inl av))] : List zb)))
   else (
    (loop (fun s => wD m_ goal r_ av ar s.1 s.2) (ak, 0)).bind fun t4 =>
    xa av t4)))
 else (
  some (.done ak))
def wM (m_ : z6) (goal : Int) : Option (List zb) :=
 (jB m_).bind fun r_ =>
 (loop (fun s => wF m_ goal r_ s.1 s.2) (([] : List zb), 0)).bind fun t2 =>
 uQ t2
def Zm (n_ : ua (yp Int)) : Option (zJ × Int) :=
 some ((zJ.mk n_.e0 n_.e1 n_.e2), 0)
def xH (m_ : z6) (ah : zh) (cr : ua (yp Int)) (bu : Int) : Option (LR (ua (yp Int) × Int) (ua (yp Int))) :=
 bif decide (bu < 3) then (
  (xF bu ah).bind fun am =>
  (wM m_ bu).bind fun au =>
  (idx (ua.toL cr) bu).bind fun cell =>
  (some (ua.setI cr bu (yp.mk am ((au.length : Nat) : Int)))).bind fun arr =>
  some (.next (arr, w64 (bu + 1))))
 else (
  some (.done cr))
def u7 (m_ : z6) (l_ : List (List Int)) : Option (zJ × Int) :=
 (xG m_ l_).bind fun r_ =>
 bif r_ != 0 then (
  some ((zJ.mk (yp.mk 0 0) (yp.mk 0 0) (yp.mk 0 0)), r_))
 else (
  (yn m_ l_).bind fun ah =>
  (loop (fun s => xH m_ ah s.1 s.2) ((ua.mk (yp.mk 0 0) (yp.mk 0 0) (yp.mk 0 0)), 0)).bind fun t2 =>
  Zm t2)
def Y6 (m_ : z6) (s_ : Int) (i_ : Int) : Option ze :=
 bif decide (s_ < 0) then (
  some (ze.mk (-1) (-1)))
 else (
  (idx m_.Rows s_).bind fun ar =>
  (idx ar i_).bind fun aj =>
  some aj)
def uh (dr : z6 → Int → (List Int) → Option Int) (m_ : z6) (s_ : Int) (w_ : List Int) : Option Int :=
 bif ((w_.length : Nat) : Int) == 0 then (
  some s_)
 else (
  (idx w_ 0).bind fun bc =>
  (Y6 m_ s_ bc).bind fun r_ =>
  gd ((0 : Int) ≤ 1 ∧ (1 : Int) ≤ ((w_.length : Nat) : Int) ∧ (((w_.length : Nat) : Int) : Int) ≤ ((w_.length : Nat) : Int)) <|
  (dr m_ r_.To (w_.drop (1 : Int).toNat)).bind fun ah =>
  some ah)
def qG (fu : Nat) : z6 → Int → (List Int) → Option Int := Nat.rec (motive := fun _ => z6 → Int → (List Int) → Option Int) (fun _ _ _ => none) (fun _ ih => uh ih) fu
def YD (m_ : z6) (s_ : Int) (w_ : List Int) : Option Int := qG (w_.length + 1) m_ s_ w_
def qE (out : List Int) : Option (List Int) :=
 gd (out.length + ([0] : List Int).length ≤ 4294967296) <|
 some (out ++ ([0] : List Int))
def qD (inputs : Int) (ak : List Int) (k_ : Int) : Option (LR (List Int × Int) (List Int ⊕ List Int)) :=
 bif decide (k_ ≥ 0) then (
  (idx ak k_).bind fun dh =>
  bif decide ((w64 (dh + 1)) < inputs) then (
   (idx ak k_).bind fun ee =>
   (idx ak k_).bind fun ip =>
   some (.done (.inr (ak.set k_.toNat (w64 (ee + 1))))))
  else (
   (idx ak k_).bind fun iq =>
   some (.next ((ak.set k_.toNat 0), w64 (k_ - 1)))))
 else (
  some (.done (.inl ak)))
def kJ (w_ : List Int) (inputs : Int) : Option (List Int) :=
 gd (([] : List Int).length + w_.length ≤ 4294967296) <|
 (loop (fun s => qD inputs s.1 s.2) (w_, w64 (((w_.length : Nat) : Int) - 1))).bind fun t2 =>
 match t2 with
 | .inl p => qE p
 | .inr p => some p
def jz (l_ : List (List Int)) (is : List Bool) : Option (List (List Int) × List Bool) :=
 some (l_, is)
def wT (m_ : z6) (w_ : List Int) (dy : List (List Int)) (gy : List Bool) : Option (LR (List (List Int) × List Bool × List Int) ((List (List Int) × List Bool))) :=
 (kJ w_ m_.Inputs).bind fun r_ =>
 some (.next (dy, gy, r_))
def jy (m_ : z6) (from_ : Int) (bl : List (List Int)) (ck : List Bool) (w_ : List Int) : Option (LR (List (List Int) × List Bool × List Int) ((List (List Int) × List Bool))) :=
 bif decide (((w_.length : Nat) : Int) < ((m_.Rows.length : Nat) : Int)) then (
  (YD m_ from_ w_).bind fun ah =>
  bif decide (ah ≥ 0) then (
   (idx ck ah).bind fun gw =>
   bif !gw then (
    (idx ck ah).bind fun iv =>
    (idx bl ah).bind fun ba =>
    wT m_ w_ (bl.set ah.toNat w_) (ck.set ah.toNat true))
   else (
    wT m_ w_ bl ck))
  else (
   wT m_ w_ bl ck))
 else (
  some (.done (bl, ck)))
def Za (m_ : z6) (from_ : Int) : Option (List (List Int) × List Bool) :=
 gd ((0 : Int) ≤ ((m_.Rows.length : Nat) : Int) ∧ (((m_.Rows.length : Nat) : Int) : Int) ≤ 4294967296) <|
 gd ((0 : Int) ≤ ((m_.Rows.length : Nat) : Int) ∧ (((m_.Rows.length : Nat) : Int) : Int) ≤ 4294967296) <|
 (loop (fun s => jy m_ from_ s.1 s.2.1 s.2.2) ((List.replicate ((m_.Rows.length : Nat) : Int).toNat ([] : List Int)), (List.replicate ((m_.Rows.length : Nat) : Int).toNat false), ([] : List Int))).bind fun t2 =>
 jz t2.1 t2.2
def jG (m_ : z6) : Option (List (List Int) × List Bool) :=
 (Za m_ 0).bind fun r_ =>
 some (r_.1, r_.2)
def kq (out : List za) : Option (List za) :=
 some out
def wK (s_ : Int) (a7 : List za) : Option (LR (List za × Int) (List za)) :=
 some (.next (a7, w64 (s_ + 1)))
def qB (i_ : Int) (ct : List za) : Option (LR (List za × Int) (List za)) :=
 some (.next (ct, w64 (i_ + 1)))
def ug (k_ : Int) (gp : List za) : Option (LR (List za × Int) (List za)) :=
 some (.next (gp, w64 (k_ + 1)))
def vt (m_ : z6) (goal : Int) (s_ : Int) (i_ : Int) (aj : ze) (cp : List za) (k_ : Int) : Option (LR (List za × Int) (List za)) :=
 bif decide (k_ < m_.Inputs) then (
  bif aj.To != (-1) then (
   bif goal == 2 then (
    (idx m_.Rows aj.To).bind fun br =>
    (idx br k_).bind fun bh =>
    bif bh.To != (-1) then (
     gd (cp.length + ([(za.mk s_ i_ k_)] : List za).length ≤ 4294967296) <|
     ug k_ (cp ++ ([(za.mk s_ i_ k_)] : List za)))
    else (
     ug k_ cp))
   else (
    some (.done cp)))
  else (
   some (.done cp)))
 else (
  some (.done cp))
def wJ (m_ : z6) (goal : Int) (s_ : Int) (i_ : Int) (aj : ze) (da : List za) : Option (LR (List za × Int) (List za)) :=
 (loop (fun s => vt m_ goal s_ i_ aj s.1 s.2) (da, 0)).bind fun t7 =>
 qB i_ t7
def ue (m_ : z6) (goal : Int) (s_ : Int) (bp : List za) (i_ : Int) : Option (LR (List za × Int) (List za)) :=
 bif decide (i_ < m_.Inputs) then (
  (idx m_.Rows s_).bind fun ar =>
  (idx ar i_).bind fun aj =>
  bif aj.To != (-1) then (
   bif goal == 1 then (
    gd (bp.length + ([(za.mk s_ i_ (-1))] : List za).length ≤ 4294967296) <|
    wJ m_ goal s_ i_ aj (bp ++ ([(za.mk s_ i_ (-1))] : List za)))
   else (
    wJ m_ goal s_ i_ aj bp))
  else (
   wJ m_ goal s_ i_ aj bp))
 else (
  some (.done bp))
def uf (m_ : z6) (goal : Int) (r_ : List (List Int) × List Bool) (ak : List za) (s_ : Int) : Option (LR (List za × Int) (List za)) :=
 bif decide (s_ < ((m_.Rows.length : Nat) : Int)) then (
  (idx r_.2 s_).bind fun u_ =>
  bif !u_ then (
   wK s_ ak)
  else (
   bif goal == 0 then (
    gd (ak.length + ([(za.mk s_ (-1) (-1))] : List za).length ≤ 4294967296) <|
    wK s_ (ak ++ ([(za.mk s_ (-1) (-1))] : List za)))
   else (
    (loop (fun s => ue m_ goal s_ s.1 s.2) (ak, 0)).bind fun t4 =>
    wK s_ t4)))
 else (
  some (.done ak))
def kI (m_ : z6) (goal : Int) : Option (List za) :=
 (jG m_).bind fun r_ =>
 (loop (fun s => uf m_ goal r_ s.1 s.2) (([] : List za), 0)).bind fun t2 =>
 kq t2
def yW (k_ : Int) (bh : ze) : Option (LR (Int × Int) Bool) :=
 some (.next (bh.To, w64 (k_ + 1)))
def va (m_ : z6) (w_ : List Int) (x_ : za) (bz : Int) (k_ : Int) : Option (LR (Int × Int) Bool) :=
 bif k_ == ((w_.length : Nat) : Int) then (
  some (.done false))
 else (
  (idx m_.Rows bz).bind fun ar =>
  (idx w_ k_).bind fun bc =>
  (idx ar bc).bind fun aj =>
  bif aj.To == (-1) then (
   some (.done false))
  else (
   (idx m_.Rows bz).bind fun br =>
   (idx w_ k_).bind fun ik =>
   (idx br ik).bind fun bh =>
   bif x_.State == bz then (
    (idx w_ k_).bind fun il =>
    bif x_.Input == il then (
     bif x_.Next == (-1) then (
      some (.done true))
     else (
      bif decide ((w64 (k_ + 1)) < ((w_.length : Nat) : Int)) then (
       (idx w_ (w64 (k_ + 1))).bind fun im =>
       bif im == x_.Next then (
        (idx m_.Rows bh.To).bind fun gz =>
        (idx gz x_.Next).bind fun gq =>
        bif gq.To != (-1) then (
         some (.done true))
        else (
         yW k_ bh))
       else (
        yW k_ bh))
      else (
       yW k_ bh)))
    else (
     yW k_ bh))
   else (
    yW k_ bh)))
def vZ (m_ : z6) (w_ : List Int) (x_ : za) (bz : Int) (k_ : Int) : Option (LR (Int × Int) Bool) :=
 bif x_.Input == (-1) then (
  bif x_.State == bz then (
   some (.done true))
  else (
   va m_ w_ x_ bz k_))
 else (
  va m_ w_ x_ bz k_)
def jD (m_ : z6) (w_ : List Int) (x_ : za) : Option Bool :=
 (loop (fun s => vZ m_ w_ x_ s.1 s.2) (0, 0)).bind fun t1 =>
 some t1
def uM (x_ : za) : Option Bool :=
 some ((x_.State == 0) && ((x_.Input == (-1)) && ((x_.Next == (-1)) && true)))
def vE (m_ : z6) (l_ : List (List Int)) (x_ : za) (i_ : Int) : Option (LR Int (Unit ⊕ Bool)) :=
 bif decide (i_ < ((l_.length : Nat) : Int)) then (
  (idx l_ i_).bind fun ba =>
  (jD m_ ba x_).bind fun r_ =>
  bif r_ then (
   some (.done (.inr true)))
  else (
   some (.next (w64 (i_ + 1)))))
 else (
  some (.done (.inl ())))
def qC (m_ : z6) (l_ : List (List Int)) (x_ : za) : Option Bool :=
 (loop (fun s => vE m_ l_ x_ s) 0).bind fun t2 =>
 match t2 with
 | .inl p => uM x_
 | .inr p => some p
def uL (out : List za) : Option (List za) :=
 some out
def wz (i_ : Int) (a7 : List za) : Option (LR (List za × Int) (List za)) :=
 some (.next (a7, w64 (i_ + 1)))
def wy (m_ : z6) (l_ : List (List Int)) (r_ : List za) (ak : List za) (i_ : Int) : Option (LR (List za × Int) (List za)) :=
 bif decide (i_ < ((r_.length : Nat) : Int)) then (
  (idx r_ i_).bind fun bv =>
  (qC m_ l_ bv).bind fun ah =>
  bif !ah then (
   (idx r_ i_).bind fun fh =>
   gd (ak.length + ([fh] : List za).length ≤ 4294967296) <|
   wz i_ (ak ++ ([fh] : List za)))
  else (
   wz i_ ak))
 else (
  some (.done ak))
def qA (m_ : z6) (l_ : List (List Int)) (goal : Int) : Option (List za) :=
 (kI m_ goal).bind fun r_ =>
 (loop (fun s => wy m_ l_ r_ s.1 s.2) (([] : List za), 0)).bind fun t2 =>
 uL t2
def Wr (n_ : ua (yp Int)) : Option zJ :=
 some (zJ.mk n_.e0 n_.e1 n_.e2)
def u3 (m_ : z6) (l_ : List (List Int)) (cr : ua (yp Int)) (goal : Int) : Option (LR (ua (yp Int) × Int) (ua (yp Int))) :=
 bif decide (goal < 3) then (
  (kI m_ goal).bind fun r_ =>
  (idx (ua.toL cr) goal).bind fun cell =>
  (some (ua.setI cr goal (yp.mk cell.e0 ((r_.length : Nat) : Int)))).bind fun arr =>
  (idx (ua.toL arr) goal).bind fun d8 =>
  (qA m_ l_ goal).bind fun ah =>
  (idx (ua.toL arr) goal).bind fun dm =>
  (some (ua.setI arr goal (yp.mk (w64 (d8.e1 - ((ah.length : Nat) : Int))) dm.e1))).bind fun arr1 =>
  some (.next (arr1, w64 (goal + 1))))
 else (
  some (.done cr))
def V9 (m_ : z6) (l_ : List (List Int)) : Option zJ :=
 (loop (fun s => u3 m_ l_ s.1 s.2) ((ua.mk (yp.mk 0 0) (yp.mk 0 0) (yp.mk 0 0)), 0)).bind fun t2 =>
 Wr t2
def XE : Option z6 :=
 some (z6.mk 2 2 ([[(ze.mk 1 0), (ze.mk 0 0)], [(ze.mk 0 1), (ze.mk 1 0)]]))
def Zl (x0 : Int) (x_ : zh) : Option Bool :=
 (some ((z7e x_.states_ x0).getD false)).bind fun val =>
 some val
def Zk (x0 : Int) (x1 : Int) (x_ : zh) : Option Bool :=
 (some ((z7e x_.edges_ (yp.mk x0 x1)).getD false)).bind fun val =>
 some val
def Zj (x0 : z8) (x_ : zh) : Option Bool :=
 (some ((z7e x_.pairs_ x0).getD false)).bind fun val =>
 some val
def z0i (f : Int ⊕ (Int × Int) ⊕ z8) (x : zh) : Option Bool :=
 match f with
 | (.inl c) => Zl c x
 | (.inr (.inl c)) => Zk c.1 c.2 x
 | (.inr (.inr c)) => Zj c x
def yi (s_ : List z8) : Option (List z8) :=
 gd ((0 : Int) ≤ 0 ∧ (0 : Int) ≤ ((s_.length : Nat) : Int) ∧ (((s_.length : Nat) : Int) : Int) ≤ ((s_.length : Nat) : Int) ∧ (((s_.length : Nat) : Int) : Int) ≤ ((s_.length : Nat) : Int)) <|
 some ((s_.drop 0).take (((s_.length : Nat) : Int).toNat - 0))
def uw (out : List z8) : Option (List z8 × Int) :=
 (yi out).bind fun am =>
 some (am, 0)
def wX (av : Int) (a7 : List z8) : Option (LR (List z8 × Int) (List z8)) :=
 some (.next (a7, w64 (av + 1)))
def uu (ah : zh) (au : List zb) (ak : List z8) (av : Int) : Option (LR (List z8 × Int) (List z8)) :=
 bif decide (av < ((au.length : Nat) : Int)) then (
  (idx au av).bind fun bv =>
  (z0i bv.has_ ah).bind fun aw =>
  bif !aw then (
   gd (ak.length + ([bv.pair_] : List z8).length ≤ 4294967296) <|
   wX av (ak ++ ([bv.pair_] : List z8)))
  else (
   wX av ak))
 else (
  some (.done ak))
def jm (m_ : z6) (l_ : List (List Int)) (goal : Int) : Option (List z8 × Int) :=
 (xG m_ l_).bind fun r_ =>
 bif r_ != 0 then (
  some (([] : List z8), r_))
 else (
  (yn m_ l_).bind fun ah =>
  (wM m_ goal).bind fun au =>
  (loop (fun s => uu ah au s.1 s.2) (([] : List z8), 0)).bind fun t2 =>
  uw t2)
def qN (r_ : List z8 × Int) (out : List (yp Int)) : Option (List (yp Int) × Int) :=
 some (out, r_.2)
def qM (r_ : List z8 × Int) (ak : List (yp Int)) (gr : Int) : Option (LR (List (yp Int) × Int) (List (yp Int))) :=
 bif decide (gr < ((r_.1.length : Nat) : Int)) then (
  (idx r_.1 gr).bind fun u_ =>
  gd (ak.length + ([(yp.mk u_.State u_.Input)] : List (yp Int)).length ≤ 4294967296) <|
  some (.next ((ak ++ ([(yp.mk u_.State u_.Input)] : List (yp Int))), w64 (gr + 1))))
 else (
  some (.done ak))
def Zn (m_ : z6) (l_ : List (List Int)) : Option (List (yp Int) × Int) :=
 (jm m_ l_ 1).bind fun r_ =>
 gd ((0 : Int) ≤ ((r_.1.length : Nat) : Int) ∧ (((r_.1.length : Nat) : Int) : Int) ≤ 4294967296) <|
 (loop (fun s => qM r_ s.1 s.2) (([] : List (yp Int)), 0)).bind fun t2 =>
 qN r_ t2
def vY (s_ : List (List Int)) : Option (List (List Int)) :=
 gd (([] : List (List Int)).length + s_.length ≤ 4294967296) <|
 some s_
def ju (a_ : List Int) (b_ : List Int) : Option Bool :=
 (vo a_ b_).bind fun r_ =>
 some (r_ == 0)
def xD (s_ : List (List Int)) : Option (List (List Int)) :=
 some s_
def xC (k_ : Int) : Option (LR Int (Unit ⊕ List (List Int))) :=
 some (.next (w64 (k_ + 1)))
def xA (dt : List (List Int)) (cu : Int) : Option (LR Int (Unit ⊕ List (List Int))) :=
 gd ((0 : Int) ≤ cu ∧ (cu : Int) ≤ ((dt.length : Nat) : Int)) <|
 gd ((0 : Int) ≤ cu ∧ (cu : Int) ≤ ((dt.length : Nat) : Int)) <|
 gd ((0 : Int) ≤ cu ∧ (cu : Int) ≤ (((dt.take cu.toNat ++ List.replicate (dt.length - cu.toNat) []).length : Nat) : Int)) <|
 some (.done (.inr ((dt.take cu.toNat ++ List.replicate (dt.length - cu.toNat) []).take cu.toNat)))
def yz (k2 : Int) (ia : List (List Int)) (ib : Int) : Option (LR (List (List Int) × Int × Int) ((List (List Int) × Int))) :=
 some (.next (ia, ib, w64 (k2 + 1)))
def xy (k_ : Int) (dj : List (List Int)) (em : Int) (k2 : Int) : Option (LR (List (List Int) × Int × Int) ((List (List Int) × Int))) :=
 bif decide (k2 < ((dj.length - k_.toNat : Nat) : Int)) then (
  gd ((0 : Int) ≤ k_ ∧ (0 : Int) ≤ k2) <|
  (idx dj (k_ + k2)).bind fun gf =>
  gd ((0 : Int) ≤ k_ ∧ (0 : Int) ≤ w64 (k2 - 1)) <|
  (idx dj (k_ + (w64 (k2 - 1)))).bind fun gg =>
  (ju gf gg).bind fun ah =>
  bif !ah then (
   gd ((0 : Int) ≤ k_ ∧ (0 : Int) ≤ k2) <|
   (idx dj (k_ + k2)).bind fun gh =>
   (idx dj em).bind fun iw =>
   yz k2 (dj.set em.toNat gh) (w64 (em + 1)))
  else (
   yz k2 dj em))
 else (
  some (.done (dj, em)))
def xz (s_ : List (List Int)) (k_ : Int) : Option (LR Int (Unit ⊕ List (List Int))) :=
 bif decide (k_ < ((s_.length : Nat) : Int)) then (
  (idx s_ k_).bind fun dp =>
  (idx s_ (w64 (k_ - 1))).bind fun gi =>
  (ju dp gi).bind fun r_ =>
  bif r_ then (
   gd ((0 : Int) ≤ k_ ∧ (k_ : Int) ≤ ((s_.length : Nat) : Int)) <|
   (loop (fun s => xy k_ s.1 s.2.1 s.2.2) (s_, k_, 1)).bind fun t5 =>
   xA t5.1 t5.2)
  else (
   xC k_))
 else (
  some (.done (.inl ())))
def wg (s_ : List (List Int)) (eq : Unit) : Option (List (List Int)) :=
 bif decide (((s_.length : Nat) : Int) < 2) then (
  some s_)
 else (
  (loop (fun s => xz s_ s) 1).bind fun t2 =>
  match t2 with
  | .inl p => xD s_
  | .inr p => some p)
def xY (s_ : List (List Int)) : Option (List (List Int)) :=
 some s_
def kQ (out : List (List Int × Bool)) : Option (List (List Int) × Int) :=
 gd (∀ q ∈ out, q.2 = true) <|
 some ((out.map (·.1)), 0)
def kP (am : List (List Int)) (a7 : List (List Int × Bool)) (ep : Int) : Option (LR ((List (List Int × Bool)) × Int) ((List (List Int × Bool)))) :=
 bif decide (ep < ((am.length - (0 : Int).toNat : Nat) : Int)) then (
  gd ((0 : Int) ≤ 0 ∧ (0 : Int) ≤ ep) <|
  (idx a7 (0 + ep)).bind fun dh =>
  (zS dh.1).bind fun aw =>
  (zZ aw).bind fun cb =>
  (idx a7 ep).bind fun ee =>
  some (.next ((a7.set ep.toNat (cb, true)), w64 (ep + 1))))
 else (
  some (.done a7))
def Xq (l_ : List (List Int)) : Option (List (List Int) × Int) :=
 (vY l_).bind fun r_ =>
 (z9C (fun x y => vo x y) r_).bind fun sorted =>
 (wg sorted ()).bind fun ah =>
 (xY ah).bind fun am =>
 bif decide (((am.length : Nat) : Int) > 4096) then (
  some (([] : List (List Int)), 3))
 else (
  (jb am).bind fun au =>
  bif decide (au > 65536) then (
   some (([] : List (List Int)), 3))
  else (
   (loop (fun s => kP am s.1 s.2) ((am.map fun q => (q, false)), 0)).bind fun t2 =>
   kQ t2))
def VF (l_ : List (List Int)) (inputs : Int) : Option (List (List Int) × Int) :=
 (jd l_ inputs).bind fun r_ =>
 bif r_ != 0 then (
  some (([] : List (List Int)), r_))
 else (
  (Xq l_).bind fun ah =>
  some (ah.1, ah.2))
def qg (m_ : z6) (ak : List (List Int)) : Option (List (List Int) × Int) :=
 bif decide (((ak.length : Nat) : Int) > 4096) then (
  some (([] : List (List Int)), 3))
 else (
  (VF ak m_.Inputs).bind fun am =>
  some (am.1, am.2))
def vA (eg : Int) (bk : List (Int × Bool)) (bq : List ((yp Int) × Bool)) (bf : List (z8 × Bool)) (bp : List (List Int)) : Option (LR ((List (Int × Bool)) × (List ((yp Int) × Bool)) × (List (z8 × Bool)) × List (List Int) × Int) (List (List Int))) :=
 some (.next (bk, bq, bf, bp, w64 (eg + 1)))
def qe (m_ : z6) (au : List zb) (al : List (Int × Bool)) (ap : List ((yp Int) × Bool)) (aq : List (z8 × Bool)) (a7 : List (List Int)) (eg : Int) : Option (LR ((List (Int × Bool)) × (List ((yp Int) × Bool)) × (List (z8 × Bool)) × List (List Int) × Int) (List (List Int))) :=
 bif decide (eg < ((au.length : Nat) : Int)) then (
  (idx au eg).bind fun bv =>
  (z0i bv.has_ (zh.mk al ap aq)).bind fun aw =>
  bif !aw then (
   (xj m_ bv.word_ (zh.mk al ap aq)).bind fun cb =>
   (zS bv.word_).bind fun cj =>
   (zZ cj).bind fun dw =>
   gd (a7.length + ([dw] : List (List Int)).length ≤ 4294967296) <|
   vA eg cb.states_ cb.edges_ cb.pairs_ (a7 ++ ([dw] : List (List Int))))
  else (
   vA eg al ap aq a7))
 else (
  some (.done a7))
def qj (m_ : z6) (goal : Int) (ah : zh) (out : List (List Int)) : Option (List (List Int) × Int) :=
 (wM m_ goal).bind fun au =>
 (loop (fun s => qe m_ au s.1 s.2.1 s.2.2.1 s.2.2.2.1 s.2.2.2.2) (ah.states_, ah.edges_, ah.pairs_, out, 0)).bind fun t3 =>
 qg m_ t3
def qd (l_ : List (List Int)) (ct : List (List Int)) (gt : Int) : Option (LR (List (List Int) × Int) (List (List Int))) :=
 bif decide (gt < ((l_.length : Nat) : Int)) then (
  (idx l_ gt).bind fun ba =>
  (zS ba).bind fun dx =>
  (zZ dx).bind fun cm =>
  gd (ct.length + ([cm] : List (List Int)).length ≤ 4294967296) <|
  some (.next ((ct ++ ([cm] : List (List Int))), w64 (gt + 1))))
 else (
  some (.done ct))
def k9 (m_ : z6) (l_ : List (List Int)) (goal : Int) : Option (List (List Int) × Int) :=
 (xG m_ l_).bind fun r_ =>
 bif r_ != 0 then (
  some (([] : List (List Int)), r_))
 else (
  bif decide (goal < 0) then (
   some (([] : List (List Int)), 1))
  else (
   bif decide (goal ≥ 3) then (
    some (([] : List (List Int)), 1))
   else (
    (yn m_ l_).bind fun ah =>
    gd ((0 : Int) ≤ ((l_.length : Nat) : Int) ∧ (((l_.length : Nat) : Int) : Int) ≤ 4294967296) <|
    (loop (fun s => qd l_ s.1 s.2) (([] : List (List Int)), 0)).bind fun t5 =>
    qj m_ goal ah t5)))
def jo (out : List Int) : Option (List Int) :=
 some out
def um (dc : Int) (a7 : List Int) : Option (LR (List Int × Int) (List Int)) :=
 some (.next (a7, w64 (dc + 1)))
def jn (bo : List zb) (x_ : zh) (ak : List Int) (dc : Int) : Option (LR (List Int × Int) (List Int)) :=
 bif decide (dc < ((bo.length : Nat) : Int)) then (
  (idx bo dc).bind fun ff =>
  (z0i ff.has_ x_).bind fun r_ =>
  bif r_ then (
   gd ((64 : Int) ≠ 0) <|
   (idx ak (w64 (Int.tdiv dc 64))).bind fun dh =>
   gd ((64 : Int) ≠ 0) <|
   gd ((0 : Int) ≤ Int.tmod dc 64) <|
   (idx ak (w64 (Int.tdiv dc 64))).bind fun ee =>
   um dc (ak.set (w64 (Int.tdiv dc 64)).toNat (orK .u64 dh (z8i .u64 1 (Int.tmod dc 64)))))
  else (
   um dc ak))
 else (
  some (.done ak))
def uH (bo : List zb) (x_ : zh) : Option (List Int) :=
 gd ((64 : Int) ≠ 0) <|
 gd ((0 : Int) ≤ w64 ((w64 (Int.tdiv ((bo.length : Nat) : Int) 64)) + 1) ∧ (w64 ((w64 (Int.tdiv ((bo.length : Nat) : Int) 64)) + 1) : Int) ≤ 4294967296) <|
 (loop (fun s => jn bo x_ s.1 s.2) ((List.replicate (w64 ((w64 (Int.tdiv ((bo.length : Nat) : Int) 64)) + 1)).toNat (0 : Int)), 0)).bind fun t2 =>
 jo t2
def xR : Option Bool :=
 some true
def xQ (s1 : List Int) (s2 : List Int) (ga : Int) : Option (LR Int (Unit ⊕ Bool)) :=
 bif decide (ga < ((s1.length : Nat) : Int)) then (
  (idx s1 ga).bind fun gn =>
  (idx s2 ga).bind fun fx =>
  bif gn != fx then (
   some (.done (.inr false)))
  else (
   some (.next (w64 (ga + 1)))))
 else (
  some (.done (.inl ())))
def wr (s1 : List Int) (s2 : List Int) : Option Bool :=
 bif ((s1.length : Nat) : Int) != ((s2.length : Nat) : Int) then (
  some false)
 else (
  (loop (fun s => xQ s1 s2 s) 0).bind fun t2 =>
  match t2 with
  | .inl p => xR
  | .inr p => some p)
def ws (s_ : List Int) : Option (List Int) :=
 gd (([] : List Int).length + s_.length ≤ 4294967296) <|
 some s_
def wo : Option (List Int × Bool) :=
 some (([] : List Int), false)
def wn (i_ : Int) : Option (LR Int (Unit ⊕ (List Int × Bool))) :=
 some (.next (w64 (i_ + 1)))
def wm (c_ : zz) (many : Int) (dr : zz → (List Int) → Int → Int → Option (List Int × Bool)) (i_ : Int) (eu : List Int) : Option (LR Int (Unit ⊕ (List Int × Bool))) :=
 (dr c_ eu (w64 (i_ + 1)) (w64 (many - 1))).bind fun am =>
 bif am.2 then (
  gd (([i_] : List Int).length + am.1.length ≤ 4294967296) <|
  some (.done (.inr ((([i_]) ++ am.1), true))))
 else (
  wn i_)
def wj (cw : List Int) (dl : List Int) (dg : Int) : Option (LR (List Int × Int) (List Int)) :=
 bif decide (dg < ((cw.length : Nat) : Int)) then (
  (idx cw dg).bind fun ew =>
  (idx dl dg).bind fun fq =>
  (idx dl dg).bind fun ic =>
  some (.next ((dl.set dg.toNat (orK .u64 fq ew)), w64 (dg + 1))))
 else (
  some (.done dl))
def wk (c_ : zz) (bt : List Int) (many : Int) (dr : zz → (List Int) → Int → Int → Option (List Int × Bool)) (i_ : Int) : Option (LR Int (Unit ⊕ (List Int × Bool))) :=
 bif decide ((w64 (i_ + many)) ≤ ((c_.sets_.length : Nat) : Int)) then (
  (ws bt).bind fun ah =>
  (idx c_.sets_ i_).bind fun cw =>
  (loop (fun s => wj cw s.1 s.2) (ah, 0)).bind fun t5 =>
  wm c_ many dr i_ t5)
 else (
  some (.done (.inl ())))
def ww (dr : zz → (List Int) → Int → Int → Option (List Int × Bool)) (c_ : zz) (bt : List Int) (from_ : Int) (many : Int) : Option (List Int × Bool) :=
 bif many == 0 then (
  (wr bt c_.want_).bind fun r_ =>
  some (([] : List Int), r_))
 else (
  (loop (fun s => wk c_ bt many dr s) from_).bind fun t2 =>
  match t2 with
  | .inl p => wo
  | .inr p => some p)
def uq (fu : Nat) : zz → (List Int) → Int → Int → Option (List Int × Bool) := Nat.rec (motive := fun _ => zz → (List Int) → Int → Int → Option (List Int × Bool)) (fun _ _ _ _ => none) (fun _ ih => ww ih) fu
def qp (c_ : zz) (bt : List Int) (from_ : Int) (many : Int) : Option (List Int × Bool) := uq (many.toNat + 1) c_ bt from_ many
def qa : Option (List (List Int) × Int) :=
 some (([] : List (List Int)), 0)
def q9 (dz : Int) : Option (LR Int (Unit ⊕ (List (List Int) × Int))) :=
 some (.next (w64 (dz + 1)))
def uZ (out : List (List Int)) : Option (LR Int (Unit ⊕ (List (List Int) × Int))) :=
 some (.done (.inr (out, 0)))
def uX (l_ : List (List Int)) (cj : List Int × Bool) (ak : List (List Int)) (gu : Int) : Option (LR (List (List Int) × Int) (List (List Int))) :=
 bif decide (gu < ((cj.1.length : Nat) : Int)) then (
  (idx cj.1 gu).bind fun u_ =>
  (idx l_ u_).bind fun ba =>
  (zS ba).bind fun dw =>
  (zZ dw).bind fun dx =>
  gd (ak.length + ([dx] : List (List Int)).length ≤ 4294967296) <|
  some (.next ((ak ++ ([dx] : List (List Int))), w64 (gu + 1))))
 else (
  some (.done ak))
def uY (l_ : List (List Int)) (ah : List zb) (au : List Int) (ce : List (List Int)) (dz : Int) : Option (LR Int (Unit ⊕ (List (List Int) × Int))) :=
 bif decide (dz < (w64 (((l_.length : Nat) : Int) + 1))) then (
  (uG).bind fun aw =>
  (uH ah aw).bind fun cb =>
  (qp (zz.mk ce au) cb 0 dz).bind fun cj =>
  bif !cj.2 then (
   q9 dz)
  else (
   gd ((0 : Int) ≤ ((cj.1.length : Nat) : Int) ∧ (((cj.1.length : Nat) : Int) : Int) ≤ 4294967296) <|
   (loop (fun s => uX l_ cj s.1 s.2) (([] : List (List Int)), 0)).bind fun t6 =>
   uZ t6))
 else (
  some (.done (.inl ())))
def qb (l_ : List (List Int)) (ah : List zb) (au : List Int) (ce : List (List Int)) : Option (List (List Int) × Int) :=
 (loop (fun s => uY l_ ah au ce s) 0).bind fun t3 =>
 match t3 with
 | .inl p => qa
 | .inr p => some p
def uW (m_ : z6) (l_ : List (List Int)) (ah : List zb) (cq : List (List Int)) (dg : Int) : Option (LR (List (List Int) × Int) (List (List Int))) :=
 bif decide (dg < ((l_.length : Nat) : Int)) then (
  (idx l_ dg).bind fun cn =>
  (yn m_ ([cn])).bind fun cm =>
  (uH ah cm).bind fun fc =>
  gd (cq.length + ([fc] : List (List Int)).length ≤ 4294967296) <|
  some (.next ((cq ++ ([fc] : List (List Int))), w64 (dg + 1))))
 else (
  some (.done cq))
def k8 (m_ : z6) (l_ : List (List Int)) (goal : Int) : Option (List (List Int) × Int) :=
 (xG m_ l_).bind fun r_ =>
 bif r_ != 0 then (
  some (([] : List (List Int)), r_))
 else (
  bif decide (goal < 0) then (
   some (([] : List (List Int)), 1))
  else (
   bif decide (goal ≥ 3) then (
    some (([] : List (List Int)), 1))
   else (
    bif decide (((l_.length : Nat) : Int) > 16) then (
     some (([] : List (List Int)), 3))
    else (
     (wM m_ goal).bind fun ah =>
     (yn m_ l_).bind fun am =>
     (uH ah am).bind fun au =>
     (loop (fun s => uW m_ l_ ah s.1 s.2) (([] : List (List Int)), 0)).bind fun t7 =>
     qb l_ ah au t7))))
def vM (i_ : Int) : Option (List UInt8) :=
 bif decide (i_ < 10) then (
  gd ((0 : Int) ≤ i_ ∧ (i_ : Int) ≤ w64 (i_ + 1) ∧ (w64 (i_ + 1) : Int) ≤ ((([48, 49, 50, 51, 52, 53, 54, 55, 56, 57, 97, 98, 99, 100, 101, 102, 103, 104, 105, 106, 107, 108, 109, 110, 111, 112, 113, 114, 115, 116, 117, 118, 119, 120, 121, 122] : List UInt8).length : Nat) : Int)) <|
  some ((([48, 49, 50, 51, 52, 53, 54, 55, 56, 57, 97, 98, 99, 100, 101, 102, 103, 104, 105, 106, 107, 108, 109, 110, 111, 112, 113, 114, 115, 116, 117, 118, 119, 120, 121, 122] : List UInt8).take (w64 (i_ + 1)).toNat).drop i_.toNat))
 else (
  gd ((0 : Int) ≤ w64 (i_ * 2) ∧ (w64 (i_ * 2) : Int) ≤ w64 ((w64 (i_ * 2)) + 2) ∧ (w64 ((w64 (i_ * 2)) + 2) : Int) ≤ ((([48, 48, 48, 49, 48, 50, 48, 51, 48, 52, 48, 53, 48, 54, 48, 55, 48, 56, 48, 57, 49, 48, 49, 49, 49, 50, 49, 51, 49, 52, 49, 53, 49, 54, 49, 55, 49, 56, 49, 57, 50, 48, 50, 49, 50, 50, 50, 51, 50, 52, 50, 53, 50, 54, 50, 55, 50, 56, 50, 57, 51, 48, 51, 49, 51, 50, 51, 51, 51, 52, 51, 53, 51, 54, 51, 55, 51, 56, 51, 57, 52, 48, 52, 49, 52, 50, 52, 51, 52, 52, 52, 53, 52, 54, 52, 55, 52, 56, 52, 57, 53, 48, 53, 49, 53, 50, 53, 51, 53, 52, 53, 53, 53, 54, 53, 55, 53, 56, 53, 57, 54, 48, 54, 49, 54, 50, 54, 51, 54, 52, 54, 53, 54, 54, 54, 55, 54, 56, 54, 57, 55, 48, 55, 49, 55, 50, 55, 51, 55, 52, 55, 53, 55, 54, 55, 55, 55, 56, 55, 57, 56, 48, 56, 49, 56, 50, 56, 51, 56, 52, 56, 53, 56, 54, 56, 55, 56, 56, 56, 57, 57, 48, 57, 49, 57, 50, 57, 51, 57, 52, 57, 53, 57, 54, 57, 55, 57, 56, 57, 57] : List UInt8).length : Nat) : Int)) <|
  some ((([48, 48, 48, 49, 48, 50, 48, 51, 48, 52, 48, 53, 48, 54, 48, 55, 48, 56, 48, 57, 49, 48, 49, 49, 49, 50, 49, 51, 49, 52, 49, 53, 49, 54, 49, 55, 49, 56, 49, 57, 50, 48, 50, 49, 50, 50, 50, 51, 50, 52, 50, 53, 50, 54, 50, 55, 50, 56, 50, 57, 51, 48, 51, 49, 51, 50, 51, 51, 51, 52, 51, 53, 51, 54, 51, 55, 51, 56, 51, 57, 52, 48, 52, 49, 52, 50, 52, 51, 52, 52, 52, 53, 52, 54, 52, 55, 52, 56, 52, 57, 53, 48, 53, 49, 53, 50, 53, 51, 53, 52, 53, 53, 53, 54, 53, 55, 53, 56, 53, 57, 54, 48, 54, 49, 54, 50, 54, 51, 54, 52, 54, 53, 54, 54, 54, 55, 54, 56, 54, 57, 55, 48, 55, 49, 55, 50, 55, 51, 55, 52, 55, 53, 55, 54, 55, 55, 55, 56, 55, 57, 56, 48, 56, 49, 56, 50, 56, 51, 56, 52, 56, 53, 56, 54, 56, 55, 56, 56, 56, 57, 57, 48, 57, 49, 57, 50, 57, 51, 57, 52, 57, 53, 57, 54, 57, 55, 57, 56, 57, 57] : List UInt8).take (w64 ((w64 (i_ * 2)) + 2)).toNat).drop (w64 (i_ * 2)).toNat))
def yK (u_ : Int) : Option (List UInt8) :=
 none
def yM (i_ : Int) : Option (List UInt8) :=
 bif decide (i_ < 0) then (
  yK (IntKind.u64.wrap (0 - (IntKind.u64.wrap (i_)))))
 else (
  yK (IntKind.u64.wrap (i_)))
def wu (i_ : Int) (base : Int) : Option (List UInt8) :=
 bif base == 10 then (
  bif decide (0 ≤ i_) then (
   bif decide (i_ < 100) then (
    (vM i_).bind fun r_ =>
    some r_)
   else (
    yM i_))
  else (
   yM i_))
 else (
  none)
def u6 (i_ : Int) : Option (List UInt8) :=
 (wu i_ 10).bind fun r_ =>
 some r_
def vj (i_ : Int) : Option (List UInt8) :=
 (u6 i_).bind fun r_ =>
 some r_
def jp (s_ : List UInt8) : Option (List UInt8) :=
 some s_
def ZS (c_ : zJ) : Option (List UInt8) :=
 (vj c_.States.e0).bind fun r_ =>
 gd (([115, 116, 97, 116, 101, 115, 32] : List UInt8).length + r_.length ≤ 4611686018427387904) <|
 gd ((([115, 116, 97, 116, 101, 115, 32] : List UInt8) ++ r_).length + ([47] : List UInt8).length ≤ 4611686018427387904) <|
 (vj c_.States.e1).bind fun ah =>
 gd (((([115, 116, 97, 116, 101, 115, 32] : List UInt8) ++ r_) ++ ([47] : List UInt8)).length + ah.length ≤ 4611686018427387904) <|
 gd (([] : List UInt8).length + (((([115, 116, 97, 116, 101, 115, 32] : List UInt8) ++ r_) ++ ([47] : List UInt8)) ++ ah).length ≤ 4611686018427387904) <|
 (vj c_.Edges.e0).bind fun am =>
 gd (([44, 32, 101, 100, 103, 101, 115, 32] : List UInt8).length + am.length ≤ 4611686018427387904) <|
 gd ((([44, 32, 101, 100, 103, 101, 115, 32] : List UInt8) ++ am).length + ([47] : List UInt8).length ≤ 4611686018427387904) <|
 (vj c_.Edges.e1).bind fun au =>
 gd (((([44, 32, 101, 100, 103, 101, 115, 32] : List UInt8) ++ am) ++ ([47] : List UInt8)).length + au.length ≤ 4611686018427387904) <|
 gd ((([] : List UInt8) ++ (((([115, 116, 97, 116, 101, 115, 32] : List UInt8) ++ r_) ++ ([47] : List UInt8)) ++ ah)).length + (((([44, 32, 101, 100, 103, 101, 115, 32] : List UInt8) ++ am) ++ ([47] : List UInt8)) ++ au).length ≤ 4611686018427387904) <|
 (vj c_.Pairs.e0).bind fun aw =>
 gd (([44, 32, 112, 97, 105, 114, 115, 32] : List UInt8).length + aw.length ≤ 4611686018427387904) <|
 gd ((([44, 32, 112, 97, 105, 114, 115, 32] : List UInt8) ++ aw).length + ([47] : List UInt8).length ≤ 4611686018427387904) <|
 (vj c_.Pairs.e1).bind fun cb =>
 gd (((([44, 32, 112, 97, 105, 114, 115, 32] : List UInt8) ++ aw) ++ ([47] : List UInt8)).length + cb.length ≤ 4611686018427387904) <|
 gd (((([] : List UInt8) ++ (((([115, 116, 97, 116, 101, 115, 32] : List UInt8) ++ r_) ++ ([47] : List UInt8)) ++ ah)) ++ (((([44, 32, 101, 100, 103, 101, 115, 32] : List UInt8) ++ am) ++ ([47] : List UInt8)) ++ au)).length + (((([44, 32, 112, 97, 105, 114, 115, 32] : List UInt8) ++ aw) ++ ([47] : List UInt8)) ++ cb).length ≤ 4611686018427387904) <|
 jp (((([] : List UInt8) ++ (((([115, 116, 97, 116, 101, 115, 32] : List UInt8) ++ r_) ++ ([47] : List UInt8)) ++ ah)) ++ (((([44, 32, 101, 100, 103, 101, 115, 32] : List UInt8) ++ am) ++ ([47] : List UInt8)) ++ au)) ++ (((([44, 32, 112, 97, 105, 114, 115, 32] : List UInt8) ++ aw) ++ ([47] : List UInt8)) ++ cb))
def YC : Option Bool :=
 some true
def YB (a_ : List (List Int)) (b_ : List (List Int)) (i_ : Int) : Option (LR Int (Unit ⊕ Bool)) :=
 bif decide (i_ < ((a_.length : Nat) : Int)) then (
  (idx a_ i_).bind fun ft =>
  (idx b_ i_).bind fun fw =>
  (vu ft fw).bind fun r_ =>
  bif r_ != 0 then (
   some (.done (.inr false)))
  else (
   some (.next (w64 (i_ + 1)))))
 else (
  some (.done (.inl ())))
def XR (a_ : List (List Int)) (b_ : List (List Int)) : Option Bool :=
 bif ((a_.length : Nat) : Int) != ((b_.length : Nat) : Int) then (
  some false)
 else (
  (loop (fun s => YB a_ b_ s) 0).bind fun t2 =>
  match t2 with
  | .inl p => YC
  | .inr p => some p)
def YH : Option Bool :=
 (XE).bind fun r_ =>
 (u7 r_ []).bind fun ah =>
 (u7 r_ ([[1], [0, 0, 1]])).bind fun am =>
 (Zn r_ ([[1], [0, 0, 1]])).bind fun au =>
 (k9 r_ [] 1).bind fun aw =>
 (k8 r_ ([[0], [1], [0, 0], [0, 1, 1]]) 1).bind fun cb =>
 bif ah.2 == 0 then (
  bif am.2 == 0 then (
   bif au.2 == 0 then (
    bif aw.2 == 0 then (
     bif cb.2 == 0 then (
      bif (ah.1.States.e0 == 1) && ((ah.1.States.e1 == 2) && ((ah.1.Edges.e0 == 0) && ((ah.1.Edges.e1 == 4) && ((ah.1.Pairs.e0 == 0) && ((ah.1.Pairs.e1 == 8) && true))))) then (
       (ZS ah.1).bind fun cj =>
       bif cj == ([115, 116, 97, 116, 101, 115, 32, 49, 47, 50, 44, 32, 101, 100, 103, 101, 115, 32, 48, 47, 52, 44, 32, 112, 97, 105, 114, 115, 32, 48, 47, 56] : List UInt8) then (
        bif (am.1.States.e0 == 2) && ((am.1.States.e1 == 2) && ((am.1.Edges.e0 == 3) && ((am.1.Edges.e1 == 4) && ((am.1.Pairs.e0 == 2) && ((am.1.Pairs.e1 == 8) && true))))) then (
         bif ((au.1.length : Nat) : Int) == 1 then (
          (idx au.1 0).bind fun u_ =>
          bif (u_.e0 == 1) && ((u_.e1 == 1) && true) then (
           (XR aw.1 ([[0], [1], [0, 0], [0, 1]])).bind fun dw =>
           bif dw then (
            (XR cb.1 ([[1], [0, 0], [0, 1, 1]])).bind fun dx =>
            some dx)
           else (
            some false))
          else (
           some false))
         else (
          some false))
        else (
         some false))
       else (
        some false))
      else (
       some false))
     else (
      some false))
    else (
     some false))
   else (
    some false))
  else (
   some false))
 else (
  some false)
def uj (x_ : xW) : Option Bool :=
 (kL (xW.mk x_.M x_.L)).bind fun r_ =>
 (u7 r_.1 r_.2).bind fun ah =>
 bif ah.2 == 0 then (
  (V9 r_.1 r_.2).bind fun am =>
  bif (ah.1.States.e0 == am.States.e0) && ((ah.1.States.e1 == am.States.e1) && ((ah.1.Edges.e0 == am.Edges.e0) && ((ah.1.Edges.e1 == am.Edges.e1) && ((ah.1.Pairs.e0 == am.Pairs.e0) && ((ah.1.Pairs.e1 == am.Pairs.e1) && true))))) then (
   (YH).bind fun au =>
   some au)
  else (
   some false))
 else (
  some false)
abbrev F0_ := Vf (eI .i64)
abbrev F1_ := eSl 1 false (eI .u8)
abbrev F2_ := eSl 1 true (eI .i64)
abbrev F3_ := eOs 1 true (eI .i64)
abbrev F4_ := eSl 1 true (eI .u64)
abbrev F5_ := eSl 1 false (eI .u16)
abbrev F6_ := eOs 1 false (eI .i64)
abbrev F7_ := eSl 1 false (eI .i64)
abbrev F8_ := eSl 1 false (eI .u64)
abbrev F9_ := zeJ F0_
abbrev up := wB (eI .i64) (eI .i64)
abbrev z6d := eSl 1 true F2_
abbrev zaS := eSl 1 true F7_
abbrev z6c := eOs 1 false F7_
abbrev ZZ := eSl 1 false F7_
abbrev zhE := eSl 1 false F8_
abbrev uB := vn (eI .i64) (eI .i64) (eI .i64)
abbrev zgM := eSl 2 true up
abbrev vO := eSl 2 false up
abbrev z0D := eOs 2 false up
abbrev qu := Zi (eI .i64) (eI .i64) (eI .i64)
abbrev zG := zY (eI .i64) (eI .i64) (eI .i64)
abbrev zhD := eSl 1 true zgM
abbrev zhC := eSl 1 false vO
abbrev K6 := uF (eI .u8) (eI .u8) (eI .u8) eB F5_
abbrev zdM := x5 F0_ F0_ F0_
abbrev z8O := yR zhE F8_
abbrev zdL := eSp z8O
abbrev zaR := vz (eI .i64) (eI .i64) zhD
abbrev yj := vz (eI .i64) (eI .i64) zhC
abbrev z8a := eSp yj
def rpN {α : Type _} (n : Nat) (a : α) (l : List α) : List α := Nat.rec l (fun _ r => a :: r) n
abbrev aLn (n : Nat) : H := .a (.atom (.int .i64 ((n : Nat) : Int)))
end Go.Own

namespace Go.Proofs
open Go.Shelf
def Tryz.so66_ren : Go.Shelf.Ren := ⟨fun | 6 => 66 | 15 => 80 | 14 => 79 | 28 => 99 | 29 => 100 | 20 => 91 | 21 => 92 | 22 => 93 | 23 => 94 | 24 => 95 | 25 => 96 | 26 => 97 | 27 => 98 | 46 => 106 | 47 => 107 | 48 => 108 | 49 => 109 | 50 => 110 | 57 => 113 | n => n, fun | 22 => 31 | 24 => 51 | 25 => 85 | 3 => 3 | 39 => 144 | 0 => 0 | 53 => 165 | 55 => 117 | 4 => 4 | 46 => 158 | 45 => 157 | 50 => 162 | 5 => 5 | 9 => 9 | 66 => 169 | 70 => 173 | 76 => 175 | 77 => 176 | n => n, fun | n => n⟩
theorem Tryz.so66 : Go.Proofs.SlLaysF0.n6 Tryz.prog Tryz.so66_ren := {
 mixed := by kernel_rfl
 f6 := ⟨Tryz.f66.name, by decide, Tryz.func66.trans (congrArg some (by kernel_rfl))⟩
 f14 := ⟨Tryz.f79.name, by decide, Tryz.func79.trans (congrArg some (by kernel_rfl))⟩
 f15 := Tryz.func80.trans (congrArg some (by kernel_rfl))
 f20 := ⟨Tryz.f91.name, by decide, Tryz.func91.trans (congrArg some (by kernel_rfl))⟩
 f21 := ⟨Tryz.f92.name, by decide, Tryz.func92.trans (congrArg some (by kernel_rfl))⟩
 f22 := ⟨Tryz.f93.name, by decide, Tryz.func93.trans (congrArg some (by kernel_rfl))⟩
 f23 := ⟨Tryz.f94.name, by decide, Tryz.func94.trans (congrArg some (by kernel_rfl))⟩
 f24 := ⟨Tryz.f95.name, by decide, Tryz.func95.trans (congrArg some (by kernel_rfl))⟩
 f25 := ⟨Tryz.f96.name, by decide, Tryz.func96.trans (congrArg some (by kernel_rfl))⟩
 f26 := ⟨Tryz.f97.name, by decide, Tryz.func97.trans (congrArg some (by kernel_rfl))⟩
 f27 := ⟨Tryz.f98.name, by decide, Tryz.func98.trans (congrArg some (by kernel_rfl))⟩
 f28 := Tryz.func99.trans (congrArg some (by kernel_rfl))
 f29 := Tryz.func100.trans (congrArg some (by kernel_rfl))
 f46 := ⟨Tryz.f106.name, by decide, Tryz.func106.trans (congrArg some (by kernel_rfl))⟩
 f47 := Tryz.func107.trans (congrArg some (by kernel_rfl))
 f48 := Tryz.func108.trans (congrArg some (by kernel_rfl))
 f49 := ⟨Tryz.f109.name, by decide, Tryz.func109.trans (congrArg some (by kernel_rfl))⟩
 f50 := ⟨Tryz.f110.name, by decide, Tryz.func110.trans (congrArg some (by kernel_rfl))⟩
 f57 := ⟨Tryz.f113.name, by decide, Tryz.func113.trans (congrArg some (by kernel_rfl))⟩
 t0 := Tryz.underlying0
 a0 := Tryz.isAgg0
 z0 := Tryz.sizeOf0
 v0 := Tryz.zeroValue0
 t3 := Tryz.underlying3
 a3 := Tryz.isAgg3
 z3 := Tryz.sizeOf3
 v3 := Tryz.zeroValue3
 t4 := Tryz.underlying4
 a4 := Tryz.isAgg4
 z4 := Tryz.sizeOf4
 v4 := Tryz.zeroValue4
 t5 := Tryz.underlying5
 a5 := Tryz.isAgg5
 z5 := Tryz.sizeOf5
 v5 := Tryz.zeroValue5
 t9 := Tryz.underlying9
 a9 := Tryz.isAgg9
 z9 := Tryz.sizeOf9
 v9 := Tryz.zeroValue9
 t22 := Tryz.underlying31
 a22 := Tryz.isAgg31
 z22 := Tryz.sizeOf31
 v22 := Tryz.zeroValue31
 t25 := Tryz.underlying85
 a25 := Tryz.isAgg85
 z25 := Tryz.sizeOf85
 v25 := Tryz.zeroValue85
 t39 := Tryz.underlying144
 a39 := Tryz.isAgg144
 z39 := Tryz.sizeOf144
 v39 := Tryz.zeroValue144
 t45 := Tryz.underlying157
 a45 := Tryz.isAgg157
 z45 := Tryz.sizeOf157
 v45 := Tryz.zeroValue157
 t46 := Tryz.underlying158
 a46 := Tryz.isAgg158
 z46 := Tryz.sizeOf158
 v46 := Tryz.zeroValue158
 t50 := Tryz.underlying162
 a50 := Tryz.isAgg162
 z50 := Tryz.sizeOf162
 v50 := Tryz.zeroValue162
 t53 := Tryz.underlying165
 a53 := Tryz.isAgg165
 z53 := Tryz.sizeOf165
 v53 := Tryz.zeroValue165
 t55 := Tryz.underlying117
 a55 := Tryz.isAgg117
 z55 := Tryz.sizeOf117
 v55 := Tryz.zeroValue117
 t66 := Tryz.underlying169
 a66 := Tryz.isAgg169
 z66 := Tryz.sizeOf169
 v66 := Tryz.zeroValue169
 t70 := Tryz.underlying173
 a70 := Tryz.isAgg173
 z70 := Tryz.sizeOf173
 v70 := Tryz.zeroValue173
 t76 := Tryz.underlying175
 a76 := Tryz.isAgg175
 z76 := Tryz.sizeOf175
 v76 := Tryz.zeroValue175
 t77 := Tryz.underlying176
 a77 := Tryz.isAgg176
 z77 := Tryz.sizeOf176
 v77 := Tryz.zeroValue176 }
end Go.Proofs
