/- -/
import Derived.Test.YtkelmheleahmpaaGreatDoorPartB
import Derived.Test.YtkelmheleahmpaaGreatDoorProg
import Derived.Test.YtkelmheleahmpaaGreatDoorPartD
import Derived.Test.YtkelmheleahmpaaGreatDoorPartC
import Derived.Shelf.SlSortCmp.NoneTotal
import Derived.Ground.SlsfProg
set_option linter.unusedVariables false
set_option linter.unusedSimpArgs false
namespace Go.Ex
open Go.Proofs
theorem q3 : EqP Tryz.prog 3 [.int .i64 0] false 1 := z86 (k := .int .i64) Tryz.underlying3 ⟨_, (by kernel_rfl : Tryz.prog.info? 3 = some Tryz.t3), rfl⟩ rfl
theorem q34 : EqP Tryz.prog 34 (z5g 2 [.int .i64 0]) true 2 := JR Tryz.underlying34 q3 ⟨_, (by kernel_rfl : Tryz.prog.info? 34 = some Tryz.t34), rfl⟩
def i34 : EI := ⟨.array 2 3, 2, 16, some [.int .i64 0, .int .i64 0], true⟩
theorem z95 : z4C Tryz.prog 34 i34 := ⟨⟨Tryz.t34, by kernel_rfl, rfl, rfl, fun z h => by cases h; exact ⟨_, rfl, rfl, Xm rfl, rfl, ⟨_, rfl⟩⟩⟩, Tryz.underlying34, fun _ => ko q34 rfl rfl (Nat.le_of_ble_eq_true (by kernel_rfl)) (by decide)⟩
theorem q35 : EqP Tryz.prog 35 (Zz [([.int .i64 0, .int .i64 0], true), ([.int .i64 0, .int .i64 0], true), ([.int .i64 0, .int .i64 0], true)]) true 3 := uK Tryz.underlying35 (by kernel_rfl) ⟨_, (by kernel_rfl : Tryz.prog.info? 35 = some Tryz.t35), rfl⟩ (by decide) (zN.cons (by decide) rfl (q34.mono (by decide)) (zN.cons (by decide) rfl (q34.mono (by decide)) (zN.cons (by decide) rfl (q34.mono (by decide)) (zN.nil))))
def i35 : EI := ⟨.struct [(0, 34), (2, 34), (4, 34)], 6, 48, some [.int .i64 0, .int .i64 0, .int .i64 0, .int .i64 0, .int .i64 0, .int .i64 0], true⟩
theorem zhu : z4C Tryz.prog 35 i35 := ⟨⟨Tryz.t35, by kernel_rfl, rfl, rfl, fun z h => by cases h; exact ⟨_, rfl, rfl, Xm rfl, rfl, ⟨_, rfl⟩⟩⟩, ⟨_, Tryz.underlying35, by kernel_rfl, by
  intro f hf
  simp only [List.mem_cons, List.not_mem_nil, or_false] at hf
  rcases hf with rfl | rfl | rfl
  ·exact ⟨Tryz.t34, by kernel_rfl⟩
  ·exact ⟨Tryz.t34, by kernel_rfl⟩
  ·exact ⟨Tryz.t34, by kernel_rfl⟩⟩, fun _ => ko q35 rfl rfl (Nat.le_of_ble_eq_true (by kernel_rfl)) (by decide)⟩
theorem q36 : EqP Tryz.prog 36 (Zz [([.int .i64 0, .int .i64 0], true), ([.int .i64 0, .int .i64 0], true), ([.int .i64 0, .int .i64 0], true)]) true 3 := uK Tryz.underlying36 (by kernel_rfl) ⟨_, (by kernel_rfl : Tryz.prog.info? 36 = some Tryz.t36), rfl⟩ (by decide) (zN.cons (by decide) rfl (q34.mono (by decide)) (zN.cons (by decide) rfl (q34.mono (by decide)) (zN.cons (by decide) rfl (q34.mono (by decide)) (zN.nil))))
def i36 : EI := ⟨.struct [(0, 34), (2, 34), (4, 34)], 6, 48, some [.int .i64 0, .int .i64 0, .int .i64 0, .int .i64 0, .int .i64 0, .int .i64 0], true⟩
theorem zcY : z4C Tryz.prog 36 i36 := ⟨⟨Tryz.t36, by kernel_rfl, rfl, rfl, fun z h => by cases h; exact ⟨_, rfl, rfl, Xm rfl, rfl, ⟨_, rfl⟩⟩⟩, ⟨_, Tryz.underlying36, by kernel_rfl, by
  intro f hf
  simp only [List.mem_cons, List.not_mem_nil, or_false] at hf
  rcases hf with rfl | rfl | rfl
  ·exact ⟨Tryz.t34, by kernel_rfl⟩
  ·exact ⟨Tryz.t34, by kernel_rfl⟩
  ·exact ⟨Tryz.t34, by kernel_rfl⟩⟩, fun _ => ko q36 rfl rfl (Nat.le_of_ble_eq_true (by kernel_rfl)) (by decide)⟩
theorem q59 : EqP Tryz.prog 59 (Zz [([.int .i64 0], false), ([.int .i64 0], false), ([.int .i64 0], false)]) true 2 := uK Tryz.underlying59 (by kernel_rfl) ⟨_, (by kernel_rfl : Tryz.prog.info? 59 = some Tryz.t59), rfl⟩ (by decide) (zN.cons (by decide) rfl (q3.mono (by decide)) (zN.cons (by decide) rfl (q3.mono (by decide)) (zN.cons (by decide) rfl (q3.mono (by decide)) (zN.nil))))
def i59 : EI := ⟨.struct [(0, 3), (1, 3), (2, 3)], 3, 24, some [.int .i64 0, .int .i64 0, .int .i64 0], true⟩
theorem zht : z4C Tryz.prog 59 i59 := ⟨⟨Tryz.t59, by kernel_rfl, rfl, rfl, fun z h => by cases h; exact ⟨_, rfl, rfl, Xm rfl, rfl, ⟨_, rfl⟩⟩⟩, ⟨_, Tryz.underlying59, by kernel_rfl, by
  intro f hf
  simp only [List.mem_cons, List.not_mem_nil, or_false] at hf
  rcases hf with rfl | rfl | rfl
  ·exact ⟨Tryz.t3, by kernel_rfl⟩
  ·exact ⟨Tryz.t3, by kernel_rfl⟩
  ·exact ⟨Tryz.t3, by kernel_rfl⟩⟩, fun _ => ko q59 rfl rfl (Nat.le_of_ble_eq_true (by kernel_rfl)) (by decide)⟩
theorem q60 : EqP Tryz.prog 60 (Zz [([.int .i64 0], false), ([.int .i64 0], false), ([.int .i64 0], false)]) true 2 := uK Tryz.underlying60 (by kernel_rfl) ⟨_, (by kernel_rfl : Tryz.prog.info? 60 = some Tryz.t60), rfl⟩ (by decide) (zN.cons (by decide) rfl (q3.mono (by decide)) (zN.cons (by decide) rfl (q3.mono (by decide)) (zN.cons (by decide) rfl (q3.mono (by decide)) (zN.nil))))
def i60 : EI := ⟨.struct [(0, 3), (1, 3), (2, 3)], 3, 24, some [.int .i64 0, .int .i64 0, .int .i64 0], true⟩
theorem zcX : z4C Tryz.prog 60 i60 := ⟨⟨Tryz.t60, by kernel_rfl, rfl, rfl, fun z h => by cases h; exact ⟨_, rfl, rfl, Xm rfl, rfl, ⟨_, rfl⟩⟩⟩, ⟨_, Tryz.underlying60, by kernel_rfl, by
  intro f hf
  simp only [List.mem_cons, List.not_mem_nil, or_false] at hf
  rcases hf with rfl | rfl | rfl
  ·exact ⟨Tryz.t3, by kernel_rfl⟩
  ·exact ⟨Tryz.t3, by kernel_rfl⟩
  ·exact ⟨Tryz.t3, by kernel_rfl⟩⟩, fun _ => ko q60 rfl rfl (Nat.le_of_ble_eq_true (by kernel_rfl)) (by decide)⟩
theorem q61 : EqP Tryz.prog 61 (Zz [([.int .i64 0], false), ([.int .i64 0], false), ([.int .i64 0], false)]) true 2 := uK Tryz.underlying61 (by kernel_rfl) ⟨_, (by kernel_rfl : Tryz.prog.info? 61 = some Tryz.t61), rfl⟩ (by decide) (zN.cons (by decide) rfl (q3.mono (by decide)) (zN.cons (by decide) rfl (q3.mono (by decide)) (zN.cons (by decide) rfl (q3.mono (by decide)) (zN.nil))))
def i61 : EI := ⟨.struct [(0, 3), (1, 3), (2, 3)], 3, 24, some [.int .i64 0, .int .i64 0, .int .i64 0], true⟩
theorem z94 : z4C Tryz.prog 61 i61 := ⟨⟨Tryz.t61, by kernel_rfl, rfl, rfl, fun z h => by cases h; exact ⟨_, rfl, rfl, Xm rfl, rfl, ⟨_, rfl⟩⟩⟩, ⟨_, Tryz.underlying61, by kernel_rfl, by
  intro f hf
  simp only [List.mem_cons, List.not_mem_nil, or_false] at hf
  rcases hf with rfl | rfl | rfl
  ·exact ⟨Tryz.t3, by kernel_rfl⟩
  ·exact ⟨Tryz.t3, by kernel_rfl⟩
  ·exact ⟨Tryz.t3, by kernel_rfl⟩⟩, fun _ => ko q61 rfl rfl (Nat.le_of_ble_eq_true (by kernel_rfl)) (by decide)⟩
def i64 : EI := ⟨.slice 5, 1, 24, some [.slice none 0 0], false⟩
theorem q73 : EqP Tryz.prog 73 (z5g 3 [.int .i64 0, .int .i64 0]) true 3 := JR Tryz.underlying73 q34 ⟨_, (by kernel_rfl : Tryz.prog.info? 73 = some Tryz.t73), rfl⟩
def i73 : EI := ⟨.array 3 34, 6, 48, some [.int .i64 0, .int .i64 0, .int .i64 0, .int .i64 0, .int .i64 0, .int .i64 0], true⟩
theorem zcW : z4C Tryz.prog 73 i73 := ⟨⟨Tryz.t73, by kernel_rfl, rfl, rfl, fun z h => by cases h; exact ⟨_, rfl, rfl, Xm rfl, rfl, ⟨_, rfl⟩⟩⟩, Tryz.underlying73, fun _ => ko q73 rfl rfl (Nat.le_of_ble_eq_true (by kernel_rfl)) (by decide)⟩
theorem zih : EqP Tryz.prog 104 (Zz [([.int .i64 0], false), ([.int .i64 0], false)]) true 2 := uK Tryz.underlying104 (by kernel_rfl) ⟨_, (by kernel_rfl : Tryz.prog.info? 104 = some Tryz.t104), rfl⟩ (by decide) (zN.cons (by decide) rfl (q3.mono (by decide)) (zN.cons (by decide) rfl (q3.mono (by decide)) (zN.nil)))
def ziq : EI := ⟨.struct [(0, 3), (1, 3)], 2, 16, some [.int .i64 0, .int .i64 0], true⟩
theorem zfy : z4C Tryz.prog 104 ziq := ⟨⟨Tryz.t104, by kernel_rfl, rfl, rfl, fun z h => by cases h; exact ⟨_, rfl, rfl, Xm rfl, rfl, ⟨_, rfl⟩⟩⟩, ⟨_, Tryz.underlying104, by kernel_rfl, by
  intro f hf
  simp only [List.mem_cons, List.not_mem_nil, or_false] at hf
  rcases hf with rfl | rfl
  ·exact ⟨Tryz.t3, by kernel_rfl⟩
  ·exact ⟨Tryz.t3, by kernel_rfl⟩⟩, fun _ => ko zih rfl rfl (Nat.le_of_ble_eq_true (by kernel_rfl)) (by decide)⟩
theorem zig : EqP Tryz.prog 105 (Zz [([.int .i64 0], false), ([.int .i64 0], false)]) true 2 := uK Tryz.underlying105 (by kernel_rfl) ⟨_, (by kernel_rfl : Tryz.prog.info? 105 = some Tryz.t105), rfl⟩ (by decide) (zN.cons (by decide) rfl (q3.mono (by decide)) (zN.cons (by decide) rfl (q3.mono (by decide)) (zN.nil)))
def zio : EI := ⟨.struct [(0, 3), (1, 3)], 2, 16, some [.int .i64 0, .int .i64 0], true⟩
theorem zaW : z4C Tryz.prog 105 zio := ⟨⟨Tryz.t105, by kernel_rfl, rfl, rfl, fun z h => by cases h; exact ⟨_, rfl, rfl, Xm rfl, rfl, ⟨_, rfl⟩⟩⟩, ⟨_, Tryz.underlying105, by kernel_rfl, by
  intro f hf
  simp only [List.mem_cons, List.not_mem_nil, or_false] at hf
  rcases hf with rfl | rfl
  ·exact ⟨Tryz.t3, by kernel_rfl⟩
  ·exact ⟨Tryz.t3, by kernel_rfl⟩⟩, fun _ => ko zig rfl rfl (Nat.le_of_ble_eq_true (by kernel_rfl)) (by decide)⟩
theorem zif : EqP Tryz.prog 109 (z5g 3 [.int .i64 0]) true 2 := JR Tryz.underlying109 q3 ⟨_, (by kernel_rfl : Tryz.prog.info? 109 = some Tryz.t109), rfl⟩
def zin : EI := ⟨.array 3 3, 3, 24, some [.int .i64 0, .int .i64 0, .int .i64 0], true⟩
theorem zaV : z4C Tryz.prog 109 zin := ⟨⟨Tryz.t109, by kernel_rfl, rfl, rfl, fun z h => by cases h; exact ⟨_, rfl, rfl, Xm rfl, rfl, ⟨_, rfl⟩⟩⟩, Tryz.underlying109, fun _ => ko zif rfl rfl (Nat.le_of_ble_eq_true (by kernel_rfl)) (by decide)⟩
theorem zie : EqP Tryz.prog 137 (Zz [([.int .i64 0], false), ([.int .i64 0], false), ([.int .i64 0], false)]) true 2 := uK Tryz.underlying137 (by kernel_rfl) ⟨_, (by kernel_rfl : Tryz.prog.info? 137 = some Tryz.t137), rfl⟩ (by decide) (zN.cons (by decide) rfl (q3.mono (by decide)) (zN.cons (by decide) rfl (q3.mono (by decide)) (zN.cons (by decide) rfl (q3.mono (by decide)) (zN.nil))))
def zim : EI := ⟨.struct [(0, 3), (1, 3), (2, 3)], 3, 24, some [.int .i64 0, .int .i64 0, .int .i64 0], true⟩
theorem zfx : z4C Tryz.prog 137 zim := ⟨⟨Tryz.t137, by kernel_rfl, rfl, rfl, fun z h => by cases h; exact ⟨_, rfl, rfl, Xm rfl, rfl, ⟨_, rfl⟩⟩⟩, ⟨_, Tryz.underlying137, by kernel_rfl, by
  intro f hf
  simp only [List.mem_cons, List.not_mem_nil, or_false] at hf
  rcases hf with rfl | rfl | rfl
  ·exact ⟨Tryz.t3, by kernel_rfl⟩
  ·exact ⟨Tryz.t3, by kernel_rfl⟩
  ·exact ⟨Tryz.t3, by kernel_rfl⟩⟩, fun _ => ko zie rfl rfl (Nat.le_of_ble_eq_true (by kernel_rfl)) (by decide)⟩
theorem zid : EqP Tryz.prog 138 (Zz [([.int .i64 0], false), ([.int .i64 0], false), ([.int .i64 0], false)]) true 2 := uK Tryz.underlying138 (by kernel_rfl) ⟨_, (by kernel_rfl : Tryz.prog.info? 138 = some Tryz.t138), rfl⟩ (by decide) (zN.cons (by decide) rfl (q3.mono (by decide)) (zN.cons (by decide) rfl (q3.mono (by decide)) (zN.cons (by decide) rfl (q3.mono (by decide)) (zN.nil))))
def zil : EI := ⟨.struct [(0, 3), (1, 3), (2, 3)], 3, 24, some [.int .i64 0, .int .i64 0, .int .i64 0], true⟩
theorem zaU : z4C Tryz.prog 138 zil := ⟨⟨Tryz.t138, by kernel_rfl, rfl, rfl, fun z h => by cases h; exact ⟨_, rfl, rfl, Xm rfl, rfl, ⟨_, rfl⟩⟩⟩, ⟨_, Tryz.underlying138, by kernel_rfl, by
  intro f hf
  simp only [List.mem_cons, List.not_mem_nil, or_false] at hf
  rcases hf with rfl | rfl | rfl
  ·exact ⟨Tryz.t3, by kernel_rfl⟩
  ·exact ⟨Tryz.t3, by kernel_rfl⟩
  ·exact ⟨Tryz.t3, by kernel_rfl⟩⟩, fun _ => ko zid rfl rfl (Nat.le_of_ble_eq_true (by kernel_rfl)) (by decide)⟩
end Go.Ex

namespace Go.Own
open Go.Proofs
def zfw : Value → Bool
 | .int _ _ => true
 | _ => false
theorem z23 : ∀ {z vs us : List Value} {r : Bool}, z.all zfw = true → z.length = vs.length → yT vs us = some r → Go.Ex.z16 z vs = true ∧ Go.Ex.yT vs us = some r
 | [], [], us, r, _, _, h => by
  cases us with
  | nil => simp only [yT, Option.some.injEq] at h; subst h; exact ⟨rfl, rfl⟩
  | cons u us => simp [yT] at h
 | a :: z, v :: vs, us, r, hz, hl, h => by
  have q : ∃ k x u' k' y, v = .int k x ∧ us = .int k' y :: u' ∧ k = k' := by
   cases us with
   | nil => cases v <;> simp [yT] at h
   | cons u us =>
    cases v <;> cases u <;> simp [yT] at h
    exact ⟨_, _, _, _, _, rfl, rfl, h.1⟩
  obtain ⟨k, x, u', k', y, rfl, rfl, hk⟩ := q
  simp only [yT, hk, if_true, Option.map_eq_some_iff] at h
  obtain ⟨r', e1, rfl⟩ := h
  simp only [List.all_cons, Bool.and_eq_true] at hz
  obtain ⟨q1, q2⟩ := z23 hz.2 (by simpa using hl) e1
  refine ⟨?_, by simp [Go.Ex.yT, hk, q2]⟩
  cases a <;> first | (simp [zfw] at hz; done) | simpa [Go.Ex.z16] using q1
 | [], _ :: _, _, _, _, hl, _ => by simp at hl
 | _ :: _, [], _, _, _, hl, _ => by simp at hl
variable {P : Program}
theorem W6 {t n : Nat} {i : Go.Ex.EI} (h : Go.Ex.z9p P t i) {z : List Value} (hz : i.zero = some z) (hi : z.all zfw = true) (hs : i.size = n) (hn : z.length = n) : z9p P t n := {
 guard := h.guard
 run := fun vs us r w hv hu he => by
  obtain ⟨q1, q2⟩ := z23 hi (by rw [hn, hv]) he
  exact h.run vs us r w (by rw [hs]; exact hv) (by rw [hs]; exact hu) (by simpa only [Go.Ex.zfC, hz] using q1) q2 }
variable {h : Array Obj}{S : zn}
theorem zk {v : Value} (hv : v.oneCell' = true) : zJ S h (.atom v) [v] [] := by simp only [zJ, Rep]; exact ⟨⟨trivial, hv⟩, trivial⟩
theorem xx (sz : Nat) : zJ S h (.osl sz true []) [.slice none 0 0] [] := by
 simp only [zJ]
 exact ⟨none, 0, rfl, (fun _ => rfl), Nat.le_refl _, Nat.zero_le _, by simp, .inl ⟨trivial, rfl, rfl, trivial⟩⟩
variable {a : A}
theorem z6b {c : List Value} (q : zJ S h a c []) : ∀ n, zO S h (List.replicate n a) (List.replicate n c).flatten []
 | 0 => by simp [zO]
 | n + 1 => by
  rw [List.replicate_succ, List.replicate_succ, List.flatten_cons]
  simp only [zO]
  exact ⟨c, _, [], [], rfl, rfl, q, z6b q n⟩
theorem zit {c c' : List Value} (q : zJ S h a c []) (e : c' = c) : zJ S h a c' [] := e ▸ q
variable {fs : List A}
theorem xe {cs : List Value} (q : zO S h fs cs []) : zJ S h (.agg fs) cs [] := by simpa only [zJ] using q
theorem yu : zO S h [] [] [] := by simp [zO]
theorem zo {c1 c2 : List Value} (q1 : zJ S h a c1 []) (q2 : zO S h fs c2 []) : zO S h (a :: fs) (c1 ++ c2) [] := by simp only [zO]; exact ⟨c1, c2, [], [], rfl, rfl, q1, q2⟩
def ti1 : TI := ⟨.other, 1, 8, some (.atom .nilFunc), false⟩
theorem zbM : qG Tryz.prog 1 ti1 := ⟨⟨Tryz.t1, by kernel_rfl, rfl, rfl, fun z h => by cases h; exact ⟨_, rfl, rfl, fun S h => zk rfl⟩⟩, ⟨_, Tryz.underlying1, rfl⟩, by intro h; cases h⟩
def ti2 : TI := ⟨.int .i64, 1, 8, some (.atom (.int .i64 0)), false⟩
theorem zbL : qG Tryz.prog 2 ti2 := ⟨⟨Tryz.t2, by kernel_rfl, rfl, rfl, fun z h => by cases h; exact ⟨_, rfl, rfl, fun S h => zk rfl⟩⟩, Tryz.underlying2, by intro h; cases h⟩
def ti3 : TI := ⟨.int .i64, 1, 8, some (.atom (.int .i64 0)), false⟩
theorem zbK : qG Tryz.prog 3 ti3 := ⟨⟨Tryz.t3, by kernel_rfl, rfl, rfl, fun z h => by cases h; exact ⟨_, rfl, rfl, fun S h => zk rfl⟩⟩, Tryz.underlying3, by intro h; cases h⟩
def ti4 : TI := ⟨.bool, 1, 1, some (.atom (.bool false)), false⟩
theorem zbJ : qG Tryz.prog 4 ti4 := ⟨⟨Tryz.t4, by kernel_rfl, rfl, rfl, fun z h => by cases h; exact ⟨_, rfl, rfl, fun S h => zk rfl⟩⟩, Tryz.underlying4, by intro h; cases h⟩
def ti5 : TI := ⟨.int .u8, 1, 1, some (.atom (.int .u8 0)), false⟩
theorem zbI : qG Tryz.prog 5 ti5 := ⟨⟨Tryz.t5, by kernel_rfl, rfl, rfl, fun z h => by cases h; exact ⟨_, rfl, rfl, fun S h => zk rfl⟩⟩, Tryz.underlying5, by intro h; cases h⟩
def ti9 : TI := ⟨.str, 1, 16, some (.atom (.string ⟨#[]⟩)), false⟩
theorem zbH : qG Tryz.prog 9 ti9 := ⟨⟨Tryz.t9, by kernel_rfl, rfl, rfl, fun z h => by cases h; exact ⟨_, rfl, rfl, fun S h => zk rfl⟩⟩, Tryz.underlying9, by intro h; cases h⟩
def zh6 : TI := ⟨.slice 103, 1, 24, some (.osl 1 true []), false⟩
theorem za3 : qG Tryz.prog 22 zh6 := ⟨⟨Tryz.t22, by kernel_rfl, rfl, rfl, fun z h => by cases h; exact ⟨_, rfl, rfl, fun S h => xx _⟩⟩, Tryz.underlying22, by intro h; cases h⟩
def zh5 : TI := ⟨.struct [(0, 1), (1, 1), (2, 1), (3, 1), (4, 1)], 5, 32, some (.agg [.atom (.int .u8 0), .atom (.int .u8 0), .atom (.int .u8 0), .atom (.bool false), .osl 1 true []]), false⟩
theorem za2 : qG Tryz.prog 24 zh5 := ⟨⟨Tryz.t24, by kernel_rfl, rfl, rfl, fun z h => by cases h; exact ⟨_, rfl, rfl, fun S h => xe (zo (zk rfl) (zo (zk rfl) (zo (zk rfl) (zo (zk rfl) (zo (xx _) (yu))))))⟩⟩, ⟨_, Tryz.underlying24, by kernel_rfl, by
  intro f hf
  simp only [List.mem_cons, List.not_mem_nil, or_false] at hf
  rcases hf with rfl | rfl | rfl | rfl | rfl
  ·exact ⟨Tryz.t5, by kernel_rfl⟩
  ·exact ⟨Tryz.t5, by kernel_rfl⟩
  ·exact ⟨Tryz.t5, by kernel_rfl⟩
  ·exact ⟨Tryz.t4, by kernel_rfl⟩
  ·exact ⟨Tryz.t22, by kernel_rfl⟩⟩, by intro h; cases h⟩
def zh4 : TI := ⟨.slice 64, 1, 24, some (.osl 1 true []), false⟩
theorem za1 : qG Tryz.prog 25 zh4 := ⟨⟨Tryz.t25, by kernel_rfl, rfl, rfl, fun z h => by cases h; exact ⟨_, rfl, rfl, fun S h => xx _⟩⟩, Tryz.underlying25, by intro h; cases h⟩
def zh3 : TI := ⟨.struct [(0, 5), (5, 1)], 6, 56, some (.agg [.agg [.atom (.int .u8 0), .atom (.int .u8 0), .atom (.int .u8 0), .atom (.bool false), .osl 1 true []], .osl 1 true []]), false⟩
theorem za0 : qG Tryz.prog 27 zh3 := ⟨⟨Tryz.t27, by kernel_rfl, rfl, rfl, fun z h => by cases h; exact ⟨_, rfl, rfl, fun S h => xe (zo (xe (zo (zk rfl) (zo (zk rfl) (zo (zk rfl) (zo (zk rfl) (zo (xx _) (yu))))))) (zo (xx _) (yu)))⟩⟩, ⟨_, Tryz.underlying27, by kernel_rfl, by
  intro f hf
  simp only [List.mem_cons, List.not_mem_nil, or_false] at hf
  rcases hf with rfl | rfl
  ·exact ⟨Tryz.t24, by kernel_rfl⟩
  ·exact ⟨Tryz.t25, by kernel_rfl⟩⟩, by intro h; cases h⟩
def zh2 : TI := ⟨.slice 102, 1, 24, some (.osl 1 true []), false⟩
theorem z9Z : qG Tryz.prog 28 zh2 := ⟨⟨Tryz.t28, by kernel_rfl, rfl, rfl, fun z h => by cases h; exact ⟨_, rfl, rfl, fun S h => xx _⟩⟩, Tryz.underlying28, by intro h; cases h⟩
def zh1 : TI := ⟨.struct [(0, 1), (1, 1), (2, 1)], 3, 40, some (.agg [.atom (.int .i64 0), .atom (.int .i64 0), .osl 1 true []]), false⟩
theorem z9Y : qG Tryz.prog 30 zh1 := ⟨⟨Tryz.t30, by kernel_rfl, rfl, rfl, fun z h => by cases h; exact ⟨_, rfl, rfl, fun S h => xe (zo (zk rfl) (zo (zk rfl) (zo (xx _) (yu))))⟩⟩, ⟨_, Tryz.underlying30, by kernel_rfl, by
  intro f hf
  simp only [List.mem_cons, List.not_mem_nil, or_false] at hf
  rcases hf with rfl | rfl | rfl
  ·exact ⟨Tryz.t3, by kernel_rfl⟩
  ·exact ⟨Tryz.t3, by kernel_rfl⟩
  ·exact ⟨Tryz.t28, by kernel_rfl⟩⟩, by intro h; cases h⟩
def zh0 : TI := ⟨.slice 51, 1, 24, some (.osl 1 true []), false⟩
theorem z9X : qG Tryz.prog 31 zh0 := ⟨⟨Tryz.t31, by kernel_rfl, rfl, rfl, fun z h => by cases h; exact ⟨_, rfl, rfl, fun S h => xx _⟩⟩, Tryz.underlying31, by intro h; cases h⟩
def zgZ : TI := ⟨.array 2 3, 2, 16, some (.agg [.atom (.int .i64 0), .atom (.int .i64 0)]), true⟩
theorem z4N : qG Tryz.prog 34 zgZ := ⟨⟨Tryz.t34, by kernel_rfl, rfl, rfl, fun z h => by cases h; exact ⟨_, rfl, rfl, fun S h => xe (zo (zk rfl) (zo (zk rfl) (yu)))⟩⟩, Tryz.underlying34, fun _ => W6 (Go.Ex.z95.eqn rfl) rfl rfl rfl rfl⟩
def zgY : TI := ⟨.struct [(0, 2), (2, 2), (4, 2)], 6, 48, some (.agg [.agg [.atom (.int .i64 0), .atom (.int .i64 0)], .agg [.atom (.int .i64 0), .atom (.int .i64 0)], .agg [.atom (.int .i64 0), .atom (.int .i64 0)]]), true⟩
theorem z9W : qG Tryz.prog 36 zgY := ⟨⟨Tryz.t36, by kernel_rfl, rfl, rfl, fun z h => by cases h; exact ⟨_, rfl, rfl, fun S h => xe (zo (xe (zo (zk rfl) (zo (zk rfl) (yu)))) (zo (xe (zo (zk rfl) (zo (zk rfl) (yu)))) (zo (xe (zo (zk rfl) (zo (zk rfl) (yu)))) (yu))))⟩⟩, ⟨_, Tryz.underlying36, by kernel_rfl, by
  intro f hf
  simp only [List.mem_cons, List.not_mem_nil, or_false] at hf
  rcases hf with rfl | rfl | rfl
  ·exact ⟨Tryz.t34, by kernel_rfl⟩
  ·exact ⟨Tryz.t34, by kernel_rfl⟩
  ·exact ⟨Tryz.t34, by kernel_rfl⟩⟩, fun _ => W6 (Go.Ex.zcY.eqn rfl) rfl rfl rfl rfl⟩
def zgX : TI := ⟨.int .i64, 1, 8, some (.atom (.int .i64 0)), false⟩
theorem z9V : qG Tryz.prog 37 zgX := ⟨⟨Tryz.t37, by kernel_rfl, rfl, rfl, fun z h => by cases h; exact ⟨_, rfl, rfl, fun S h => zk rfl⟩⟩, Tryz.underlying37, by intro h; cases h⟩
def zgW : TI := ⟨.other, 1, 8, some (.atom .nilFunc), false⟩
theorem z9U : qG Tryz.prog 46 zgW := ⟨⟨Tryz.t46, by kernel_rfl, rfl, rfl, fun z h => by cases h; exact ⟨_, rfl, rfl, fun S h => zk rfl⟩⟩, ⟨_, Tryz.underlying46, rfl⟩, by intro h; cases h⟩
def zgV : TI := ⟨.slice 60, 1, 24, some (.osl 3 true []), false⟩
theorem z9T : qG Tryz.prog 47 zgV := ⟨⟨Tryz.t47, by kernel_rfl, rfl, rfl, fun z h => by cases h; exact ⟨_, rfl, rfl, fun S h => xx _⟩⟩, Tryz.underlying47, by intro h; cases h⟩
def zgU : TI := ⟨.other, 1, 8, some (.atom .nilFunc), false⟩
theorem z9S : qG Tryz.prog 48 zgU := ⟨⟨Tryz.t48, by kernel_rfl, rfl, rfl, fun z h => by cases h; exact ⟨_, rfl, rfl, fun S h => zk rfl⟩⟩, ⟨_, Tryz.underlying48, rfl⟩, by intro h; cases h⟩
def zgT : TI := ⟨.slice 34, 1, 24, some (.osl 2 true []), false⟩
theorem z9R : qG Tryz.prog 49 zgT := ⟨⟨Tryz.t49, by kernel_rfl, rfl, rfl, fun z h => by cases h; exact ⟨_, rfl, rfl, fun S h => xx _⟩⟩, Tryz.underlying49, by intro h; cases h⟩
def zgS : TI := ⟨.slice 3, 1, 24, some (.osl 1 true []), false⟩
theorem z9Q : qG Tryz.prog 51 zgS := ⟨⟨Tryz.t51, by kernel_rfl, rfl, rfl, fun z h => by cases h; exact ⟨_, rfl, rfl, fun S h => xx _⟩⟩, Tryz.underlying51, by intro h; cases h⟩
def zgR : TI := ⟨.slice 61, 1, 24, some (.osl 3 true []), false⟩
theorem z9P : qG Tryz.prog 56 zgR := ⟨⟨Tryz.t56, by kernel_rfl, rfl, rfl, fun z h => by cases h; exact ⟨_, rfl, rfl, fun S h => xx _⟩⟩, Tryz.underlying56, by intro h; cases h⟩
def zgQ : TI := ⟨.other, 1, 8, some (.atom .nilFunc), false⟩
theorem z9O : qG Tryz.prog 58 zgQ := ⟨⟨Tryz.t58, by kernel_rfl, rfl, rfl, fun z h => by cases h; exact ⟨_, rfl, rfl, fun S h => zk rfl⟩⟩, ⟨_, Tryz.underlying58, rfl⟩, by intro h; cases h⟩
def zgP : TI := ⟨.struct [(0, 1), (1, 1), (2, 1)], 3, 24, some (.agg [.atom (.int .i64 0), .atom (.int .i64 0), .atom (.int .i64 0)]), true⟩
theorem z9N : qG Tryz.prog 60 zgP := ⟨⟨Tryz.t60, by kernel_rfl, rfl, rfl, fun z h => by cases h; exact ⟨_, rfl, rfl, fun S h => xe (zo (zk rfl) (zo (zk rfl) (zo (zk rfl) (yu))))⟩⟩, ⟨_, Tryz.underlying60, by kernel_rfl, by
  intro f hf
  simp only [List.mem_cons, List.not_mem_nil, or_false] at hf
  rcases hf with rfl | rfl | rfl
  ·exact ⟨Tryz.t3, by kernel_rfl⟩
  ·exact ⟨Tryz.t3, by kernel_rfl⟩
  ·exact ⟨Tryz.t3, by kernel_rfl⟩⟩, fun _ => W6 (Go.Ex.zcX.eqn rfl) rfl rfl rfl rfl⟩
def zgO : TI := ⟨.struct [(0, 1), (1, 1), (2, 1)], 3, 24, some (.agg [.atom (.int .i64 0), .atom (.int .i64 0), .atom (.int .i64 0)]), true⟩
theorem z4M : qG Tryz.prog 61 zgO := ⟨⟨Tryz.t61, by kernel_rfl, rfl, rfl, fun z h => by cases h; exact ⟨_, rfl, rfl, fun S h => xe (zo (zk rfl) (zo (zk rfl) (zo (zk rfl) (yu))))⟩⟩, ⟨_, Tryz.underlying61, by kernel_rfl, by
  intro f hf
  simp only [List.mem_cons, List.not_mem_nil, or_false] at hf
  rcases hf with rfl | rfl | rfl
  ·exact ⟨Tryz.t3, by kernel_rfl⟩
  ·exact ⟨Tryz.t3, by kernel_rfl⟩
  ·exact ⟨Tryz.t3, by kernel_rfl⟩⟩, fun _ => W6 (Go.Ex.z94.eqn rfl) rfl rfl rfl rfl⟩
def zgN : TI := ⟨.slice 5, 1, 24, some (.osl 1 true []), false⟩
theorem z9M : qG Tryz.prog 64 zgN := ⟨⟨Tryz.t64, by kernel_rfl, rfl, rfl, fun z h => by cases h; exact ⟨_, rfl, rfl, fun S h => xx _⟩⟩, Tryz.underlying64, by intro h; cases h⟩
def zgM : TI := ⟨.other, 1, 8, some (.atom (.map none)), false⟩
theorem z9L : qG Tryz.prog 67 zgM := ⟨⟨Tryz.t67, by kernel_rfl, rfl, rfl, fun z h => by cases h; exact ⟨_, rfl, rfl, fun S h => zk rfl⟩⟩, ⟨_, Tryz.underlying67, rfl⟩, by intro h; cases h⟩
def zgL : TI := ⟨.other, 1, 8, some (.atom (.map none)), false⟩
theorem z9K : qG Tryz.prog 68 zgL := ⟨⟨Tryz.t68, by kernel_rfl, rfl, rfl, fun z h => by cases h; exact ⟨_, rfl, rfl, fun S h => zk rfl⟩⟩, ⟨_, Tryz.underlying68, rfl⟩, by intro h; cases h⟩
def zgK : TI := ⟨.other, 1, 8, some (.atom (.map none)), false⟩
theorem z9J : qG Tryz.prog 69 zgK := ⟨⟨Tryz.t69, by kernel_rfl, rfl, rfl, fun z h => by cases h; exact ⟨_, rfl, rfl, fun S h => zk rfl⟩⟩, ⟨_, Tryz.underlying69, rfl⟩, by intro h; cases h⟩
def zgJ : TI := ⟨.struct [(0, 1), (1, 1), (2, 1)], 3, 24, some (.agg [.atom (.map none), .atom (.map none), .atom (.map none)]), false⟩
theorem z9I : qG Tryz.prog 71 zgJ := ⟨⟨Tryz.t71, by kernel_rfl, rfl, rfl, fun z h => by cases h; exact ⟨_, rfl, rfl, fun S h => xe (zo (zk rfl) (zo (zk rfl) (zo (zk rfl) (yu))))⟩⟩, ⟨_, Tryz.underlying71, by kernel_rfl, by
  intro f hf
  simp only [List.mem_cons, List.not_mem_nil, or_false] at hf
  rcases hf with rfl | rfl | rfl
  ·exact ⟨Tryz.t67, by kernel_rfl⟩
  ·exact ⟨Tryz.t68, by kernel_rfl⟩
  ·exact ⟨Tryz.t69, by kernel_rfl⟩⟩, by intro h; cases h⟩
def zgI : TI := ⟨.array 3 34, 6, 48, some (.agg [.agg [.atom (.int .i64 0), .atom (.int .i64 0)], .agg [.atom (.int .i64 0), .atom (.int .i64 0)], .agg [.atom (.int .i64 0), .atom (.int .i64 0)]]), true⟩
theorem z9H : qG Tryz.prog 73 zgI := ⟨⟨Tryz.t73, by kernel_rfl, rfl, rfl, fun z h => by cases h; exact ⟨_, rfl, rfl, fun S h => xe (zo (xe (zo (zk rfl) (zo (zk rfl) (yu)))) (zo (xe (zo (zk rfl) (zo (zk rfl) (yu)))) (zo (xe (zo (zk rfl) (zo (zk rfl) (yu)))) (yu))))⟩⟩, Tryz.underlying73, fun _ => W6 (Go.Ex.zcW.eqn rfl) rfl rfl rfl rfl⟩
def zgH : TI := ⟨.slice 82, 1, 24, some (.osl 5 true []), false⟩
theorem z9G : qG Tryz.prog 75 zgH := ⟨⟨Tryz.t75, by kernel_rfl, rfl, rfl, fun z h => by cases h; exact ⟨_, rfl, rfl, fun S h => xx _⟩⟩, Tryz.underlying75, by intro h; cases h⟩
def zgG : TI := ⟨.other, 1, 8, some (.atom .nilFunc), false⟩
theorem z9F : qG Tryz.prog 78 zgG := ⟨⟨Tryz.t78, by kernel_rfl, rfl, rfl, fun z h => by cases h; exact ⟨_, rfl, rfl, fun S h => zk rfl⟩⟩, ⟨_, Tryz.underlying78, rfl⟩, by intro h; cases h⟩
def zgF : TI := ⟨.other, 1, 8, some (.atom .nilFunc), false⟩
theorem z9E : qG Tryz.prog 80 zgF := ⟨⟨Tryz.t80, by kernel_rfl, rfl, rfl, fun z h => by cases h; exact ⟨_, rfl, rfl, fun S h => zk rfl⟩⟩, ⟨_, Tryz.underlying80, rfl⟩, by intro h; cases h⟩
def zgE : TI := ⟨.struct [(0, 1), (1, 3), (4, 1)], 5, 56, some (.agg [.osl 1 true [], .agg [.atom (.int .i64 0), .atom (.int .i64 0), .atom (.int .i64 0)], .atom .nilFunc]), false⟩
theorem z9D : qG Tryz.prog 82 zgE := ⟨⟨Tryz.t82, by kernel_rfl, rfl, rfl, fun z h => by cases h; exact ⟨_, rfl, rfl, fun S h => xe (zo (xx _) (zo (xe (zo (zk rfl) (zo (zk rfl) (zo (zk rfl) (yu))))) (zo (zk rfl) (yu))))⟩⟩, ⟨_, Tryz.underlying82, by kernel_rfl, by
  intro f hf
  simp only [List.mem_cons, List.not_mem_nil, or_false] at hf
  rcases hf with rfl | rfl | rfl
  ·exact ⟨Tryz.t51, by kernel_rfl⟩
  ·exact ⟨Tryz.t61, by kernel_rfl⟩
  ·exact ⟨Tryz.t80, by kernel_rfl⟩⟩, by intro h; cases h⟩
def zgD : TI := ⟨.other, 1, 8, some (.atom .nilFunc), false⟩
theorem z9C : qG Tryz.prog 85 zgD := ⟨⟨Tryz.t85, by kernel_rfl, rfl, rfl, fun z h => by cases h; exact ⟨_, rfl, rfl, fun S h => zk rfl⟩⟩, ⟨_, Tryz.underlying85, rfl⟩, by intro h; cases h⟩
def zgC : TI := ⟨.slice 4, 1, 24, some (.osl 1 true []), false⟩
theorem z9B : qG Tryz.prog 86 zgC := ⟨⟨Tryz.t86, by kernel_rfl, rfl, rfl, fun z h => by cases h; exact ⟨_, rfl, rfl, fun S h => xx _⟩⟩, Tryz.underlying86, by intro h; cases h⟩
def zgB : TI := ⟨.ptr 95, 1, 8, some (.atom (.pointer none)), false⟩
theorem z9A : qG Tryz.prog 90 zgB := ⟨⟨Tryz.t90, by kernel_rfl, rfl, rfl, fun z h => by cases h; exact ⟨_, rfl, rfl, fun S h => zk rfl⟩⟩, Tryz.underlying90, by intro h; cases h⟩
def zgA : TI := ⟨.slice 117, 1, 24, some (.osl 1 true []), false⟩
theorem z9z : qG Tryz.prog 91 zgA := ⟨⟨Tryz.t91, by kernel_rfl, rfl, rfl, fun z h => by cases h; exact ⟨_, rfl, rfl, fun S h => xx _⟩⟩, Tryz.underlying91, by intro h; cases h⟩
def zgz : TI := ⟨.slice 91, 1, 24, some (.osl 1 true []), false⟩
theorem z9y : qG Tryz.prog 93 zgz := ⟨⟨Tryz.t93, by kernel_rfl, rfl, rfl, fun z h => by cases h; exact ⟨_, rfl, rfl, fun S h => xx _⟩⟩, Tryz.underlying93, by intro h; cases h⟩
def zgy : TI := ⟨.struct [(0, 1), (1, 1)], 2, 48, some (.agg [.osl 1 true [], .osl 1 true []]), false⟩
theorem z9x : qG Tryz.prog 95 zgy := ⟨⟨Tryz.t95, by kernel_rfl, rfl, rfl, fun z h => by cases h; exact ⟨_, rfl, rfl, fun S h => xe (zo (xx _) (zo (xx _) (yu)))⟩⟩, ⟨_, Tryz.underlying95, by kernel_rfl, by
  intro f hf
  simp only [List.mem_cons, List.not_mem_nil, or_false] at hf
  rcases hf with rfl | rfl
  ·exact ⟨Tryz.t93, by kernel_rfl⟩
  ·exact ⟨Tryz.t91, by kernel_rfl⟩⟩, by intro h; cases h⟩
def zc1 : TI := ⟨.slice 105, 1, 24, some (.osl 2 true []), false⟩
theorem z79 : qG Tryz.prog 102 zc1 := ⟨⟨Tryz.t102, by kernel_rfl, rfl, rfl, fun z h => by cases h; exact ⟨_, rfl, rfl, fun S h => xx _⟩⟩, Tryz.underlying102, by intro h; cases h⟩
def zc0 : TI := ⟨.int .u16, 1, 2, some (.atom (.int .u16 0)), false⟩
theorem z78 : qG Tryz.prog 103 zc0 := ⟨⟨Tryz.t103, by kernel_rfl, rfl, rfl, fun z h => by cases h; exact ⟨_, rfl, rfl, fun S h => zk rfl⟩⟩, Tryz.underlying103, by intro h; cases h⟩
def zbZ : TI := ⟨.struct [(0, 1), (1, 1)], 2, 16, some (.agg [.atom (.int .i64 0), .atom (.int .i64 0)]), true⟩
theorem z75 : qG Tryz.prog 105 zbZ := ⟨⟨Tryz.t105, by kernel_rfl, rfl, rfl, fun z h => by cases h; exact ⟨_, rfl, rfl, fun S h => xe (zo (zk rfl) (zo (zk rfl) (yu)))⟩⟩, ⟨_, Tryz.underlying105, by kernel_rfl, by
  intro f hf
  simp only [List.mem_cons, List.not_mem_nil, or_false] at hf
  rcases hf with rfl | rfl
  ·exact ⟨Tryz.t3, by kernel_rfl⟩
  ·exact ⟨Tryz.t3, by kernel_rfl⟩⟩, fun _ => W6 (Go.Ex.zaW.eqn rfl) rfl rfl rfl rfl⟩
def zbY : TI := ⟨.array 3 3, 3, 24, some (.agg [.atom (.int .i64 0), .atom (.int .i64 0), .atom (.int .i64 0)]), true⟩
theorem z74 : qG Tryz.prog 109 zbY := ⟨⟨Tryz.t109, by kernel_rfl, rfl, rfl, fun z h => by cases h; exact ⟨_, rfl, rfl, fun S h => xe (zo (zk rfl) (zo (zk rfl) (zo (zk rfl) (yu))))⟩⟩, Tryz.underlying109, fun _ => W6 (Go.Ex.zaV.eqn rfl) rfl rfl rfl rfl⟩
def zbX : TI := ⟨.array 3 9, 3, 48, some (.agg [.atom (.string ⟨#[]⟩), .atom (.string ⟨#[]⟩), .atom (.string ⟨#[]⟩)]), false⟩
theorem z73 : qG Tryz.prog 112 zbX := ⟨⟨Tryz.t112, by kernel_rfl, rfl, rfl, fun z h => by cases h; exact ⟨_, rfl, rfl, fun S h => xe (zo (zk rfl) (zo (zk rfl) (zo (zk rfl) (yu))))⟩⟩, Tryz.underlying112, by intro h; cases h⟩
def zbW : TI := ⟨.int .u64, 1, 8, some (.atom (.int .u64 0)), false⟩
theorem z72 : qG Tryz.prog 117 zbW := ⟨⟨Tryz.t117, by kernel_rfl, rfl, rfl, fun z h => by cases h; exact ⟨_, rfl, rfl, fun S h => zk rfl⟩⟩, Tryz.underlying117, by intro h; cases h⟩
def zbV : TI := ⟨.other, 1, 8, some (.atom .nilFunc), false⟩
theorem z71 : qG Tryz.prog 123 zbV := ⟨⟨Tryz.t123, by kernel_rfl, rfl, rfl, fun z h => by cases h; exact ⟨_, rfl, rfl, fun S h => zk rfl⟩⟩, ⟨_, Tryz.underlying123, rfl⟩, by intro h; cases h⟩
def zbU : TI := ⟨.other, 1, 8, some (.atom .nilFunc), false⟩
theorem z6Z : qG Tryz.prog 129 zbU := ⟨⟨Tryz.t129, by kernel_rfl, rfl, rfl, fun z h => by cases h; exact ⟨_, rfl, rfl, fun S h => zk rfl⟩⟩, ⟨_, Tryz.underlying129, rfl⟩, by intro h; cases h⟩
def zbT : TI := ⟨.other, 1, 8, some (.atom .nilFunc), false⟩
theorem z6Y : qG Tryz.prog 134 zbT := ⟨⟨Tryz.t134, by kernel_rfl, rfl, rfl, fun z h => by cases h; exact ⟨_, rfl, rfl, fun S h => zk rfl⟩⟩, ⟨_, Tryz.underlying134, rfl⟩, by intro h; cases h⟩
def zbS : TI := ⟨.other, 1, 8, some (.atom .nilFunc), false⟩
theorem z6X : qG Tryz.prog 135 zbS := ⟨⟨Tryz.t135, by kernel_rfl, rfl, rfl, fun z h => by cases h; exact ⟨_, rfl, rfl, fun S h => zk rfl⟩⟩, ⟨_, Tryz.underlying135, rfl⟩, by intro h; cases h⟩
def zbR : TI := ⟨.struct [(0, 1), (1, 1), (2, 1)], 3, 24, some (.agg [.atom (.int .i64 0), .atom (.int .i64 0), .atom (.int .i64 0)]), true⟩
theorem z6W : qG Tryz.prog 138 zbR := ⟨⟨Tryz.t138, by kernel_rfl, rfl, rfl, fun z h => by cases h; exact ⟨_, rfl, rfl, fun S h => xe (zo (zk rfl) (zo (zk rfl) (zo (zk rfl) (yu))))⟩⟩, ⟨_, Tryz.underlying138, by kernel_rfl, by
  intro f hf
  simp only [List.mem_cons, List.not_mem_nil, or_false] at hf
  rcases hf with rfl | rfl | rfl
  ·exact ⟨Tryz.t3, by kernel_rfl⟩
  ·exact ⟨Tryz.t3, by kernel_rfl⟩
  ·exact ⟨Tryz.t3, by kernel_rfl⟩⟩, fun _ => W6 (Go.Ex.zaU.eqn rfl) rfl rfl rfl rfl⟩
def zbQ : TI := ⟨.other, 1, 8, some (.atom .nilFunc), false⟩
theorem z6V : qG Tryz.prog 141 zbQ := ⟨⟨Tryz.t141, by kernel_rfl, rfl, rfl, fun z h => by cases h; exact ⟨_, rfl, rfl, fun S h => zk rfl⟩⟩, ⟨_, Tryz.underlying141, rfl⟩, by intro h; cases h⟩
def zbP : TI := ⟨.other, 1, 8, some (.atom .nilFunc), false⟩
theorem z6U : qG Tryz.prog 148 zbP := ⟨⟨Tryz.t148, by kernel_rfl, rfl, rfl, fun z h => by cases h; exact ⟨_, rfl, rfl, fun S h => zk rfl⟩⟩, ⟨_, Tryz.underlying148, rfl⟩, by intro h; cases h⟩
def zbO : TI := ⟨.slice 138, 1, 24, some (.osl 3 true []), false⟩
theorem z6T : qG Tryz.prog 149 zbO := ⟨⟨Tryz.t149, by kernel_rfl, rfl, rfl, fun z h => by cases h; exact ⟨_, rfl, rfl, fun S h => xx _⟩⟩, Tryz.underlying149, by intro h; cases h⟩
def zbN : TI := ⟨.array 24 5, 24, 24, some (.agg [.atom (.int .u8 0), .atom (.int .u8 0), .atom (.int .u8 0), .atom (.int .u8 0), .atom (.int .u8 0), .atom (.int .u8 0), .atom (.int .u8 0), .atom (.int .u8 0), .atom (.int .u8 0), .atom (.int .u8 0), .atom (.int .u8 0), .atom (.int .u8 0), .atom (.int .u8 0), .atom (.int .u8 0), .atom (.int .u8 0), .atom (.int .u8 0), .atom (.int .u8 0), .atom (.int .u8 0), .atom (.int .u8 0), .atom (.int .u8 0), .atom (.int .u8 0), .atom (.int .u8 0), .atom (.int .u8 0), .atom (.int .u8 0)]), false⟩
theorem z6S : qG Tryz.prog 150 zbN := ⟨⟨Tryz.t150, by kernel_rfl, rfl, rfl, fun z h => by cases h; exact ⟨_, rfl, rfl, fun S h => xe (zo (zk rfl) (zo (zk rfl) (zo (zk rfl) (zo (zk rfl) (zo (zk rfl) (zo (zk rfl) (zo (zk rfl) (zo (zk rfl) (zo (zk rfl) (zo (zk rfl) (zo (zk rfl) (zo (zk rfl) (zo (zk rfl) (zo (zk rfl) (zo (zk rfl) (zo (zk rfl) (zo (zk rfl) (zo (zk rfl) (zo (zk rfl) (zo (zk rfl) (zo (zk rfl) (zo (zk rfl) (zo (zk rfl) (zo (zk rfl) (yu)))))))))))))))))))))))))⟩⟩, Tryz.underlying150, by intro h; cases h⟩
def tiL : List (Nat × TI) := [(1, ti1), (2, ti2), (3, ti3), (4, ti4), (5, ti5), (9, ti9), (22, zh6), (24, zh5), (25, zh4), (27, zh3), (28, zh2), (30, zh1), (31, zh0), (34, zgZ), (36, zgY), (37, zgX), (46, zgW), (47, zgV), (48, zgU), (49, zgT), (51, zgS), (56, zgR), (58, zgQ), (60, zgP), (61, zgO), (64, zgN), (67, zgM), (68, zgL), (69, zgK), (71, zgJ), (73, zgI), (75, zgH), (78, zgG), (80, zgF), (82, zgE), (85, zgD), (86, zgC), (90, zgB), (91, zgA), (93, zgz), (95, zgy), (102, zc1), (103, zc0), (105, zbZ), (109, zbY), (112, zbX), (117, zbW), (123, zbV), (129, zbU), (134, zbT), (135, zbS), (138, zbR), (141, zbQ), (148, zbP), (149, zbO), (150, zbN)]
def wq : TT := fun t => (tiL.find? fun p => p.1 == t).map (·.2)
def z6G (P : Program) : List (Nat × TI) → Prop
 | [] => True
 | p :: l => qG P p.1 p.2 ∧ z6G P l
theorem z6G.mem : ∀ {l : List (Nat × TI)}, z6G P l → ∀ p ∈ l, qG P p.1 p.2
 | p :: _, h, q, hq => by
  rcases List.mem_cons.1 hq with rfl | hq
  ·exact h.1
  ·exact z6G.mem h.2 q hq
 | [], _, _, hq => by cases hq
theorem zbG : z6G Tryz.prog tiL := ⟨zbM, zbL, zbK, zbJ, zbI, zbH, za3, za2, za1, za0, z9Z, z9Y, z9X, z4N, z9W, z9V, z9U, z9T, z9S, z9R, z9Q, z9P, z9O, z9N, z4M, z9M, z9L, z9K, z9J, z9I, z9H, z9G, z9F, z9E, z9D, z9C, z9B, z9A, z9z, z9y, z9x, z79, z78, z75, z74, z73, z72, z71, z6Z, z6Y, z6X, z6W, z6V, z6U, z6T, z6S, trivial⟩
theorem zC : xE Tryz.prog wq := by
 intro t i h
 unfold wq at h
 rw [Option.map_eq_some_iff] at h
 obtain ⟨p, h1, rfl⟩ := h
 have h2 := List.find?_some h1
 have h3 := zbG.mem p (List.mem_of_find?_eq_some h1)
 rw [beq_iff_eq.1 h2] at h3
 exact h3
theorem ziz : wq 1 = some ⟨.other, 1, 8, some (.atom .nilFunc), false⟩ := rfl
theorem ziy : wq 2 = some ⟨.int .i64, 1, 8, some (.atom (.int .i64 0)), false⟩ := rfl
theorem zix : wq 3 = some ⟨.int .i64, 1, 8, some (.atom (.int .i64 0)), false⟩ := rfl
theorem ziw : wq 4 = some ⟨.bool, 1, 1, some (.atom (.bool false)), false⟩ := rfl
theorem ziv : wq 5 = some ⟨.int .u8, 1, 1, some (.atom (.int .u8 0)), false⟩ := rfl
theorem ziu : wq 9 = some ⟨.str, 1, 16, some (.atom (.string ⟨#[]⟩)), false⟩ := rfl
theorem zgg : wq 22 = some ⟨.slice 103, 1, 24, some (.osl 1 true []), false⟩ := rfl
theorem zgf : wq 24 = some ⟨.struct [(0, 1), (1, 1), (2, 1), (3, 1), (4, 1)], 5, 32, some (.agg [.atom (.int .u8 0), .atom (.int .u8 0), .atom (.int .u8 0), .atom (.bool false), .osl 1 true []]), false⟩ := rfl
theorem zge : wq 25 = some ⟨.slice 64, 1, 24, some (.osl 1 true []), false⟩ := rfl
theorem zgd : wq 27 = some ⟨.struct [(0, 5), (5, 1)], 6, 56, some (.agg [.agg [.atom (.int .u8 0), .atom (.int .u8 0), .atom (.int .u8 0), .atom (.bool false), .osl 1 true []], .osl 1 true []]), false⟩ := rfl
theorem zgc : wq 28 = some ⟨.slice 102, 1, 24, some (.osl 1 true []), false⟩ := rfl
theorem zgb : wq 30 = some ⟨.struct [(0, 1), (1, 1), (2, 1)], 3, 40, some (.agg [.atom (.int .i64 0), .atom (.int .i64 0), .osl 1 true []]), false⟩ := rfl
theorem zga : wq 31 = some ⟨.slice 51, 1, 24, some (.osl 1 true []), false⟩ := rfl
theorem zg9 : wq 34 = some ⟨.array 2 3, 2, 16, some (.agg [.atom (.int .i64 0), .atom (.int .i64 0)]), true⟩ := rfl
theorem zg8 : wq 36 = some ⟨.struct [(0, 2), (2, 2), (4, 2)], 6, 48, some (.agg [.agg [.atom (.int .i64 0), .atom (.int .i64 0)], .agg [.atom (.int .i64 0), .atom (.int .i64 0)], .agg [.atom (.int .i64 0), .atom (.int .i64 0)]]), true⟩ := rfl
theorem zg7 : wq 37 = some ⟨.int .i64, 1, 8, some (.atom (.int .i64 0)), false⟩ := rfl
theorem zg6 : wq 46 = some ⟨.other, 1, 8, some (.atom .nilFunc), false⟩ := rfl
theorem zg5 : wq 47 = some ⟨.slice 60, 1, 24, some (.osl 3 true []), false⟩ := rfl
theorem zg4 : wq 48 = some ⟨.other, 1, 8, some (.atom .nilFunc), false⟩ := rfl
theorem zg3 : wq 49 = some ⟨.slice 34, 1, 24, some (.osl 2 true []), false⟩ := rfl
theorem zg2 : wq 51 = some ⟨.slice 3, 1, 24, some (.osl 1 true []), false⟩ := rfl
theorem zg1 : wq 56 = some ⟨.slice 61, 1, 24, some (.osl 3 true []), false⟩ := rfl
theorem zg0 : wq 58 = some ⟨.other, 1, 8, some (.atom .nilFunc), false⟩ := rfl
theorem zfZ : wq 60 = some ⟨.struct [(0, 1), (1, 1), (2, 1)], 3, 24, some (.agg [.atom (.int .i64 0), .atom (.int .i64 0), .atom (.int .i64 0)]), true⟩ := rfl
theorem zfY : wq 61 = some ⟨.struct [(0, 1), (1, 1), (2, 1)], 3, 24, some (.agg [.atom (.int .i64 0), .atom (.int .i64 0), .atom (.int .i64 0)]), true⟩ := rfl
theorem zfX : wq 64 = some ⟨.slice 5, 1, 24, some (.osl 1 true []), false⟩ := rfl
theorem zfW : wq 67 = some ⟨.other, 1, 8, some (.atom (.map none)), false⟩ := rfl
theorem zfV : wq 68 = some ⟨.other, 1, 8, some (.atom (.map none)), false⟩ := rfl
theorem zfU : wq 69 = some ⟨.other, 1, 8, some (.atom (.map none)), false⟩ := rfl
theorem zfT : wq 71 = some ⟨.struct [(0, 1), (1, 1), (2, 1)], 3, 24, some (.agg [.atom (.map none), .atom (.map none), .atom (.map none)]), false⟩ := rfl
theorem zfS : wq 73 = some ⟨.array 3 34, 6, 48, some (.agg [.agg [.atom (.int .i64 0), .atom (.int .i64 0)], .agg [.atom (.int .i64 0), .atom (.int .i64 0)], .agg [.atom (.int .i64 0), .atom (.int .i64 0)]]), true⟩ := rfl
theorem zfR : wq 75 = some ⟨.slice 82, 1, 24, some (.osl 5 true []), false⟩ := rfl
theorem zfQ : wq 78 = some ⟨.other, 1, 8, some (.atom .nilFunc), false⟩ := rfl
theorem zfP : wq 80 = some ⟨.other, 1, 8, some (.atom .nilFunc), false⟩ := rfl
theorem zfO : wq 82 = some ⟨.struct [(0, 1), (1, 3), (4, 1)], 5, 56, some (.agg [.osl 1 true [], .agg [.atom (.int .i64 0), .atom (.int .i64 0), .atom (.int .i64 0)], .atom .nilFunc]), false⟩ := rfl
theorem zfN : wq 85 = some ⟨.other, 1, 8, some (.atom .nilFunc), false⟩ := rfl
theorem zfM : wq 86 = some ⟨.slice 4, 1, 24, some (.osl 1 true []), false⟩ := rfl
theorem zfL : wq 90 = some ⟨.ptr 95, 1, 8, some (.atom (.pointer none)), false⟩ := rfl
theorem zfK : wq 91 = some ⟨.slice 117, 1, 24, some (.osl 1 true []), false⟩ := rfl
theorem zfJ : wq 93 = some ⟨.slice 91, 1, 24, some (.osl 1 true []), false⟩ := rfl
theorem zfI : wq 95 = some ⟨.struct [(0, 1), (1, 1)], 2, 48, some (.agg [.osl 1 true [], .osl 1 true []]), false⟩ := rfl
theorem zdE : wq 102 = some ⟨.slice 105, 1, 24, some (.osl 2 true []), false⟩ := rfl
theorem zdD : wq 103 = some ⟨.int .u16, 1, 2, some (.atom (.int .u16 0)), false⟩ := rfl
theorem zdC : wq 105 = some ⟨.struct [(0, 1), (1, 1)], 2, 16, some (.agg [.atom (.int .i64 0), .atom (.int .i64 0)]), true⟩ := rfl
theorem zdB : wq 109 = some ⟨.array 3 3, 3, 24, some (.agg [.atom (.int .i64 0), .atom (.int .i64 0), .atom (.int .i64 0)]), true⟩ := rfl
theorem zdA : wq 112 = some ⟨.array 3 9, 3, 48, some (.agg [.atom (.string ⟨#[]⟩), .atom (.string ⟨#[]⟩), .atom (.string ⟨#[]⟩)]), false⟩ := rfl
theorem zdz : wq 117 = some ⟨.int .u64, 1, 8, some (.atom (.int .u64 0)), false⟩ := rfl
theorem zdy : wq 123 = some ⟨.other, 1, 8, some (.atom .nilFunc), false⟩ := rfl
theorem zdx : wq 129 = some ⟨.other, 1, 8, some (.atom .nilFunc), false⟩ := rfl
theorem zdw : wq 134 = some ⟨.other, 1, 8, some (.atom .nilFunc), false⟩ := rfl
theorem zdv : wq 135 = some ⟨.other, 1, 8, some (.atom .nilFunc), false⟩ := rfl
theorem zdu : wq 138 = some ⟨.struct [(0, 1), (1, 1), (2, 1)], 3, 24, some (.agg [.atom (.int .i64 0), .atom (.int .i64 0), .atom (.int .i64 0)]), true⟩ := rfl
theorem zdt : wq 141 = some ⟨.other, 1, 8, some (.atom .nilFunc), false⟩ := rfl
theorem zds : wq 148 = some ⟨.other, 1, 8, some (.atom .nilFunc), false⟩ := rfl
theorem zdr : wq 149 = some ⟨.slice 138, 1, 24, some (.osl 3 true []), false⟩ := rfl
theorem zdq : wq 150 = some ⟨.array 24 5, 24, 24, some (.agg [.atom (.int .u8 0), .atom (.int .u8 0), .atom (.int .u8 0), .atom (.int .u8 0), .atom (.int .u8 0), .atom (.int .u8 0), .atom (.int .u8 0), .atom (.int .u8 0), .atom (.int .u8 0), .atom (.int .u8 0), .atom (.int .u8 0), .atom (.int .u8 0), .atom (.int .u8 0), .atom (.int .u8 0), .atom (.int .u8 0), .atom (.int .u8 0), .atom (.int .u8 0), .atom (.int .u8 0), .atom (.int .u8 0), .atom (.int .u8 0), .atom (.int .u8 0), .atom (.int .u8 0), .atom (.int .u8 0), .atom (.int .u8 0)]), false⟩ := rfl
attribute [go_sem] ziz ziy zix ziw ziv ziu zgg zgf zge zgd zgc zgb zga zg9 zg8 zg7 zg6 zg5 zg4 zg3 zg2 zg1 zg0 zfZ zfY zfX zfW zfV zfU zfT zfS zfR zfQ zfP zfO zfN zfM zfL zfK zfJ zfI zdE zdD zdC zdB zdA zdz zdy zdx zdw zdv zdu zdt zds zdr zdq
structure xF (α : Type) where
 e0 : α
 e1 : α
 deriving DecidableEq
instance {α : Type} [BEq α] : BEq (xF α) := ⟨fun x y => (x.e0 == y.e0) && (x.e1 == y.e1)⟩
section
variable {α : Type}
def Vx (f : α → A) (x : xF α) : A := .agg [f x.e0, f x.e1]
instance (f : α → A) [h : Vf f] : Vf (Vx f) := ⟨fun x => by simp [Vx, A.isD, A.areD, h.isD]⟩
instance (f g : α → A) [h : ZV f g] : ZV (Vx f) (Vx g) := ⟨fun x => by simp [Vx, A.loose, A.looses, h.lo]⟩
instance (f g : α → A) [h : KB f g] : KB (Vx f) (Vx g) := ⟨fun x => by simp [Vx, A.live, A.lives, h.live], fun x => by simp [Vx, A.shut, A.shuts, h.sh]⟩
instance (f : α → A) [h : uc f] : uc (Vx f) := ⟨fun x y q => by
 simp only [Vx, A.agg.injEq, List.cons.injEq, and_true] at q
 cases x; cases y
 simp only [xF.mk.injEq]
 exact ⟨h.inj _ _ q.1, h.inj _ _ q.2⟩⟩
end
structure Wb (α : Type) where
 e0 : α
 e1 : α
 e2 : α
 deriving DecidableEq
section
variable {α : Type}
def zd7 (f : α → A) (x : Wb α) : A := .agg [f x.e0, f x.e1, f x.e2]
end
section
variable {α : Type}
def Wb.toL (x : Wb α) : List α := [x.e0, x.e1, x.e2]
def Wb.ofL : List α → Wb α → Wb α
 | [x0, x1, x2], _ => ⟨x0, x1, x2⟩
 | _, d => d
theorem Wb.toL_ofL (l : List α) (d : Wb α) (h : l.length = 3) : (Wb.ofL l d).toL = l := by
 match l, h with
 | [x0, x1, x2], _ => rfl
def Wb.setI (x : Wb α) (i : Int) (v : α) : Wb α := Wb.ofL (x.toL.set i.toNat v) x
theorem Wb.setL (f : α → A) (x : Wb α) (i : Int) (v : α) : (x.toL.map f).set i.toNat (f v) = ((Wb.setI x i v).toL).map f := by
 unfold Wb.setI
 rw [Wb.toL_ofL _ _ (by simp [Wb.toL]), List.map_set]
end
structure z8 where
 State : Int
 Input : Int
 Next : Int
instance : BEq z8 := ⟨fun x y => (x.State == y.State) && (x.Input == y.Input) && (x.Next == y.Next)⟩
def zZ (f0 : Int → A) (f1 : Int → A) (f2 : Int → A) (x : z8) : A := .agg [f0 x.State, f1 x.Input, f2 x.Next]
instance (f0 : Int → A) (f1 : Int → A) (f2 : Int → A) [h0 : Vf f0] [h1 : Vf f1] [h2 : Vf f2] : Vf (zZ f0 f1 f2) := ⟨fun x => by simp [zZ, A.isD, A.areD, h0.isD, h1.isD, h2.isD]⟩
instance (f0 : Int → A) (f1 : Int → A) (f2 : Int → A) (g0 : Int → A) (g1 : Int → A) (g2 : Int → A) [h0 : ZV f0 g0] [h1 : ZV f1 g1] [h2 : ZV f2 g2] : ZV (zZ f0 f1 f2) (zZ g0 g1 g2) := ⟨fun x => by simp [zZ, A.loose, A.looses, h0.lo, h1.lo, h2.lo]⟩
instance (f0 : Int → A) (f1 : Int → A) (f2 : Int → A) (g0 : Int → A) (g1 : Int → A) (g2 : Int → A) [h0 : KB f0 g0] [h1 : KB f1 g1] [h2 : KB f2 g2] : KB (zZ f0 f1 f2) (zZ g0 g1 g2) := ⟨fun x => by simp [zZ, A.live, A.lives, h0.live, h1.live, h2.live], fun x => by simp [zZ, A.shut, A.shuts, h0.sh, h1.sh, h2.sh]⟩
instance (f0 : Int → A) (f1 : Int → A) (f2 : Int → A) [h0 : uc f0] [h1 : uc f1] [h2 : uc f2] : uc (zZ f0 f1 f2) := ⟨fun x y h => by
 simp only [zZ, A.agg.injEq, List.cons.injEq, and_true] at h
 cases x; cases y
 simp only [z8.mk.injEq]
 exact ⟨h0.inj _ _ h.1, h1.inj _ _ h.2.1, h2.inj _ _ h.2.2⟩⟩
structure ym where
 States : Int
 Inputs : Int
 Outputs : Int
 Partial : Bool
 Edges : List Int
def uX (f0 : Int → A) (f1 : Int → A) (f2 : Int → A) (f3 : Bool → A) (f4 : List Int → A) (x : ym) : A := .agg [f0 x.States, f1 x.Inputs, f2 x.Outputs, f3 x.Partial, f4 x.Edges]
instance (f0 : Int → A) (f1 : Int → A) (f2 : Int → A) (f3 : Bool → A) (f4 : List Int → A) (g0 : Int → A) (g1 : Int → A) (g2 : Int → A) (g3 : Bool → A) (g4 : List Int → A) [h0 : ZV f0 g0] [h1 : ZV f1 g1] [h2 : ZV f2 g2] [h3 : ZV f3 g3] [h4 : ZV f4 g4] : ZV (uX f0 f1 f2 f3 f4) (uX g0 g1 g2 g3 g4) := ⟨fun x => by simp [uX, A.loose, A.looses, h0.lo, h1.lo, h2.lo, h3.lo, h4.lo]⟩
instance (f0 : Int → A) (f1 : Int → A) (f2 : Int → A) (f3 : Bool → A) (f4 : List Int → A) [h0 : uc f0] [h1 : uc f1] [h2 : uc f2] [h3 : uc f3] [h4 : uc f4] : uc (uX f0 f1 f2 f3 f4) := ⟨fun x y h => by
 simp only [uX, A.agg.injEq, List.cons.injEq, and_true] at h
 cases x; cases y
 simp only [ym.mk.injEq]
 exact ⟨h0.inj _ _ h.1, h1.inj _ _ h.2.1, h2.inj _ _ h.2.2.1, h3.inj _ _ h.2.2.2.1, h4.inj _ _ h.2.2.2.2⟩⟩
structure wG where
 M : ym
 L : List (List Int)
def uW (f0 : ym → A) (f1 : List (List Int) → A) (x : wG) : A := .agg [f0 x.M, f1 x.L]
instance (f0 : ym → A) (f1 : List (List Int) → A) (g0 : ym → A) (g1 : List (List Int) → A) [h0 : ZV f0 g0] [h1 : ZV f1 g1] : ZV (uW f0 f1) (uW g0 g1) := ⟨fun x => by simp [uW, A.loose, A.looses, h0.lo, h1.lo]⟩
instance (f0 : ym → A) (f1 : List (List Int) → A) [h0 : uc f0] [h1 : uc f1] : uc (uW f0 f1) := ⟨fun x y h => by
 simp only [uW, A.agg.injEq, List.cons.injEq, and_true] at h
 cases x; cases y
 simp only [wG.mk.injEq]
 exact ⟨h0.inj _ _ h.1, h1.inj _ _ h.2⟩⟩
structure ze where
 To : Int
 Out : Int
def wO (f0 : Int → A) (f1 : Int → A) (x : ze) : A := .agg [f0 x.To, f1 x.Out]
instance (f0 : Int → A) (f1 : Int → A) [h0 : Vf f0] [h1 : Vf f1] : Vf (wO f0 f1) := ⟨fun x => by simp [wO, A.isD, A.areD, h0.isD, h1.isD]⟩
instance (f0 : Int → A) (f1 : Int → A) (g0 : Int → A) (g1 : Int → A) [h0 : ZV f0 g0] [h1 : ZV f1 g1] : ZV (wO f0 f1) (wO g0 g1) := ⟨fun x => by simp [wO, A.loose, A.looses, h0.lo, h1.lo]⟩
instance (f0 : Int → A) (f1 : Int → A) (g0 : Int → A) (g1 : Int → A) [h0 : KB f0 g0] [h1 : KB f1 g1] : KB (wO f0 f1) (wO g0 g1) := ⟨fun x => by simp [wO, A.live, A.lives, h0.live, h1.live], fun x => by simp [wO, A.shut, A.shuts, h0.sh, h1.sh]⟩
instance (f0 : Int → A) (f1 : Int → A) [h0 : uc f0] [h1 : uc f1] : uc (wO f0 f1) := ⟨fun x y h => by
 simp only [wO, A.agg.injEq, List.cons.injEq, and_true] at h
 cases x; cases y
 simp only [ze.mk.injEq]
 exact ⟨h0.inj _ _ h.1, h1.inj _ _ h.2⟩⟩
structure z6 where
 Inputs : Int
 Outputs : Int
 Rows : List (List ze)
def vS (f0 : Int → A) (f1 : Int → A) (f2 : List (List ze) → A) (x : z6) : A := .agg [f0 x.Inputs, f1 x.Outputs, f2 x.Rows]
instance (f0 : Int → A) (f1 : Int → A) (f2 : List (List ze) → A) (g0 : Int → A) (g1 : Int → A) (g2 : List (List ze) → A) [h0 : ZV f0 g0] [h1 : ZV f1 g1] [h2 : ZV f2 g2] : ZV (vS f0 f1 f2) (vS g0 g1 g2) := ⟨fun x => by simp [vS, A.loose, A.looses, h0.lo, h1.lo, h2.lo]⟩
instance (f0 : Int → A) (f1 : Int → A) (f2 : List (List ze) → A) [h0 : uc f0] [h1 : uc f1] [h2 : uc f2] : uc (vS f0 f1 f2) := ⟨fun x y h => by
 simp only [vS, A.agg.injEq, List.cons.injEq, and_true] at h
 cases x; cases y
 simp only [z6.mk.injEq]
 exact ⟨h0.inj _ _ h.1, h1.inj _ _ h.2.1, h2.inj _ _ h.2.2⟩⟩
structure zj where
 state_ : Int
 from_ : Int
 input_ : Int
def ZA (f0 : Int → A) (f1 : Int → A) (f2 : Int → A) (x : zj) : A := .agg [f0 x.state_, f1 x.from_, f2 x.input_]
instance (f0 : Int → A) (f1 : Int → A) (f2 : Int → A) [h0 : Vf f0] [h1 : Vf f1] [h2 : Vf f2] : Vf (ZA f0 f1 f2) := ⟨fun x => by simp [ZA, A.isD, A.areD, h0.isD, h1.isD, h2.isD]⟩
structure za where
 word_ : List Int
 pair_ : z8
 has_ : Int ⊕ (Int × Int) ⊕ z8
def zc (f0 : List Int → A) (f1 : z8 → A) (f2 : Int ⊕ (Int × Int) ⊕ z8 → A) (x : za) : A := .agg [f0 x.word_, f1 x.pair_, f2 x.has_]
instance (f0 : List Int → A) (f1 : z8 → A) (f2 : Int ⊕ (Int × Int) ⊕ z8 → A) [h0 : Vf f0] [h1 : Vf f1] [h2 : Vf f2] : Vf (zc f0 f1 f2) := ⟨fun x => by simp [zc, A.isD, A.areD, h0.isD, h1.isD, h2.isD]⟩
instance (f0 : List Int → A) (f1 : z8 → A) (f2 : Int ⊕ (Int × Int) ⊕ z8 → A) (g0 : List Int → A) (g1 : z8 → A) (g2 : Int ⊕ (Int × Int) ⊕ z8 → A) [h0 : KB f0 g0] [h1 : KB f1 g1] [h2 : KB f2 g2] : KB (zc f0 f1 f2) (zc g0 g1 g2) := ⟨fun x => by simp [zc, A.live, A.lives, h0.live, h1.live, h2.live], fun x => by simp [zc, A.shut, A.shuts, h0.sh, h1.sh, h2.sh]⟩
structure zh where
 states_ : List (Int × Bool)
 edges_ : List ((xF Int) × Bool)
 pairs_ : List (z8 × Bool)
def zT (f0 : List (Int × Bool) → A) (f1 : List ((xF Int) × Bool) → A) (f2 : List (z8 × Bool) → A) (x : zh) : A := .agg [f0 x.states_, f1 x.edges_, f2 x.pairs_]
structure zz where
 sets_ : List (List Int)
 want_ : List Int
def x5 (f0 : List (List Int) → A) (f1 : List Int → A) (x : zz) : A := .agg [f0 x.sets_, f1 x.want_]
instance (f0 : List (List Int) → A) (f1 : List Int → A) (g0 : List (List Int) → A) (g1 : List Int → A) [h0 : ZV f0 g0] [h1 : ZV f1 g1] : ZV (x5 f0 f1) (x5 g0 g1) := ⟨fun x => by simp [x5, A.loose, A.looses, h0.lo, h1.lo]⟩
instance (f0 : List (List Int) → A) (f1 : List Int → A) [h0 : uc f0] [h1 : uc f1] : uc (x5 f0 f1) := ⟨fun x y h => by
 simp only [x5, A.agg.injEq, List.cons.injEq, and_true] at h
 cases x; cases y
 simp only [zz.mk.injEq]
 exact ⟨h0.inj _ _ h.1, h1.inj _ _ h.2⟩⟩
structure zb where
 State : Int
 Input : Int
 Next : Int
def vJ (f0 : Int → A) (f1 : Int → A) (f2 : Int → A) (x : zb) : A := .agg [f0 x.State, f1 x.Input, f2 x.Next]
instance (f0 : Int → A) (f1 : Int → A) (f2 : Int → A) [h0 : Vf f0] [h1 : Vf f1] [h2 : Vf f2] : Vf (vJ f0 f1 f2) := ⟨fun x => by simp [vJ, A.isD, A.areD, h0.isD, h1.isD, h2.isD]⟩
instance (f0 : Int → A) (f1 : Int → A) (f2 : Int → A) (g0 : Int → A) (g1 : Int → A) (g2 : Int → A) [h0 : ZV f0 g0] [h1 : ZV f1 g1] [h2 : ZV f2 g2] : ZV (vJ f0 f1 f2) (vJ g0 g1 g2) := ⟨fun x => by simp [vJ, A.loose, A.looses, h0.lo, h1.lo, h2.lo]⟩
instance (f0 : Int → A) (f1 : Int → A) (f2 : Int → A) [h0 : uc f0] [h1 : uc f1] [h2 : uc f2] : uc (vJ f0 f1 f2) := ⟨fun x y h => by
 simp only [vJ, A.agg.injEq, List.cons.injEq, and_true] at h
 cases x; cases y
 simp only [zb.mk.injEq]
 exact ⟨h0.inj _ _ h.1, h1.inj _ _ h.2.1, h2.inj _ _ h.2.2⟩⟩
structure ye where
 States : xF Int
 Edges : xF Int
 Pairs : xF Int
def xo (f0 : xF Int → A) (f1 : xF Int → A) (f2 : xF Int → A) (x : ye) : A := .agg [f0 x.States, f1 x.Edges, f2 x.Pairs]
instance (f0 : xF Int → A) (f1 : xF Int → A) (f2 : xF Int → A) (g0 : xF Int → A) (g1 : xF Int → A) (g2 : xF Int → A) [h0 : ZV f0 g0] [h1 : ZV f1 g1] [h2 : ZV f2 g2] : ZV (xo f0 f1 f2) (xo g0 g1 g2) := ⟨fun x => by simp [xo, A.loose, A.looses, h0.lo, h1.lo, h2.lo]⟩
instance (f0 : xF Int → A) (f1 : xF Int → A) (f2 : xF Int → A) [h0 : uc f0] [h1 : uc f1] [h2 : uc f2] : uc (xo f0 f1 f2) := ⟨fun x y h => by
 simp only [xo, A.agg.injEq, List.cons.injEq, and_true] at h
 cases x; cases y
 simp only [ye.mk.injEq]
 exact ⟨h0.inj _ _ h.1, h1.inj _ _ h.2.1, h2.inj _ _ h.2.2⟩⟩
instance : zeT (K := xF Int) (Vx (eI .i64)) := ⟨fun x y => by
 obtain ⟨_, _⟩ := x
 obtain ⟨_, _⟩ := y
 simp only [Vx, eI, Ve, QF, QF.keyLs, zP, BEq.beq, Option.map_some, Option.some.injEq, Value.agg.injEq, List.cons_append, List.nil_append, List.append_nil, Array.mk.injEq, List.cons.injEq, Value.int.injEq, true_and, and_true, Bool.and_eq_true, decide_eq_true_eq, and_assoc]⟩
instance : zeT (K := z8) (zZ (eI .i64) (eI .i64) (eI .i64)) := ⟨fun x y => by
 obtain ⟨_, _, _⟩ := x
 obtain ⟨_, _, _⟩ := y
 simp only [zZ, eI, Ve, QF, QF.keyLs, zP, BEq.beq, Option.map_some, Option.some.injEq, Value.agg.injEq, List.cons_append, List.nil_append, List.append_nil, Array.mk.injEq, List.cons.injEq, Value.int.injEq, true_and, and_true, Bool.and_eq_true, decide_eq_true_eq, and_assoc]⟩
def zcL : Int ⊕ (Int × Int) ⊕ z8 → Nat
 | (.inl _) => 46
 | (.inr (.inl _)) => 47
 | (.inr (.inr _)) => 48
def zdf : Int ⊕ (Int × Int) ⊕ z8 → List A
 | (.inl c) => [.sptr (I c)]
 | (.inr (.inl c)) => [.sptr (I c.1), .sptr (I c.2)]
 | (.inr (.inr c)) => [.sptr (.agg [I c.State, I c.Input, I c.Next])]
def zD (x : Int ⊕ (Int × Int) ⊕ z8) : A := .fn (zcL x) (zdf x)
instance : Vf zD := ⟨fun _ => rfl⟩
instance : KB zD zD := ⟨fun _ => rfl, fun _ => rfl⟩
def kS (x_ : ym) (fj : List (List ze)) : Option z6 :=
 some (z6.mk (w64 (1 + (w64 (Int.tmod x_.Inputs 3)))) (w64 (1 + (w64 (Int.tmod x_.Outputs 3)))) fj)
def kR (s_ : Int) (fc : List (List ze)) : Option (LR (List (List ze) × Int) (List (List ze))) :=
 some (.next (fc, w64 (s_ + 1)))
def kQ (ba : List (List ze)) (s_ : Int) (row : List ze) : Option (LR (List (List ze) × Int) (List (List ze))) :=
 gd (ba.length + ([row] : List (List ze)).length ≤ 4294967296) <|
 kR s_ (ba ++ ([row] : List (List ze)))
def qS (i_ : Int) (gi : List ze) : Option (LR (List ze × Int) (List ze)) :=
 some (.next (gi, w64 (i_ + 1)))
def vR (x_ : ym) (ck : List ze) (i_ : Int) (v_ : Int) : Option (LR (List ze × Int) (List ze)) :=
 bif x_.Partial then (
  gd ((4 : Int) ≠ 0) <|
  bif (Int.tmod v_ 4) == 3 then (
   gd (ck.length + ([(ze.mk (-1) (-1))] : List ze).length ≤ 4294967296) <|
   qS i_ (ck ++ ([(ze.mk (-1) (-1))] : List ze)))
  else (
   gd ((4 : Int) ≠ 0) <|
   gd (((w64 (1 + (w64 (Int.tmod x_.States 6)))) : Int) ≠ 0) <|
   gd ((4 : Int) ≠ 0) <|
   gd (((w64 (1 + (w64 (Int.tmod x_.States 6)))) : Int) ≠ 0) <|
   gd (((w64 (1 + (w64 (Int.tmod x_.Outputs 3)))) : Int) ≠ 0) <|
   gd (ck.length + ([(ze.mk (Int.tmod (w64 (Int.tdiv v_ 4)) (w64 (1 + (w64 (Int.tmod x_.States 6))))) (Int.tmod (w64 (Int.tdiv (w64 (Int.tdiv v_ 4)) (w64 (1 + (w64 (Int.tmod x_.States 6)))))) (w64 (1 + (w64 (Int.tmod x_.Outputs 3))))))] : List ze).length ≤ 4294967296) <|
   qS i_ (ck ++ ([(ze.mk (Int.tmod (w64 (Int.tdiv v_ 4)) (w64 (1 + (w64 (Int.tmod x_.States 6))))) (Int.tmod (w64 (Int.tdiv (w64 (Int.tdiv v_ 4)) (w64 (1 + (w64 (Int.tmod x_.States 6)))))) (w64 (1 + (w64 (Int.tmod x_.Outputs 3))))))] : List ze))))
 else (
  gd ((4 : Int) ≠ 0) <|
  gd (((w64 (1 + (w64 (Int.tmod x_.States 6)))) : Int) ≠ 0) <|
  gd ((4 : Int) ≠ 0) <|
  gd (((w64 (1 + (w64 (Int.tmod x_.States 6)))) : Int) ≠ 0) <|
  gd (((w64 (1 + (w64 (Int.tmod x_.Outputs 3)))) : Int) ≠ 0) <|
  gd (ck.length + ([(ze.mk (Int.tmod (w64 (Int.tdiv v_ 4)) (w64 (1 + (w64 (Int.tmod x_.States 6))))) (Int.tmod (w64 (Int.tdiv (w64 (Int.tdiv v_ 4)) (w64 (1 + (w64 (Int.tmod x_.States 6)))))) (w64 (1 + (w64 (Int.tmod x_.Outputs 3))))))] : List ze).length ≤ 4294967296) <|
  qS i_ (ck ++ ([(ze.mk (Int.tmod (w64 (Int.tdiv v_ 4)) (w64 (1 + (w64 (Int.tmod x_.States 6))))) (Int.tmod (w64 (Int.tdiv (w64 (Int.tdiv v_ 4)) (w64 (1 + (w64 (Int.tmod x_.States 6)))))) (w64 (1 + (w64 (Int.tmod x_.Outputs 3))))))] : List ze)))
def qR (x_ : ym) (s_ : Int) (ck : List ze) (i_ : Int) : Option (LR (List ze × Int) (List ze)) :=
 bif decide (i_ < (w64 (1 + (w64 (Int.tmod x_.Inputs 3))))) then (
  bif decide ((w64 ((w64 (s_ * (w64 (1 + (w64 (Int.tmod x_.Inputs 3)))))) + i_)) < ((x_.Edges.length : Nat) : Int)) then (
   (idx x_.Edges (w64 ((w64 (s_ * (w64 (1 + (w64 (Int.tmod x_.Inputs 3)))))) + i_))).bind fun gj =>
   vR x_ ck i_ (w64 (gj)))
  else (
   vR x_ ck i_ 0))
 else (
  some (.done ck))
def kP (x_ : ym) (ba : List (List ze)) (s_ : Int) : Option (LR (List (List ze) × Int) (List (List ze))) :=
 bif decide (s_ < (w64 (1 + (w64 (Int.tmod x_.States 6))))) then (
  (loop (fun s => qR x_ s_ s.1 s.2) (([] : List ze), 0)).bind fun t5 =>
  kQ ba s_ t5)
 else (
  some (.done ba))
def Yv (x_ : ym) : Option z6 :=
 gd ((6 : Int) ≠ 0) <|
 gd ((3 : Int) ≠ 0) <|
 gd ((3 : Int) ≠ 0) <|
 (loop (fun s => kP x_ s.1 s.2) (([] : List (List ze)), 0)).bind fun t2 =>
 kS x_ t2
def kO (out : List Int) : Option (List Int) :=
 some out
def kN (w_ : List Int) (inputs : Int) (most : Int) (aj : List Int) (k_ : Int) : Option (LR (List Int × Int) (List Int)) :=
 bif decide (k_ < ((w_.length : Nat) : Int)) then (
  bif decide (k_ < most) then (
   (idx w_ k_).bind fun bc =>
   gd ((inputs : Int) ≠ 0) <|
   gd (aj.length + ([Int.tmod (w64 (bc)) inputs] : List Int).length ≤ 4294967296) <|
   some (.next ((aj ++ ([Int.tmod (w64 (bc)) inputs] : List Int)), w64 (k_ + 1))))
  else (
   some (.done aj)))
 else (
  some (.done aj))
def Yu (w_ : List Int) (inputs : Int) (most : Int) : Option (List Int) :=
 (loop (fun s => kN w_ inputs most s.1 s.2) (([] : List Int), 0)).bind fun t2 =>
 kO t2
def kn : Option Int :=
 some 0
def u3 (a_ : List Int) (b_ : List Int) (i_ : Int) : Option (LR Int (Unit ⊕ Int)) :=
 bif decide (i_ < ((a_.length : Nat) : Int)) then (
  (idx a_ i_).bind fun fq =>
  (idx b_ i_).bind fun ft =>
  bif decide (fq < ft) then (
   some (.done (.inr (-1))))
  else (
   (idx a_ i_).bind fun ic =>
   (idx b_ i_).bind fun ie =>
   bif decide (ic > ie) then (
    some (.done (.inr 1)))
   else (
    some (.next (w64 (i_ + 1))))))
 else (
  some (.done (.inl ())))
def vQ (a_ : List Int) (b_ : List Int) : Option Int :=
 bif ((a_.length : Nat) : Int) != ((b_.length : Nat) : Int) then (
  bif decide (((a_.length : Nat) : Int) < ((b_.length : Nat) : Int)) then (
   some (-1))
  else (
   some 1))
 else (
  (loop (fun s => u3 a_ b_ s) 0).bind fun t2 =>
  match t2 with
  | .inl p => kn
  | .inr p => some p)
def ZW (w_ : List Int) (cp : Int) (bl : List (List Int)) : Option (List (List Int)) :=
 gd (([] : List Int).length + w_.length ≤ 4294967296) <|
 (idx bl cp).bind fun ax =>
 some (bl.set cp.toNat w_)
def jT (cp : Int) (dy : List (List Int)) (i_ : Int) : Option (LR (List (List Int) × Int) (List (List Int))) :=
 bif decide (i_ > cp) then (
  (idx dy (w64 (i_ - 1))).bind fun co =>
  (idx dy i_).bind fun ir =>
  some (.next ((dy.set i_.toNat co), w64 (i_ - 1))))
 else (
  some (.done dy))
def qC (l_ : List (List Int)) (w_ : List Int) (cp : Int) : Option (List (List Int)) :=
 gd (l_.length + ([[]] : List (List Int)).length ≤ 4294967296) <|
 (loop (fun s => jT cp s.1 s.2) ((l_ ++ ([[]] : List (List Int))), w64 ((((l_ ++ ([[]] : List (List Int))).length : Nat) : Int) - 1))).bind fun t4 =>
 ZW w_ cp t4
def ZX (l_ : List (List Int)) (w_ : List Int) (cp : Int) : Option (List (List Int)) :=
 bif decide (cp < ((l_.length : Nat) : Int)) then (
  (idx l_ cp).bind fun gb =>
  (vQ gb w_).bind fun r_ =>
  bif r_ == 0 then (
   some l_)
  else (
   qC l_ w_ cp))
 else (
  qC l_ w_ cp)
def jS (l_ : List (List Int)) (w_ : List Int) (dv : Int) (d8 : Int) : Option (LR (Int × Int) Int) :=
 bif decide (dv < d8) then (
  gd ((2 : Int) ≠ 0) <|
  (idx l_ (w64 (Int.tdiv (w64 (dv + d8)) 2))).bind fun gc =>
  (vQ gc w_).bind fun ah =>
  bif decide (ah < 0) then (
   some (.next (w64 ((w64 (Int.tdiv (w64 (dv + d8)) 2)) + 1), d8)))
  else (
   some (.next (dv, w64 (Int.tdiv (w64 (dv + d8)) 2)))))
 else (
  some (.done dv))
def XT (l_ : List (List Int)) (w_ : List Int) : Option (List (List Int)) :=
 (loop (fun s => jS l_ w_ s.1 s.2) (0, ((l_.length : Nat) : Int))).bind fun t5 =>
 ZX l_ w_ t5
def YW (out : List (List Int)) : Option (List (List Int)) :=
 some out
def wZ (l_ : List (List Int)) (aj : List (List Int)) (i_ : Int) : Option (LR (List (List Int) × Int) (List (List Int))) :=
 bif decide (i_ < ((l_.length : Nat) : Int)) then (
  (idx l_ i_).bind fun ax =>
  (XT aj ax).bind fun r_ =>
  some (.next (r_, w64 (i_ + 1))))
 else (
  some (.done aj))
def Yo (l_ : List (List Int)) : Option (List (List Int)) :=
 (loop (fun s => wZ l_ s.1 s.2) (([] : List (List Int)), 0)).bind fun t2 =>
 YW t2
def kM (r_ : z6) (l_ : List (List Int)) : Option (z6 × List (List Int)) :=
 (Yo l_).bind fun ah =>
 some (r_, ah)
def kL (x_ : wG) (r_ : z6) (bl : List (List Int)) (i_ : Int) : Option (LR (List (List Int) × Int) (List (List Int))) :=
 bif decide (i_ < ((x_.L.length : Nat) : Int)) then (
  bif decide (i_ < 12) then (
   (idx x_.L i_).bind fun ig =>
   (Yu ig r_.Inputs 8).bind fun am =>
   gd (bl.length + ([am] : List (List Int)).length ≤ 4294967296) <|
   some (.next ((bl ++ ([am] : List (List Int))), w64 (i_ + 1))))
  else (
   some (.done bl)))
 else (
  some (.done bl))
def Yt (x_ : wG) : Option (z6 × List (List Int)) :=
 (Yv x_.M).bind fun r_ =>
 (loop (fun s => kL x_ r_ s.1 s.2) (([] : List (List Int)), 0)).bind fun t2 =>
 kM r_ t2
def kK : Option ze :=
 some (ze.mk (-1) (-1))
def qQ (m_ : z6) (x_ : ze) : Option Bool :=
 (kK).bind fun r_ =>
 bif (x_.To == r_.To) && ((x_.Out == r_.Out) && true) then (
  some true)
 else (
  bif decide (x_.To ≥ 0) then (
   bif decide (x_.To < ((m_.Rows.length : Nat) : Int)) then (
    bif decide (x_.Out ≥ 0) then (
     some (decide (x_.Out < m_.Outputs)))
    else (
     some false))
   else (
    some false))
  else (
   some false))
def qg (x_ : ze) (x1 : z6) : Option Bool :=
 (qQ x1 x_).bind fun r_ =>
 some (!r_)
def yN : Option Int :=
 some (-1)
def zQ (s_ : List ze) (f_ : z6) (x8 : Int) : Option (LR Int (Unit ⊕ Int)) :=
 bif decide (x8 < ((s_.length : Nat) : Int)) then (
  (idx s_ x8).bind fun dp =>
  (qg dp f_).bind fun r_ =>
  bif r_ then (
   some (.done (.inr x8)))
  else (
   some (.next (w64 (x8 + 1)))))
 else (
  some (.done (.inl ())))
def yn (s_ : List ze) (f_ : z6) : Option Int :=
 (loop (fun s => zQ s_ f_ s) 0).bind fun t2 =>
 match t2 with
 | .inl p => yN
 | .inr p => some p
def zY (s_ : List ze) (f_ : z6) : Option Bool :=
 (yn s_ f_).bind fun r_ =>
 some (decide (r_ ≥ 0))
def jx : Option Int :=
 some 0
def wo (m_ : z6) (gk : Int) : Option (LR Int (Unit ⊕ Int)) :=
 bif decide (gk < ((m_.Rows.length : Nat) : Int)) then (
  (idx m_.Rows gk).bind fun ar =>
  bif ((ar.length : Nat) : Int) != m_.Inputs then (
   some (.done (.inr 1)))
  else (
   (zY ar m_).bind fun r_ =>
   bif r_ then (
    some (.done (.inr 1)))
   else (
    some (.next (w64 (gk + 1))))))
 else (
  some (.done (.inl ())))
def u9 (m_ : z6) : Option Int :=
 bif decide (m_.Inputs > 16) then (
  some 3)
 else (
  bif decide (m_.Outputs > 16) then (
   some 3)
  else (
   bif decide (((m_.Rows.length : Nat) : Int) > 64) then (
    some 3)
   else (
    bif decide (m_.Inputs < 1) then (
     some 1)
    else (
     bif decide (m_.Outputs < 1) then (
      some 1)
     else (
      bif decide (((m_.Rows.length : Nat) : Int) < 1) then (
       some 1)
      else (
       (loop (fun s => wo m_ s) 0).bind fun t2 =>
       match t2 with
       | .inl p => jx
       | .inr p => some p))))))
def kA (c_ : Int) (x1 : Int) : Option Bool :=
 bif decide (c_ < 0) then (
  some true)
 else (
  some (decide (c_ ≥ x1)))
def wv : Option Int :=
 some (-1)
def yf (s_ : List Int) (f_ : Int) (x8 : Int) : Option (LR Int (Unit ⊕ Int)) :=
 bif decide (x8 < ((s_.length : Nat) : Int)) then (
  (idx s_ x8).bind fun dp =>
  (kA dp f_).bind fun r_ =>
  bif r_ then (
   some (.done (.inr x8)))
  else (
   some (.next (w64 (x8 + 1)))))
 else (
  some (.done (.inl ())))
def xZ (s_ : List Int) (f_ : Int) : Option Int :=
 (loop (fun s => yf s_ f_ s) 0).bind fun t2 =>
 match t2 with
 | .inl p => wv
 | .inr p => some p
def xg (s_ : List Int) (f_ : Int) : Option Bool :=
 (xZ s_ f_).bind fun r_ =>
 some (decide (r_ ≥ 0))
def jl (w_ : List Int) (inputs : Int) : Option Int :=
 bif decide (inputs > 16) then (
  some 3)
 else (
  bif decide (((w_.length : Nat) : Int) > 256) then (
   some 3)
  else (
   bif decide (inputs < 1) then (
    some 1)
   else (
    (xg w_ inputs).bind fun r_ =>
    bif r_ then (
     some 1)
    else (
     some 0))))
def Y1 : Option Int :=
 some 0
def u6 (l_ : List (List Int)) (inputs : Int) (gl : Int) : Option (LR Int (Unit ⊕ Int)) :=
 bif decide (gl < ((l_.length : Nat) : Int)) then (
  (idx l_ gl).bind fun ax =>
  (jl ax inputs).bind fun r_ =>
  bif r_ != 0 then (
   some (.done (.inr r_)))
  else (
   some (.next (w64 (gl + 1)))))
 else (
  some (.done (.inl ())))
def jo (l_ : List (List Int)) (inputs : Int) : Option Int :=
 bif decide (inputs > 16) then (
  some 3)
 else (
  bif decide (((l_.length : Nat) : Int) > 4096) then (
   some 3)
  else (
   bif decide (inputs < 1) then (
    some 1)
   else (
    (loop (fun s => u6 l_ inputs s) 0).bind fun t2 =>
    match t2 with
    | .inl p => Y1
    | .inr p => some p)))
def j4 (x_ : Int) : Option Bool :=
 some (x_ != x_)
def vG (x_ : Int) (y_ : Int) : Option Int :=
 (j4 x_).bind fun r_ =>
 (j4 y_).bind fun ah =>
 bif r_ then (
  bif ah then (
   some 0)
  else (
   some (-1)))
 else (
  bif ah then (
   some 1)
  else (
   bif decide (x_ < y_) then (
    some (-1))
   else (
    bif decide (x_ > y_) then (
     some 1)
    else (
     some 0))))
def xM (s1 : List Int) (s2 : List Int) : Option Int :=
 bif decide (((s1.length : Nat) : Int) < ((s2.length : Nat) : Int)) then (
  some (-1))
 else (
  some 0)
def yo (s1 : List Int) (s2 : List Int) (dw : Int) : Option (LR Int (Unit ⊕ Int)) :=
 bif decide (dw < ((s1.length : Nat) : Int)) then (
  (idx s1 dw).bind fun gm =>
  bif decide (dw ≥ ((s2.length : Nat) : Int)) then (
   some (.done (.inr 1)))
  else (
   (idx s2 dw).bind fun fw =>
   (vG gm fw).bind fun r_ =>
   bif r_ != 0 then (
    some (.done (.inr r_)))
   else (
    some (.next (w64 (dw + 1))))))
 else (
  some (.done (.inl ())))
def xz (s1 : List Int) (s2 : List Int) : Option Int :=
 (loop (fun s => yo s1 s2 s) 0).bind fun t2 =>
 match t2 with
 | .inl p => xM s1 s2
 | .inr p => some p
def kU : Option Int :=
 some 0
def uL (vals : List Int) (x8 : Int) : Option (LR Int (Unit ⊕ Int)) :=
 bif decide (x8 < ((vals.length : Nat) : Int)) then (
  (idx vals x8).bind fun gu =>
  bif gu != 0 then (
   some (.done (.inr gu)))
  else (
   some (.next (w64 (x8 + 1)))))
 else (
  some (.done (.inl ())))
def Yy (vals : List Int) : Option Int :=
 (loop (fun s => uL vals s) 0).bind fun t2 =>
 match t2 with
 | .inl p => kU
 | .inr p => some p
def vK (a_ : List Int) (b_ : List Int) : Option Int :=
 (vG ((a_.length : Nat) : Int) ((b_.length : Nat) : Int)).bind fun r_ =>
 (xz a_ b_).bind fun ah =>
 (Yy ([r_, ah])).bind fun am =>
 some am
def jI : Option Bool :=
 some true
def u7 (l_ : List (List Int)) (i_ : Int) : Option (LR Int (Unit ⊕ Bool)) :=
 bif decide (i_ < ((l_.length : Nat) : Int)) then (
  (idx l_ (w64 (i_ - 1))).bind fun ax =>
  (idx l_ i_).bind fun co =>
  (vK ax co).bind fun r_ =>
  bif decide (r_ ≥ 0) then (
   some (.done (.inr false)))
  else (
   some (.next (w64 (i_ + 1)))))
 else (
  some (.done (.inl ())))
def Zf (l_ : List (List Int)) : Option Bool :=
 (loop (fun s => u7 l_ s) 1).bind fun t2 =>
 match t2 with
 | .inl p => jI
 | .inr p => some p
def Y0 (n_ : Int) : Option Int :=
 some n_
def u4 (l_ : List (List Int)) (dt : Int) (x7 : Int) : Option (LR (Int × Int) Int) :=
 bif decide (x7 < ((l_.length : Nat) : Int)) then (
  (idx l_ x7).bind fun ax =>
  some (.next (w64 (dt + ((ax.length : Nat) : Int)), w64 (x7 + 1))))
 else (
  some (.done dt))
def jn (l_ : List (List Int)) : Option Int :=
 (loop (fun s => u4 l_ s.1 s.2) (0, 0)).bind fun t2 =>
 Y0 t2
def Zg (l_ : List (List Int)) (inputs : Int) : Option Int :=
 (jo l_ inputs).bind fun r_ =>
 bif r_ != 0 then (
  some r_)
 else (
  (Zf l_).bind fun ah =>
  bif !ah then (
   some 1)
  else (
   (jn l_).bind fun am =>
   bif decide (am > 65536) then (
    some 3)
   else (
    some 0)))
def xW (m_ : z6) (l_ : List (List Int)) : Option Int :=
 (u9 m_).bind fun r_ =>
 bif r_ != 0 then (
  some r_)
 else (
  (Zg l_ m_.Inputs).bind fun ah =>
  some ah)
def jG (m_ : z6) (from_ : Int) : Option (z6 × Int) :=
 some (m_, from_)
variable {σ : Type}
def yz (dc : Int) (fx : List Bool) (fk : List zj) : Option (LR (List Bool × List zj × Int) ((σ × List Bool × List zj))) :=
 some (.next (fx, fk, w64 (dc + 1)))
def xG (a7 : zj) (yr : σ × Bool) (ar : List ze) (da : List Bool) (cb : List zj) (dc : Int) : Option (LR (List Bool × List zj × Int) ((σ × List Bool × List zj))) :=
 bif decide (dc < ((ar.length : Nat) : Int)) then (
  (idx ar dc).bind fun ak =>
  bif ak.To != (-1) then (
   (idx da ak.To).bind fun gw =>
   bif !gw then (
    (idx da ak.To).bind fun im =>
    gd (cb.length + ([(zj.mk ak.To a7.state_ dc)] : List zj).length ≤ 4294967296) <|
    yz dc (da.set ak.To.toNat true) (cb ++ ([(zj.mk ak.To a7.state_ dc)] : List zj)))
   else (
    yz dc da cb))
  else (
   yz dc da cb))
 else (
  some (.done (yr.1, da, cb)))
def wr (x0 : z6) (yy : σ → zj → Option (σ × Bool)) (fh : σ) (fl : List Bool) (bj : List zj) : Option (LR (σ × List Bool × List zj) σ) :=
 bif decide (((bj.length : Nat) : Int) > 0) then (
  (idx bj 0).bind fun a7 =>
  gd ((0 : Int) ≤ 1 ∧ (1 : Int) ≤ ((bj.length : Nat) : Int)) <|
  (yy fh a7).bind fun yr =>
  bif !yr.2 then (
   some (.done yr.1))
  else (
   (idx x0.Rows a7.state_).bind fun ar =>
   (loop (fun s => xG a7 yr ar s.1 s.2.1 s.2.2) (fl, (bj.drop (1 : Int).toNat), 0)).bind fun t2 =>
   some (.next t2)))
 else (
  some (.done fh))
def vV (x0 : z6) (x1 : Int) {σ : Type} (yy : σ → zj → Option (σ × Bool)) (sg : σ) : Option σ :=
 gd ((0 : Int) ≤ ((x0.Rows.length : Nat) : Int) ∧ (((x0.Rows.length : Nat) : Int) : Int) ≤ 4294967296) <|
 (idx (List.replicate ((x0.Rows.length : Nat) : Int).toNat false) x1).bind fun iw =>
 (loop (fun s => wr x0 yy s.1 s.2.1 s.2.2) (sg, ((List.replicate ((x0.Rows.length : Nat) : Int).toNat false).set x1.toNat true), ([(zj.mk x1 (-1) (-1))] : List zj))).bind fun t1 =>
 some t1
def zU (s_ : List Int) : Option (List Int) :=
 gd (([] : List Int).length + s_.length ≤ 4294967296) <|
 some s_
def y3 (s_ : List Int) : Option (List Int) :=
 gd ((0 : Int) ≤ 0 ∧ (0 : Int) ≤ ((s_.length : Nat) : Int) ∧ (((s_.length : Nat) : Int) : Int) ≤ ((s_.length : Nat) : Int) ∧ (((s_.length : Nat) : Int) : Int) ≤ ((s_.length : Nat) : Int)) <|
 some ((s_.drop 0).take (((s_.length : Nat) : Int).toNat - 0))
def jF (l_ : List (List Int)) (is : List Bool) : Option (List (List Int) × List Bool) :=
 some (l_, is)
def xL (bl : List (List Int)) (cm : List Bool) (bw : zj) : Option (LR (List (List Int) × List Bool) Empty) :=
 (idx cm bw.state_).bind fun gv =>
 bif bw.from_ != (-1) then (
  (idx bl bw.from_).bind fun ax =>
  (zU ax).bind fun ah =>
  gd (ah.length + ([bw.input_] : List Int).length ≤ 4294967296) <|
  (y3 (ah ++ ([bw.input_] : List Int))).bind fun am =>
  (idx bl bw.state_).bind fun co =>
  some (.next ((bl.set bw.state_.toNat am), (cm.set bw.state_.toNat true))))
 else (
  some (.next (bl, (cm.set bw.state_.toNat true))))
def Zb (m_ : z6) (from_ : Int) : Option (List (List Int) × List Bool) :=
 gd ((0 : Int) ≤ ((m_.Rows.length : Nat) : Int) ∧ (((m_.Rows.length : Nat) : Int) : Int) ≤ 4294967296) <|
 gd ((0 : Int) ≤ ((m_.Rows.length : Nat) : Int) ∧ (((m_.Rows.length : Nat) : Int) : Int) ≤ 4294967296) <|
 (jG m_ from_).bind fun r_ =>
 (vV r_.1 r_.2 (yOf (fun s x => xL s.1 s.2 x)) (.next ((List.replicate ((m_.Rows.length : Nat) : Int).toNat ([] : List Int)), (List.replicate ((m_.Rows.length : Nat) : Int).toNat false)))).bind fun t2 =>
 match t2 with
 | .next (bl, cm) => (
  jF bl cm)
 | .done z => nomatch z
def jO (m_ : z6) : Option (List (List Int) × List Bool × Int) :=
 (u9 m_).bind fun r_ =>
 bif r_ != 0 then (
  some (([] : List (List Int)), ([] : List Bool), r_))
 else (
  (Zb m_ 0).bind fun ah =>
  some (ah.1, ah.2, 0))
def qm (out : List za) : Option (List za) :=
 some out
def xu (av : Int) (a8 : List za) : Option (LR (List za × Int) (List za)) :=
 some (.next (a8, w64 (av + 1)))
def xq (a9 : Int) (cu : List za) : Option (LR (List za × Int) (List za)) :=
 some (.next (cu, w64 (a9 + 1)))
def wS (cg : Int) (cq : List za) : Option (LR (List za × Int) (List za)) :=
 some (.next (cq, w64 (cg + 1)))
def wP (av : Int) (a9 : Int) (am : List Int) (bt : List ze) (db : List za) (cg : Int) : Option (LR (List za × Int) (List za)) :=
 bif decide (cg < ((bt.length : Nat) : Int)) then (
  (idx bt cg).bind fun bh =>
  bif bh.To != (-1) then (
   (zU (am ++ ([a9] : List Int))).bind fun au =>
   (y3 au).bind fun aw =>
   gd (aw.length + ([cg] : List Int).length ≤ 4294967296) <|
   gd (db.length + ([(za.mk (aw ++ ([cg] : List Int)) (z8.mk av a9 cg) (.inr (.inr (z8.mk av a9 cg))))] : List za).length ≤ 4294967296) <|
   wS cg (db ++ ([(za.mk (aw ++ ([cg] : List Int)) (z8.mk av a9 cg) (.inr (.inr (z8.mk av a9 cg))))] : List za)))
  else (
   wS cg db))
 else (
  some (.done db))
def wQ (m_ : z6) (goal : Int) (r_ : List (List Int) × List Bool × Int) (av : Int) (ar : List ze) (br : List za) (a9 : Int) : Option (LR (List za × Int) (List za)) :=
 bif decide (a9 < ((ar.length : Nat) : Int)) then (
  (idx ar a9).bind fun ak =>
  bif ak.To == (-1) then (
   xq a9 br)
  else (
   (idx r_.1 av).bind fun ii =>
   (zU ii).bind fun ah =>
   (y3 ah).bind fun am =>
   gd (am.length + ([a9] : List Int).length ≤ 4294967296) <|
   bif goal == 1 then (
    gd (br.length + ([(za.mk (am ++ ([a9] : List Int)) (z8.mk av a9 0) (.inr (.inl (av, a9))))] : List za).length ≤ 4294967296) <|
    xq a9 (br ++ ([(za.mk (am ++ ([a9] : List Int)) (z8.mk av a9 0) (.inr (.inl (av, a9))))] : List za)))
   else (
    (idx m_.Rows ak.To).bind fun bt =>
    (loop (fun s => wP av a9 am bt s.1 s.2) (br, 0)).bind fun t6 =>
    xq a9 t6)))
 else (
  some (.done br))
def wR (m_ : z6) (goal : Int) (r_ : List (List Int) × List Bool × Int) (aj : List za) (av : Int) : Option (LR (List za × Int) (List za)) :=
 bif decide (av < ((m_.Rows.length : Nat) : Int)) then (
  (idx m_.Rows av).bind fun ar =>
  (idx r_.2.1 av).bind fun u_ =>
  bif !u_ then (
   xu av aj)
  else (
   bif goal == 0 then (
    (idx r_.1 av).bind fun fm =>
    gd (aj.length + ([(za.mk fm (z8.mk av 0 0) (.inl av))] : List za).length ≤ 4294967296) <|
    xu av (aj ++ ([(za.mk fm (z8.mk av 0 0) (.inl av))] : List za)))
   else (
    (loop (fun s => wQ m_ goal r_ av ar s.1 s.2) (aj, 0)).bind fun t4 =>
    xu av t4)))
 else (
  some (.done aj))
def v7 (m_ : z6) (goal : Int) : Option (List za) :=
 (jO m_).bind fun r_ =>
 (loop (fun s => wR m_ goal r_ s.1 s.2) (([] : List za), 0)).bind fun t2 =>
 qm t2
def ua : Option zh :=
 some (zh.mk (QB ([] : List (Int × Bool)) 0 true) ([] : List ((xF Int) × Bool)) ([] : List (z8 × Bool)))
def yS (al : List (Int × Bool)) (ap : List ((xF Int) × Bool)) (cd : Int) (d9 : Int) (bc : Int) (ak : ze) (bf : List (z8 × Bool)) : Option (LR ((List (Int × Bool)) × (List ((xF Int) × Bool)) × (List (z8 × Bool)) × Int × Int × Int × Int) zh) :=
 some (.next ((QB al ak.To true), (QB ap (xF.mk cd bc) true), bf, ak.To, cd, bc, w64 (d9 + 1)))
def xC (m_ : z6) (w_ : List Int) (al : List (Int × Bool)) (ap : List ((xF Int) × Bool)) (aq : List (z8 × Bool)) (cd : Int) (bi : Int) (bm : Int) (d9 : Int) : Option (LR ((List (Int × Bool)) × (List ((xF Int) × Bool)) × (List (z8 × Bool)) × Int × Int × Int × Int) zh) :=
 bif decide (d9 < ((w_.length : Nat) : Int)) then (
  (idx w_ d9).bind fun bc =>
  (idx m_.Rows cd).bind fun ar =>
  (idx ar bc).bind fun ak =>
  bif ak.To == (-1) then (
   some (.done (zh.mk al ap aq)))
  else (
   bif bi != (-1) then (
    yS al ap cd d9 bc ak (QB aq (z8.mk bi bm bc) true))
   else (
    yS al ap cd d9 bc ak aq)))
 else (
  some (.done (zh.mk al ap aq)))
def xH (m_ : z6) (w_ : List Int) (x_ : zh) : Option zh :=
 (loop (fun s => xC m_ w_ s.1 s.2.1 s.2.2.1 s.2.2.2.1 s.2.2.2.2.1 s.2.2.2.2.2.1 s.2.2.2.2.2.2) (x_.states_, x_.edges_, x_.pairs_, 0, (-1), (-1), 0)).bind fun t1 =>
 some t1
def uS (al : List (Int × Bool)) (ap : List ((xF Int) × Bool)) (aq : List (z8 × Bool)) : Option zh :=
 some (zh.mk al ap aq)
def xp (m_ : z6) (l_ : List (List Int)) (bk : List (Int × Bool)) (bu : List ((xF Int) × Bool)) (bf : List (z8 × Bool)) (dw : Int) : Option (LR ((List (Int × Bool)) × (List ((xF Int) × Bool)) × (List (z8 × Bool)) × Int) (((List (Int × Bool)) × (List ((xF Int) × Bool)) × (List (z8 × Bool))))) :=
 bif decide (dw < ((l_.length : Nat) : Int)) then (
  (idx l_ dw).bind fun ax =>
  (xH m_ ax (zh.mk bk bu bf)).bind fun ah =>
  some (.next (ah.states_, ah.edges_, ah.pairs_, w64 (dw + 1))))
 else (
  some (.done (bk, bu, bf)))
def yD (m_ : z6) (l_ : List (List Int)) : Option zh :=
 (ua).bind fun r_ =>
 (loop (fun s => xp m_ l_ s.1 s.2.1 s.2.2.1 s.2.2.2) (r_.states_, r_.edges_, r_.pairs_, 0)).bind fun t2 =>
 uS t2.1 t2.2.1 t2.2.2
def qX (x0 : Int) (x_ : zh) : Option Bool :=
 (some ((z4A x_.states_ x0).getD false)).bind fun val =>
 some val
def qW (x0 : Int) (x1 : Int) (x_ : zh) : Option Bool :=
 (some ((z4A x_.edges_ (xF.mk x0 x1)).getD false)).bind fun val =>
 some val
def qV (x0 : z8) (x_ : zh) : Option Bool :=
 (some ((z4A x_.pairs_ x0).getD false)).bind fun val =>
 some val
def W2 (f : Int ⊕ (Int × Int) ⊕ z8) (x : zh) : Option Bool :=
 match f with
 | (.inl c) => qX c x
 | (.inr (.inl c)) => qW c.1 c.2 x
 | (.inr (.inr c)) => qV c x
def jB (out : List Int) : Option (List Int) :=
 some out
def wp (de : Int) (a8 : List Int) : Option (LR (List Int × Int) (List Int)) :=
 some (.next (a8, w64 (de + 1)))
def xI (bo : List za) (x_ : zh) (aj : List Int) (de : Int) : Option (LR (List Int × Int) (List Int)) :=
 bif decide (de < ((bo.length : Nat) : Int)) then (
  (idx bo de).bind fun fe =>
  (W2 fe.has_ x_).bind fun r_ =>
  bif r_ then (
   gd ((64 : Int) ≠ 0) <|
   (idx aj (w64 (Int.tdiv de 64))).bind fun dj =>
   gd ((64 : Int) ≠ 0) <|
   gd ((0 : Int) ≤ Int.tmod de 64) <|
   (idx aj (w64 (Int.tdiv de 64))).bind fun eb =>
   wp de (aj.set (w64 (Int.tdiv de 64)).toNat (orK .u64 dj (z6I .u64 1 (Int.tmod de 64)))))
  else (
   wp de aj))
 else (
  some (.done aj))
def vn (bo : List za) (x_ : zh) : Option (List Int) :=
 gd ((64 : Int) ≠ 0) <|
 gd ((0 : Int) ≤ w64 ((w64 (Int.tdiv ((bo.length : Nat) : Int) 64)) + 1) ∧ (w64 ((w64 (Int.tdiv ((bo.length : Nat) : Int) 64)) + 1) : Int) ≤ 4294967296) <|
 (loop (fun s => xI bo x_ s.1 s.2) ((List.replicate (w64 ((w64 (Int.tdiv ((bo.length : Nat) : Int) 64)) + 1)).toNat (0 : Int)), 0)).bind fun t2 =>
 jB t2
def wa : Option Bool :=
 some true
def y9 (s1 : List Int) (s2 : List Int) (fz : Int) : Option (LR Int (Unit ⊕ Bool)) :=
 bif decide (fz < ((s1.length : Nat) : Int)) then (
  (idx s1 fz).bind fun gm =>
  (idx s2 fz).bind fun fw =>
  bif gm != fw then (
   some (.done (.inr false)))
  else (
   some (.next (w64 (fz + 1)))))
 else (
  some (.done (.inl ())))
def yH (s1 : List Int) (s2 : List Int) : Option Bool :=
 bif ((s1.length : Nat) : Int) != ((s2.length : Nat) : Int) then (
  some false)
 else (
  (loop (fun s => y9 s1 s2 s) 0).bind fun t2 =>
  match t2 with
  | .inl p => wa
  | .inr p => some p)
def yI (s_ : List Int) : Option (List Int) :=
 gd (([] : List Int).length + s_.length ≤ 4294967296) <|
 some s_
def wz : Option (List Int × Bool) :=
 some (([] : List Int), false)
def yC (i_ : Int) : Option (LR Int (Unit ⊕ (List Int × Bool))) :=
 some (.next (w64 (i_ + 1)))
def yg (c_ : zz) (many : Int) (ct : zz → (List Int) → Int → Int → Option (List Int × Bool)) (i_ : Int) (eg : List Int) : Option (LR Int (Unit ⊕ (List Int × Bool))) :=
 (ct c_ eg (w64 (i_ + 1)) (w64 (many - 1))).bind fun am =>
 bif am.2 then (
  gd (([i_] : List Int).length + am.1.length ≤ 4294967296) <|
  some (.done (.inr ((([i_]) ++ am.1), true))))
 else (
  yC i_)
def y4 (cw : List Int) (dl : List Int) (dh : Int) : Option (LR (List Int × Int) (List Int)) :=
 bif decide (dh < ((cw.length : Nat) : Int)) then (
  (idx cw dh).bind fun em =>
  (idx dl dh).bind fun fp =>
  (idx dl dh).bind fun ib =>
  some (.next ((dl.set dh.toNat (orK .u64 fp em)), w64 (dh + 1))))
 else (
  some (.done dl))
def y5 (c_ : zz) (bv : List Int) (many : Int) (ct : zz → (List Int) → Int → Int → Option (List Int × Bool)) (i_ : Int) : Option (LR Int (Unit ⊕ (List Int × Bool))) :=
 bif decide ((w64 (i_ + many)) ≤ ((c_.sets_.length : Nat) : Int)) then (
  (yI bv).bind fun ah =>
  (idx c_.sets_ i_).bind fun cw =>
  (loop (fun s => y4 cw s.1 s.2) (ah, 0)).bind fun t5 =>
  yg c_ many ct i_ t5)
 else (
  some (.done (.inl ())))
def y7 (ct : zz → (List Int) → Int → Int → Option (List Int × Bool)) (c_ : zz) (bv : List Int) (from_ : Int) (many : Int) : Option (List Int × Bool) :=
 bif many == 0 then (
  (yH bv c_.want_).bind fun r_ =>
  some (([] : List Int), r_))
 else (
  (loop (fun s => y5 c_ bv many ct s) from_).bind fun t2 =>
  match t2 with
  | .inl p => wz
  | .inr p => some p)
def zR (fu : Nat) : zz → (List Int) → Int → Int → Option (List Int × Bool) := Nat.rec (motive := fun _ => zz → (List Int) → Int → Int → Option (List Int × Bool)) (fun _ _ _ _ => none) (fun _ ih => y7 ih) fu
def vF (c_ : zz) (bv : List Int) (from_ : Int) (many : Int) : Option (List Int × Bool) := zR (many.toNat + 1) c_ bv from_ many
def qq : Option (List (List Int) × Int) :=
 some (([] : List (List Int)), 0)
def wC (dz : Int) : Option (LR Int (Unit ⊕ (List (List Int) × Int))) :=
 some (.next (w64 (dz + 1)))
def wB (bp : List Int × Bool) (out : List (List Int)) : Option (LR Int (Unit ⊕ (List (List Int) × Int))) :=
 gd (out.length = ((bp.1.length : Nat) : Int).toNat) <|
 some (.done (.inr (out, 0)))
def x6 (l_ : List (List Int)) (bp : List Int × Bool) (aj : List (List Int)) (gn : Int) : Option (LR (List (List Int) × Int) (List (List Int))) :=
 bif decide (gn < ((bp.1.length : Nat) : Int)) then (
  (idx bp.1 gn).bind fun u_ =>
  (idx l_ u_).bind fun ax =>
  (zU ax).bind fun dx =>
  (y3 dx).bind fun dr =>
  gd (aj.length + ([dr] : List (List Int)).length ≤ ((bp.1.length : Nat) : Int).toNat) <|
  some (.next ((aj ++ ([dr] : List (List Int))), w64 (gn + 1))))
 else (
  some (.done aj))
def x9 (l_ : List (List Int)) (ah : List za) (au : List Int) (cj : List (List Int)) (dz : Int) : Option (LR Int (Unit ⊕ (List (List Int) × Int))) :=
 bif decide (dz < (w64 (((l_.length : Nat) : Int) + 1))) then (
  (ua).bind fun aw =>
  (vn ah aw).bind fun bz =>
  (vF (zz.mk cj au) bz 0 dz).bind fun bp =>
  bif !bp.2 then (
   wC dz)
  else (
   gd ((0 : Int) ≤ ((bp.1.length : Nat) : Int) ∧ (((bp.1.length : Nat) : Int) : Int) ≤ 4294967296) <|
   (loop (fun s => x6 l_ bp s.1 s.2) (([] : List (List Int)), 0)).bind fun t6 =>
   wB bp t6))
 else (
  some (.done (.inl ())))
def vT (l_ : List (List Int)) (ah : List za) (au : List Int) (cj : List (List Int)) : Option (List (List Int) × Int) :=
 (loop (fun s => x9 l_ ah au cj s) 0).bind fun t3 =>
 match t3 with
 | .inl p => qq
 | .inr p => some p
def xJ (m_ : z6) (l_ : List (List Int)) (ah : List za) (cr : List (List Int)) (dh : Int) : Option (LR (List (List Int) × Int) (List (List Int))) :=
 bif decide (dh < ((l_.length : Nat) : Int)) then (
  (idx l_ dh).bind fun co =>
  (yD m_ ([co])).bind fun cn =>
  (vn ah cn).bind fun ez =>
  gd (cr.length + ([ez] : List (List Int)).length ≤ 4294967296) <|
  some (.next ((cr ++ ([ez] : List (List Int))), w64 (dh + 1))))
 else (
  some (.done cr))
def wT (m_ : z6) (l_ : List (List Int)) (goal : Int) : Option (List (List Int) × Int) :=
 (xW m_ l_).bind fun r_ =>
 bif r_ != 0 then (
  some (([] : List (List Int)), r_))
 else (
  bif decide (goal < 0) then (
   some (([] : List (List Int)), 1))
  else (
   bif decide (goal ≥ 3) then (
    some (([] : List (List Int)), 1))
   else (
    bif decide (((l_.length : Nat) : Int) > 16) then (
     some (([] : List (List Int)), 3))
    else (
     (v7 m_ goal).bind fun ah =>
     (yD m_ l_).bind fun am =>
     (vn ah am).bind fun au =>
     (loop (fun s => xJ m_ l_ ah s.1 s.2) (([] : List (List Int)), 0)).bind fun t7 =>
     vT l_ ah au t7))))
def Yp (m_ : z6) (s_ : Int) (i_ : Int) : Option ze :=
 bif decide (s_ < 0) then (
  some (ze.mk (-1) (-1)))
 else (
  (idx m_.Rows s_).bind fun ar =>
  (idx ar i_).bind fun ak =>
  some ak)
def uI (ct : z6 → Int → (List Int) → Option Int) (m_ : z6) (s_ : Int) (w_ : List Int) : Option Int :=
 bif ((w_.length : Nat) : Int) == 0 then (
  some s_)
 else (
  (idx w_ 0).bind fun bc =>
  (Yp m_ s_ bc).bind fun r_ =>
  gd ((0 : Int) ≤ 1 ∧ (1 : Int) ≤ ((w_.length : Nat) : Int) ∧ (((w_.length : Nat) : Int) : Int) ≤ ((w_.length : Nat) : Int)) <|
  (ct m_ r_.To (w_.drop (1 : Int).toNat)).bind fun ah =>
  some ah)
def qP (fu : Nat) : z6 → Int → (List Int) → Option Int := Nat.rec (motive := fun _ => z6 → Int → (List Int) → Option Int) (fun _ _ _ => none) (fun _ ih => uI ih) fu
def YX (m_ : z6) (s_ : Int) (w_ : List Int) : Option Int := qP (w_.length + 1) m_ s_ w_
def qO (out : List Int) : Option (List Int) :=
 gd (out.length + ([0] : List Int).length ≤ 4294967296) <|
 some (out ++ ([0] : List Int))
def qN (inputs : Int) (aj : List Int) (k_ : Int) : Option (LR (List Int × Int) (List Int ⊕ List Int)) :=
 bif decide (k_ ≥ 0) then (
  (idx aj k_).bind fun dj =>
  bif decide ((w64 (dj + 1)) < inputs) then (
   (idx aj k_).bind fun eb =>
   (idx aj k_).bind fun io =>
   some (.done (.inr (aj.set k_.toNat (w64 (eb + 1))))))
  else (
   (idx aj k_).bind fun ip =>
   some (.next ((aj.set k_.toNat 0), w64 (k_ - 1)))))
 else (
  some (.done (.inl aj)))
def kY (w_ : List Int) (inputs : Int) : Option (List Int) :=
 gd (([] : List Int).length + w_.length ≤ 4294967296) <|
 (loop (fun s => qN inputs s.1 s.2) (w_, w64 (((w_.length : Nat) : Int) - 1))).bind fun t2 =>
 match t2 with
 | .inl p => qO p
 | .inr p => some p
def jM (l_ : List (List Int)) (is : List Bool) : Option (List (List Int) × List Bool) :=
 some (l_, is)
def vj (m_ : z6) (w_ : List Int) (dy : List (List Int)) (gx : List Bool) : Option (LR (List (List Int) × List Bool × List Int) ((List (List Int) × List Bool))) :=
 (kY w_ m_.Inputs).bind fun r_ =>
 some (.next (dy, gx, r_))
def jL (m_ : z6) (from_ : Int) (bl : List (List Int)) (cm : List Bool) (w_ : List Int) : Option (LR (List (List Int) × List Bool × List Int) ((List (List Int) × List Bool))) :=
 bif decide (((w_.length : Nat) : Int) < ((m_.Rows.length : Nat) : Int)) then (
  (YX m_ from_ w_).bind fun ah =>
  bif decide (ah ≥ 0) then (
   (idx cm ah).bind fun gv =>
   bif !gv then (
    (idx cm ah).bind fun iu =>
    (idx bl ah).bind fun ax =>
    vj m_ w_ (bl.set ah.toNat w_) (cm.set ah.toNat true))
   else (
    vj m_ w_ bl cm))
  else (
   vj m_ w_ bl cm))
 else (
  some (.done (bl, cm)))
def Zu (m_ : z6) (from_ : Int) : Option (List (List Int) × List Bool) :=
 gd ((0 : Int) ≤ ((m_.Rows.length : Nat) : Int) ∧ (((m_.Rows.length : Nat) : Int) : Int) ≤ 4294967296) <|
 gd ((0 : Int) ≤ ((m_.Rows.length : Nat) : Int) ∧ (((m_.Rows.length : Nat) : Int) : Int) ≤ 4294967296) <|
 (loop (fun s => jL m_ from_ s.1 s.2.1 s.2.2) ((List.replicate ((m_.Rows.length : Nat) : Int).toNat ([] : List Int)), (List.replicate ((m_.Rows.length : Nat) : Int).toNat false), ([] : List Int))).bind fun t2 =>
 jM t2.1 t2.2
def jU (m_ : z6) : Option (List (List Int) × List Bool) :=
 (Zu m_ 0).bind fun r_ =>
 some (r_.1, r_.2)
def kH (out : List zb) : Option (List zb) :=
 some out
def wY (s_ : Int) (a8 : List zb) : Option (LR (List zb × Int) (List zb)) :=
 some (.next (a8, w64 (s_ + 1)))
def qK (i_ : Int) (cu : List zb) : Option (LR (List zb × Int) (List zb)) :=
 some (.next (cu, w64 (i_ + 1)))
def uG (k_ : Int) (gp : List zb) : Option (LR (List zb × Int) (List zb)) :=
 some (.next (gp, w64 (k_ + 1)))
def vP (m_ : z6) (goal : Int) (s_ : Int) (i_ : Int) (ak : ze) (cq : List zb) (k_ : Int) : Option (LR (List zb × Int) (List zb)) :=
 bif decide (k_ < m_.Inputs) then (
  bif ak.To != (-1) then (
   bif goal == 2 then (
    (idx m_.Rows ak.To).bind fun bt =>
    (idx bt k_).bind fun bh =>
    bif bh.To != (-1) then (
     gd (cq.length + ([(zb.mk s_ i_ k_)] : List zb).length ≤ 4294967296) <|
     uG k_ (cq ++ ([(zb.mk s_ i_ k_)] : List zb)))
    else (
     uG k_ cq))
   else (
    some (.done cq)))
  else (
   some (.done cq)))
 else (
  some (.done cq))
def wX (m_ : z6) (goal : Int) (s_ : Int) (i_ : Int) (ak : ze) (db : List zb) : Option (LR (List zb × Int) (List zb)) :=
 (loop (fun s => vP m_ goal s_ i_ ak s.1 s.2) (db, 0)).bind fun t7 =>
 qK i_ t7
def uE (m_ : z6) (goal : Int) (s_ : Int) (br : List zb) (i_ : Int) : Option (LR (List zb × Int) (List zb)) :=
 bif decide (i_ < m_.Inputs) then (
  (idx m_.Rows s_).bind fun ar =>
  (idx ar i_).bind fun ak =>
  bif ak.To != (-1) then (
   bif goal == 1 then (
    gd (br.length + ([(zb.mk s_ i_ (-1))] : List zb).length ≤ 4294967296) <|
    wX m_ goal s_ i_ ak (br ++ ([(zb.mk s_ i_ (-1))] : List zb)))
   else (
    wX m_ goal s_ i_ ak br))
  else (
   wX m_ goal s_ i_ ak br))
 else (
  some (.done br))
def uF (m_ : z6) (goal : Int) (r_ : List (List Int) × List Bool) (aj : List zb) (s_ : Int) : Option (LR (List zb × Int) (List zb)) :=
 bif decide (s_ < ((m_.Rows.length : Nat) : Int)) then (
  (idx r_.2 s_).bind fun u_ =>
  bif !u_ then (
   wY s_ aj)
  else (
   bif goal == 0 then (
    gd (aj.length + ([(zb.mk s_ (-1) (-1))] : List zb).length ≤ 4294967296) <|
    wY s_ (aj ++ ([(zb.mk s_ (-1) (-1))] : List zb)))
   else (
    (loop (fun s => uE m_ goal s_ s.1 s.2) (aj, 0)).bind fun t4 =>
    wY s_ t4)))
 else (
  some (.done aj))
def Yn (m_ : z6) (goal : Int) : Option (List zb) :=
 (jU m_).bind fun r_ =>
 (loop (fun s => uF m_ goal r_ s.1 s.2) (([] : List zb), 0)).bind fun t2 =>
 kH t2
def xh (k_ : Int) (bh : ze) : Option (LR (Int × Int) Bool) :=
 some (.next (bh.To, w64 (k_ + 1)))
def vD (m_ : z6) (w_ : List Int) (x_ : zb) (cd : Int) (k_ : Int) : Option (LR (Int × Int) Bool) :=
 bif k_ == ((w_.length : Nat) : Int) then (
  some (.done false))
 else (
  (idx m_.Rows cd).bind fun ar =>
  (idx w_ k_).bind fun bc =>
  (idx ar bc).bind fun ak =>
  bif ak.To == (-1) then (
   some (.done false))
  else (
   (idx m_.Rows cd).bind fun bt =>
   (idx w_ k_).bind fun ij =>
   (idx bt ij).bind fun bh =>
   bif x_.State == cd then (
    (idx w_ k_).bind fun ik =>
    bif x_.Input == ik then (
     bif x_.Next == (-1) then (
      some (.done true))
     else (
      bif decide ((w64 (k_ + 1)) < ((w_.length : Nat) : Int)) then (
       (idx w_ (w64 (k_ + 1))).bind fun il =>
       bif il == x_.Next then (
        (idx m_.Rows bh.To).bind fun gy =>
        (idx gy x_.Next).bind fun gq =>
        bif gq.To != (-1) then (
         some (.done true))
        else (
         xh k_ bh))
       else (
        xh k_ bh))
      else (
       xh k_ bh)))
    else (
     xh k_ bh))
   else (
    xh k_ bh)))
def ut (m_ : z6) (w_ : List Int) (x_ : zb) (cd : Int) (k_ : Int) : Option (LR (Int × Int) Bool) :=
 bif x_.Input == (-1) then (
  bif x_.State == cd then (
   some (.done true))
  else (
   vD m_ w_ x_ cd k_))
 else (
  vD m_ w_ x_ cd k_)
def jQ (m_ : z6) (w_ : List Int) (x_ : zb) : Option Bool :=
 (loop (fun s => ut m_ w_ x_ s.1 s.2) (0, 0)).bind fun t1 =>
 some t1
def qb (x_ : zb) : Option Bool :=
 some ((x_.State == 0) && ((x_.Input == (-1)) && ((x_.Next == (-1)) && true)))
def vZ (m_ : z6) (l_ : List (List Int)) (x_ : zb) (i_ : Int) : Option (LR Int (Unit ⊕ Bool)) :=
 bif decide (i_ < ((l_.length : Nat) : Int)) then (
  (idx l_ i_).bind fun ax =>
  (jQ m_ ax x_).bind fun r_ =>
  bif r_ then (
   some (.done (.inr true)))
  else (
   some (.next (w64 (i_ + 1)))))
 else (
  some (.done (.inl ())))
def qM (m_ : z6) (l_ : List (List Int)) (x_ : zb) : Option Bool :=
 (loop (fun s => vZ m_ l_ x_ s) 0).bind fun t2 =>
 match t2 with
 | .inl p => qb x_
 | .inr p => some p
def qa (out : List zb) : Option (List zb) :=
 some out
def wM (i_ : Int) (a8 : List zb) : Option (LR (List zb × Int) (List zb)) :=
 some (.next (a8, w64 (i_ + 1)))
def wL (m_ : z6) (l_ : List (List Int)) (r_ : List zb) (aj : List zb) (i_ : Int) : Option (LR (List zb × Int) (List zb)) :=
 bif decide (i_ < ((r_.length : Nat) : Int)) then (
  (idx r_ i_).bind fun ca =>
  (qM m_ l_ ca).bind fun ah =>
  bif !ah then (
   (idx r_ i_).bind fun fg =>
   gd (aj.length + ([fg] : List zb).length ≤ 4294967296) <|
   wM i_ (aj ++ ([fg] : List zb)))
  else (
   wM i_ aj))
 else (
  some (.done aj))
def wW (m_ : z6) (l_ : List (List Int)) (goal : Int) : Option (List zb) :=
 (Yn m_ goal).bind fun r_ =>
 (loop (fun s => wL m_ l_ r_ s.1 s.2) (([] : List zb), 0)).bind fun t2 =>
 qa t2
def Zt : Option (List (List Int) × Bool) :=
 some (([] : List (List Int)), false)
def wx (m_ : z6) (l_ : List (List Int)) (bq : List (List Int)) (many : Int) (goal : Int) (ct : z6 → (List (List Int)) → (List (List Int)) → Int → Int → Int → Option (List (List Int) × Bool)) (i_ : Int) : Option (LR Int (Unit ⊕ (List (List Int) × Bool))) :=
 bif decide (i_ < ((l_.length : Nat) : Int)) then (
  gd (([] : List (List Int)).length + bq.length ≤ 4294967296) <|
  (idx l_ i_).bind fun ax =>
  gd (bq.length + ([ax] : List (List Int)).length ≤ 4294967296) <|
  (ct m_ l_ (bq ++ ([ax] : List (List Int))) (w64 (i_ + 1)) (w64 (many - 1)) goal).bind fun am =>
  bif am.2 then (
   some (.done (.inr (am.1, true))))
  else (
   some (.next (w64 (i_ + 1)))))
 else (
  some (.done (.inl ())))
def vg (ct : z6 → (List (List Int)) → (List (List Int)) → Int → Int → Int → Option (List (List Int) × Bool)) (m_ : z6) (l_ : List (List Int)) (bq : List (List Int)) (from_ : Int) (many : Int) (goal : Int) : Option (List (List Int) × Bool) :=
 bif many == 0 then (
  (wW m_ bq goal).bind fun r_ =>
  (wW m_ l_ goal).bind fun ah =>
  some (bq, ((r_.length : Nat) : Int) == ((ah.length : Nat) : Int)))
 else (
  (loop (fun s => wx m_ l_ bq many goal ct s) from_).bind fun t2 =>
  match t2 with
  | .inl p => Zt
  | .inr p => some p)
def ve (fu : Nat) : z6 → (List (List Int)) → (List (List Int)) → Int → Int → Int → Option (List (List Int) × Bool) := Nat.rec (motive := fun _ => z6 → (List (List Int)) → (List (List Int)) → Int → Int → Int → Option (List (List Int) × Bool)) (fun _ _ _ _ _ _ => none) (fun _ ih => vg ih) fu
def XS (m_ : z6) (l_ : List (List Int)) (bq : List (List Int)) (from_ : Int) (many : Int) (goal : Int) : Option (List (List Int) × Bool) := ve (many.toNat + 1) m_ l_ bq from_ many goal
def qL (l_ : List (List Int)) : Option (List (List Int)) :=
 some l_
def wy (m_ : z6) (l_ : List (List Int)) (goal : Int) (many : Int) : Option (LR Int (Unit ⊕ List (List Int))) :=
 bif decide (many < ((l_.length : Nat) : Int)) then (
  (XS m_ l_ [] 0 many goal).bind fun r_ =>
  bif r_.2 then (
   some (.done (.inr r_.1)))
  else (
   some (.next (w64 (many + 1)))))
 else (
  some (.done (.inl ())))
def jR (m_ : z6) (l_ : List (List Int)) (goal : Int) : Option (List (List Int)) :=
 (loop (fun s => wy m_ l_ goal s) 0).bind fun t2 =>
 match t2 with
 | .inl p => qL l_
 | .inr p => some p
def kI : Option Bool :=
 some true
def uH (a_ : List (List Int)) (b_ : List (List Int)) (i_ : Int) : Option (LR Int (Unit ⊕ Bool)) :=
 bif decide (i_ < ((a_.length : Nat) : Int)) then (
  (idx a_ i_).bind fun fq =>
  (idx b_ i_).bind fun ft =>
  (vQ fq ft).bind fun r_ =>
  bif r_ != 0 then (
   some (.done (.inr false)))
  else (
   some (.next (w64 (i_ + 1)))))
 else (
  some (.done (.inl ())))
def jw (a_ : List (List Int)) (b_ : List (List Int)) : Option Bool :=
 bif ((a_.length : Nat) : Int) != ((b_.length : Nat) : Int) then (
  some false)
 else (
  (loop (fun s => uH a_ b_ s) 0).bind fun t2 =>
  match t2 with
  | .inl p => kI
  | .inr p => some p)
def W0 : Option z6 :=
 some (z6.mk 2 2 ([[(ze.mk 1 0), (ze.mk 0 0)], [(ze.mk 0 1), (ze.mk 1 0)]]))
def uz (goal : Int) (x_ : zh) : Option Int :=
 (idx ([((x_.states_.length : Nat) : Int), ((x_.edges_.length : Nat) : Int), ((x_.pairs_.length : Nat) : Int)] : List Int) goal).bind fun cell =>
 some cell
def ZC (n_ : Wb (xF Int)) : Option (ye × Int) :=
 some ((ye.mk n_.e0 n_.e1 n_.e2), 0)
def ZB (m_ : z6) (ah : zh) (dt : Wb (xF Int)) (bw : Int) : Option (LR (Wb (xF Int) × Int) (Wb (xF Int))) :=
 bif decide (bw < 3) then (
  (uz bw ah).bind fun am =>
  (v7 m_ bw).bind fun au =>
  (idx (Wb.toL dt) bw).bind fun cell =>
  (some (Wb.setI dt bw (xF.mk am ((au.length : Nat) : Int)))).bind fun arr =>
  some (.next (arr, w64 (bw + 1))))
 else (
  some (.done dt))
def ZZ (m_ : z6) (l_ : List (List Int)) : Option (ye × Int) :=
 (xW m_ l_).bind fun r_ =>
 bif r_ != 0 then (
  some ((ye.mk (xF.mk 0 0) (xF.mk 0 0) (xF.mk 0 0)), r_))
 else (
  (yD m_ l_).bind fun ah =>
  (loop (fun s => ZB m_ ah s.1 s.2) ((Wb.mk (xF.mk 0 0) (xF.mk 0 0) (xF.mk 0 0)), 0)).bind fun t2 =>
  ZC t2)
def yq (s_ : List z8) : Option (List z8) :=
 gd ((0 : Int) ≤ 0 ∧ (0 : Int) ≤ ((s_.length : Nat) : Int) ∧ (((s_.length : Nat) : Int) : Int) ≤ ((s_.length : Nat) : Int) ∧ (((s_.length : Nat) : Int) : Int) ≤ ((s_.length : Nat) : Int)) <|
 some ((s_.drop 0).take (((s_.length : Nat) : Int).toNat - 0))
def uR (out : List z8) : Option (List z8 × Int) :=
 (yq out).bind fun am =>
 some (am, 0)
def vu (av : Int) (a8 : List z8) : Option (LR (List z8 × Int) (List z8)) :=
 some (.next (a8, w64 (av + 1)))
def uQ (ah : zh) (au : List za) (aj : List z8) (av : Int) : Option (LR (List z8 × Int) (List z8)) :=
 bif decide (av < ((au.length : Nat) : Int)) then (
  (idx au av).bind fun ca =>
  (W2 ca.has_ ah).bind fun aw =>
  bif !aw then (
   gd (aj.length + ([ca.pair_] : List z8).length ≤ 4294967296) <|
   vu av (aj ++ ([ca.pair_] : List z8)))
  else (
   vu av aj))
 else (
  some (.done aj))
def jA (m_ : z6) (l_ : List (List Int)) (goal : Int) : Option (List z8 × Int) :=
 (xW m_ l_).bind fun r_ =>
 bif r_ != 0 then (
  some (([] : List z8), r_))
 else (
  (yD m_ l_).bind fun ah =>
  (v7 m_ goal).bind fun au =>
  (loop (fun s => uQ ah au s.1 s.2) (([] : List z8), 0)).bind fun t2 =>
  uR t2)
def qZ (r_ : List z8 × Int) (out : List (xF Int)) : Option (List (xF Int) × Int) :=
 gd (out.length = ((r_.1.length : Nat) : Int).toNat) <|
 some (out, r_.2)
def qY (r_ : List z8 × Int) (aj : List (xF Int)) (gr : Int) : Option (LR (List (xF Int) × Int) (List (xF Int))) :=
 bif decide (gr < ((r_.1.length : Nat) : Int)) then (
  (idx r_.1 gr).bind fun u_ =>
  gd (aj.length + ([(xF.mk u_.State u_.Input)] : List (xF Int)).length ≤ ((r_.1.length : Nat) : Int).toNat) <|
  some (.next ((aj ++ ([(xF.mk u_.State u_.Input)] : List (xF Int))), w64 (gr + 1))))
 else (
  some (.done aj))
def ZD (m_ : z6) (l_ : List (List Int)) : Option (List (xF Int) × Int) :=
 (jA m_ l_ 1).bind fun r_ =>
 gd ((0 : Int) ≤ ((r_.1.length : Nat) : Int) ∧ (((r_.1.length : Nat) : Int) : Int) ≤ 4294967296) <|
 (loop (fun s => qY r_ s.1 s.2) (([] : List (xF Int)), 0)).bind fun t2 =>
 qZ r_ t2
def ur (s_ : List (List Int)) : Option (List (List Int)) :=
 gd (([] : List (List Int)).length + s_.length ≤ 4294967296) <|
 some s_
def jH (a_ : List Int) (b_ : List Int) : Option Bool :=
 (vK a_ b_).bind fun r_ =>
 some (r_ == 0)
def xT (s_ : List (List Int)) : Option (List (List Int)) :=
 some s_
def xS (k_ : Int) : Option (LR Int (Unit ⊕ List (List Int))) :=
 some (.next (w64 (k_ + 1)))
def xR (du : List (List Int)) (cx : Int) : Option (LR Int (Unit ⊕ List (List Int))) :=
 gd ((0 : Int) ≤ cx ∧ (cx : Int) ≤ ((du.length : Nat) : Int)) <|
 gd ((0 : Int) ≤ cx ∧ (cx : Int) ≤ ((du.length : Nat) : Int)) <|
 gd ((0 : Int) ≤ cx ∧ (cx : Int) ≤ (((du.take cx.toNat ++ List.replicate (du.length - cx.toNat) []).length : Nat) : Int)) <|
 some (.done (.inr ((du.take cx.toNat ++ List.replicate (du.length - cx.toNat) []).take cx.toNat)))
def yQ (k2 : Int) (gz : List (List Int)) (ia : Int) : Option (LR (List (List Int) × Int × Int) ((List (List Int) × Int))) :=
 some (.next (gz, ia, w64 (k2 + 1)))
def xP (k_ : Int) (dm : List (List Int)) (ep : Int) (k2 : Int) : Option (LR (List (List Int) × Int × Int) ((List (List Int) × Int))) :=
 bif decide (k2 < ((dm.length - k_.toNat : Nat) : Int)) then (
  gd ((0 : Int) ≤ k_ ∧ (0 : Int) ≤ k2) <|
  (idx dm (k_ + k2)).bind fun ge =>
  gd ((0 : Int) ≤ k_ ∧ (0 : Int) ≤ w64 (k2 - 1)) <|
  (idx dm (k_ + (w64 (k2 - 1)))).bind fun gf =>
  (jH ge gf).bind fun ah =>
  bif !ah then (
   gd ((0 : Int) ≤ k_ ∧ (0 : Int) ≤ k2) <|
   (idx dm (k_ + k2)).bind fun gg =>
   (idx dm ep).bind fun iv =>
   yQ k2 (dm.set ep.toNat gg) (w64 (ep + 1)))
  else (
   yQ k2 dm ep))
 else (
  some (.done (dm, ep)))
def xQ (s_ : List (List Int)) (k_ : Int) : Option (LR Int (Unit ⊕ List (List Int))) :=
 bif decide (k_ < ((s_.length : Nat) : Int)) then (
  (idx s_ k_).bind fun dp =>
  (idx s_ (w64 (k_ - 1))).bind fun gh =>
  (jH dp gh).bind fun r_ =>
  bif r_ then (
   gd ((0 : Int) ≤ k_ ∧ (k_ : Int) ≤ ((s_.length : Nat) : Int)) <|
   (loop (fun s => xP k_ s.1 s.2.1 s.2.2) (s_, k_, 1)).bind fun t5 =>
   xR t5.1 t5.2)
  else (
   xS k_))
 else (
  some (.done (.inl ())))
def ww (s_ : List (List Int)) (eq : Unit) : Option (List (List Int)) :=
 bif decide (((s_.length : Nat) : Int) < 2) then (
  some s_)
 else (
  (loop (fun s => xQ s_ s) 1).bind fun t2 =>
  match t2 with
  | .inl p => xT s_
  | .inr p => some p)
def wj (s_ : List (List Int)) : Option (List (List Int)) :=
 some s_
def Ze (out : List (List Int × Bool)) : Option (List (List Int) × Int) :=
 gd (∀ q ∈ out, q.2 = true) <|
 some ((out.map (·.1)), 0)
def Zd (am : List (List Int)) (a8 : List (List Int × Bool)) (eu : Int) : Option (LR ((List (List Int × Bool)) × Int) ((List (List Int × Bool)))) :=
 bif decide (eu < ((am.length - (0 : Int).toNat : Nat) : Int)) then (
  gd ((0 : Int) ≤ 0 ∧ (0 : Int) ≤ eu) <|
  (idx a8 (0 + eu)).bind fun dj =>
  (zU dj.1).bind fun aw =>
  (y3 aw).bind fun bz =>
  (idx a8 eu).bind fun eb =>
  some (.next ((a8.set eu.toNat (bz, true)), w64 (eu + 1))))
 else (
  some (.done a8))
def XI (l_ : List (List Int)) : Option (List (List Int) × Int) :=
 (ur l_).bind fun r_ =>
 (zae (fun x y => vK x y) r_).bind fun sorted =>
 (ww sorted ()).bind fun ah =>
 (wj ah).bind fun am =>
 bif decide (((am.length : Nat) : Int) > 4096) then (
  some (([] : List (List Int)), 3))
 else (
  (jn am).bind fun au =>
  bif decide (au > 65536) then (
   some (([] : List (List Int)), 3))
  else (
   (loop (fun s => Zd am s.1 s.2) ((am.map fun q => (q, false)), 0)).bind fun t2 =>
   Ze t2))
def Ub (l_ : List (List Int)) (inputs : Int) : Option (List (List Int) × Int) :=
 (jo l_ inputs).bind fun r_ =>
 bif r_ != 0 then (
  some (([] : List (List Int)), r_))
 else (
  (XI l_).bind fun ah =>
  some (ah.1, ah.2))
def qu (m_ : z6) (aj : List (List Int)) : Option (List (List Int) × Int) :=
 bif decide (((aj.length : Nat) : Int) > 4096) then (
  some (([] : List (List Int)), 3))
 else (
  (Ub aj m_.Inputs).bind fun am =>
  some (am.1, am.2))
def vU (ee : Int) (bk : List (Int × Bool)) (bu : List ((xF Int) × Bool)) (bf : List (z8 × Bool)) (br : List (List Int)) : Option (LR ((List (Int × Bool)) × (List ((xF Int) × Bool)) × (List (z8 × Bool)) × List (List Int) × Int) (List (List Int))) :=
 some (.next (bk, bu, bf, br, w64 (ee + 1)))
def qt (m_ : z6) (au : List za) (al : List (Int × Bool)) (ap : List ((xF Int) × Bool)) (aq : List (z8 × Bool)) (a8 : List (List Int)) (ee : Int) : Option (LR ((List (Int × Bool)) × (List ((xF Int) × Bool)) × (List (z8 × Bool)) × List (List Int) × Int) (List (List Int))) :=
 bif decide (ee < ((au.length : Nat) : Int)) then (
  (idx au ee).bind fun ca =>
  (W2 ca.has_ (zh.mk al ap aq)).bind fun aw =>
  bif !aw then (
   (xH m_ ca.word_ (zh.mk al ap aq)).bind fun bz =>
   (zU ca.word_).bind fun bp =>
   (y3 bp).bind fun dx =>
   gd (a8.length + ([dx] : List (List Int)).length ≤ 4294967296) <|
   vU ee bz.states_ bz.edges_ bz.pairs_ (a8 ++ ([dx] : List (List Int))))
  else (
   vU ee al ap aq a8))
 else (
  some (.done a8))
def qw (m_ : z6) (goal : Int) (ah : zh) (out : List (List Int)) : Option (List (List Int) × Int) :=
 (v7 m_ goal).bind fun au =>
 (loop (fun s => qt m_ au s.1 s.2.1 s.2.2.1 s.2.2.2.1 s.2.2.2.2) (ah.states_, ah.edges_, ah.pairs_, out, 0)).bind fun t3 =>
 qu m_ t3
def qr (l_ : List (List Int)) (cu : List (List Int)) (gt : Int) : Option (LR (List (List Int) × Int) (List (List Int))) :=
 bif decide (gt < ((l_.length : Nat) : Int)) then (
  (idx l_ gt).bind fun ax =>
  (zU ax).bind fun dr =>
  (y3 dr).bind fun cn =>
  gd (cu.length + ([cn] : List (List Int)).length ≤ 4294967296) <|
  some (.next ((cu ++ ([cn] : List (List Int))), w64 (gt + 1))))
 else (
  some (.done cu))
def kp (m_ : z6) (l_ : List (List Int)) (goal : Int) : Option (List (List Int) × Int) :=
 (xW m_ l_).bind fun r_ =>
 bif r_ != 0 then (
  some (([] : List (List Int)), r_))
 else (
  bif decide (goal < 0) then (
   some (([] : List (List Int)), 1))
  else (
   bif decide (goal ≥ 3) then (
    some (([] : List (List Int)), 1))
   else (
    (yD m_ l_).bind fun ah =>
    gd ((0 : Int) ≤ ((l_.length : Nat) : Int) ∧ (((l_.length : Nat) : Int) : Int) ≤ 4294967296) <|
    (loop (fun s => qr l_ s.1 s.2) (([] : List (List Int)), 0)).bind fun t5 =>
    qw m_ goal ah t5)))
def ud (i_ : Int) : Option (List UInt8) :=
 bif decide (i_ < 10) then (
  gd ((0 : Int) ≤ i_ ∧ (i_ : Int) ≤ w64 (i_ + 1) ∧ (w64 (i_ + 1) : Int) ≤ ((([48, 49, 50, 51, 52, 53, 54, 55, 56, 57, 97, 98, 99, 100, 101, 102, 103, 104, 105, 106, 107, 108, 109, 110, 111, 112, 113, 114, 115, 116, 117, 118, 119, 120, 121, 122] : List UInt8).length : Nat) : Int)) <|
  some ((([48, 49, 50, 51, 52, 53, 54, 55, 56, 57, 97, 98, 99, 100, 101, 102, 103, 104, 105, 106, 107, 108, 109, 110, 111, 112, 113, 114, 115, 116, 117, 118, 119, 120, 121, 122] : List UInt8).take (w64 (i_ + 1)).toNat).drop i_.toNat))
 else (
  gd ((0 : Int) ≤ w64 (i_ * 2) ∧ (w64 (i_ * 2) : Int) ≤ w64 ((w64 (i_ * 2)) + 2) ∧ (w64 ((w64 (i_ * 2)) + 2) : Int) ≤ ((([48, 48, 48, 49, 48, 50, 48, 51, 48, 52, 48, 53, 48, 54, 48, 55, 48, 56, 48, 57, 49, 48, 49, 49, 49, 50, 49, 51, 49, 52, 49, 53, 49, 54, 49, 55, 49, 56, 49, 57, 50, 48, 50, 49, 50, 50, 50, 51, 50, 52, 50, 53, 50, 54, 50, 55, 50, 56, 50, 57, 51, 48, 51, 49, 51, 50, 51, 51, 51, 52, 51, 53, 51, 54, 51, 55, 51, 56, 51, 57, 52, 48, 52, 49, 52, 50, 52, 51, 52, 52, 52, 53, 52, 54, 52, 55, 52, 56, 52, 57, 53, 48, 53, 49, 53, 50, 53, 51, 53, 52, 53, 53, 53, 54, 53, 55, 53, 56, 53, 57, 54, 48, 54, 49, 54, 50, 54, 51, 54, 52, 54, 53, 54, 54, 54, 55, 54, 56, 54, 57, 55, 48, 55, 49, 55, 50, 55, 51, 55, 52, 55, 53, 55, 54, 55, 55, 55, 56, 55, 57, 56, 48, 56, 49, 56, 50, 56, 51, 56, 52, 56, 53, 56, 54, 56, 55, 56, 56, 56, 57, 57, 48, 57, 49, 57, 50, 57, 51, 57, 52, 57, 53, 57, 54, 57, 55, 57, 56, 57, 57] : List UInt8).length : Nat) : Int)) <|
  some ((([48, 48, 48, 49, 48, 50, 48, 51, 48, 52, 48, 53, 48, 54, 48, 55, 48, 56, 48, 57, 49, 48, 49, 49, 49, 50, 49, 51, 49, 52, 49, 53, 49, 54, 49, 55, 49, 56, 49, 57, 50, 48, 50, 49, 50, 50, 50, 51, 50, 52, 50, 53, 50, 54, 50, 55, 50, 56, 50, 57, 51, 48, 51, 49, 51, 50, 51, 51, 51, 52, 51, 53, 51, 54, 51, 55, 51, 56, 51, 57, 52, 48, 52, 49, 52, 50, 52, 51, 52, 52, 52, 53, 52, 54, 52, 55, 52, 56, 52, 57, 53, 48, 53, 49, 53, 50, 53, 51, 53, 52, 53, 53, 53, 54, 53, 55, 53, 56, 53, 57, 54, 48, 54, 49, 54, 50, 54, 51, 54, 52, 54, 53, 54, 54, 54, 55, 54, 56, 54, 57, 55, 48, 55, 49, 55, 50, 55, 51, 55, 52, 55, 53, 55, 54, 55, 55, 55, 56, 55, 57, 56, 48, 56, 49, 56, 50, 56, 51, 56, 52, 56, 53, 56, 54, 56, 55, 56, 56, 56, 57, 57, 48, 57, 49, 57, 50, 57, 51, 57, 52, 57, 53, 57, 54, 57, 55, 57, 56, 57, 57] : List UInt8).take (w64 ((w64 (i_ * 2)) + 2)).toNat).drop (w64 (i_ * 2)).toNat))
def yW (u_ : Int) : Option (List UInt8) :=
 none
def yX (i_ : Int) : Option (List UInt8) :=
 bif decide (i_ < 0) then (
  yW (IntKind.u64.wrap (0 - (IntKind.u64.wrap (i_)))))
 else (
  yW (IntKind.u64.wrap (i_)))
def wI (i_ : Int) (base : Int) : Option (List UInt8) :=
 bif base == 10 then (
  bif decide (0 ≤ i_) then (
   bif decide (i_ < 100) then (
    (ud i_).bind fun r_ =>
    some r_)
   else (
    yX i_))
  else (
   yX i_))
 else (
  none)
def uw (i_ : Int) : Option (List UInt8) :=
 (wI i_ 10).bind fun r_ =>
 some r_
def vI (i_ : Int) : Option (List UInt8) :=
 (uw i_).bind fun r_ =>
 some r_
def jC (s_ : List UInt8) : Option (List UInt8) :=
 some s_
def Yb (c_ : ye) : Option (List UInt8) :=
 (vI c_.States.e0).bind fun r_ =>
 gd (([115, 116, 97, 116, 101, 115, 32] : List UInt8).length + r_.length ≤ 4611686018427387904) <|
 gd ((([115, 116, 97, 116, 101, 115, 32] : List UInt8) ++ r_).length + ([47] : List UInt8).length ≤ 4611686018427387904) <|
 (vI c_.States.e1).bind fun ah =>
 gd (((([115, 116, 97, 116, 101, 115, 32] : List UInt8) ++ r_) ++ ([47] : List UInt8)).length + ah.length ≤ 4611686018427387904) <|
 gd (([] : List UInt8).length + (((([115, 116, 97, 116, 101, 115, 32] : List UInt8) ++ r_) ++ ([47] : List UInt8)) ++ ah).length ≤ 4611686018427387904) <|
 (vI c_.Edges.e0).bind fun am =>
 gd (([44, 32, 101, 100, 103, 101, 115, 32] : List UInt8).length + am.length ≤ 4611686018427387904) <|
 gd ((([44, 32, 101, 100, 103, 101, 115, 32] : List UInt8) ++ am).length + ([47] : List UInt8).length ≤ 4611686018427387904) <|
 (vI c_.Edges.e1).bind fun au =>
 gd (((([44, 32, 101, 100, 103, 101, 115, 32] : List UInt8) ++ am) ++ ([47] : List UInt8)).length + au.length ≤ 4611686018427387904) <|
 gd ((([] : List UInt8) ++ (((([115, 116, 97, 116, 101, 115, 32] : List UInt8) ++ r_) ++ ([47] : List UInt8)) ++ ah)).length + (((([44, 32, 101, 100, 103, 101, 115, 32] : List UInt8) ++ am) ++ ([47] : List UInt8)) ++ au).length ≤ 4611686018427387904) <|
 (vI c_.Pairs.e0).bind fun aw =>
 gd (([44, 32, 112, 97, 105, 114, 115, 32] : List UInt8).length + aw.length ≤ 4611686018427387904) <|
 gd ((([44, 32, 112, 97, 105, 114, 115, 32] : List UInt8) ++ aw).length + ([47] : List UInt8).length ≤ 4611686018427387904) <|
 (vI c_.Pairs.e1).bind fun bz =>
 gd (((([44, 32, 112, 97, 105, 114, 115, 32] : List UInt8) ++ aw) ++ ([47] : List UInt8)).length + bz.length ≤ 4611686018427387904) <|
 gd (((([] : List UInt8) ++ (((([115, 116, 97, 116, 101, 115, 32] : List UInt8) ++ r_) ++ ([47] : List UInt8)) ++ ah)) ++ (((([44, 32, 101, 100, 103, 101, 115, 32] : List UInt8) ++ am) ++ ([47] : List UInt8)) ++ au)).length + (((([44, 32, 112, 97, 105, 114, 115, 32] : List UInt8) ++ aw) ++ ([47] : List UInt8)) ++ bz).length ≤ 4611686018427387904) <|
 jC (((([] : List UInt8) ++ (((([115, 116, 97, 116, 101, 115, 32] : List UInt8) ++ r_) ++ ([47] : List UInt8)) ++ ah)) ++ (((([44, 32, 101, 100, 103, 101, 115, 32] : List UInt8) ++ am) ++ ([47] : List UInt8)) ++ au)) ++ (((([44, 32, 112, 97, 105, 114, 115, 32] : List UInt8) ++ aw) ++ ([47] : List UInt8)) ++ bz))
def X1 : Option Bool :=
 (W0).bind fun r_ =>
 (ZZ r_ []).bind fun ah =>
 (ZZ r_ ([[1], [0, 0, 1]])).bind fun am =>
 (ZD r_ ([[1], [0, 0, 1]])).bind fun au =>
 (kp r_ [] 1).bind fun aw =>
 (wT r_ ([[0], [1], [0, 0], [0, 1, 1]]) 1).bind fun bz =>
 bif ah.2 == 0 then (
  bif am.2 == 0 then (
   bif au.2 == 0 then (
    bif aw.2 == 0 then (
     bif bz.2 == 0 then (
      bif (ah.1.States.e0 == 1) && ((ah.1.States.e1 == 2) && ((ah.1.Edges.e0 == 0) && ((ah.1.Edges.e1 == 4) && ((ah.1.Pairs.e0 == 0) && ((ah.1.Pairs.e1 == 8) && true))))) then (
       (Yb ah.1).bind fun bp =>
       bif bp == ([115, 116, 97, 116, 101, 115, 32, 49, 47, 50, 44, 32, 101, 100, 103, 101, 115, 32, 48, 47, 52, 44, 32, 112, 97, 105, 114, 115, 32, 48, 47, 56] : List UInt8) then (
        bif (am.1.States.e0 == 2) && ((am.1.States.e1 == 2) && ((am.1.Edges.e0 == 3) && ((am.1.Edges.e1 == 4) && ((am.1.Pairs.e0 == 2) && ((am.1.Pairs.e1 == 8) && true))))) then (
         bif ((au.1.length : Nat) : Int) == 1 then (
          (idx au.1 0).bind fun u_ =>
          bif (u_.e0 == 1) && ((u_.e1 == 1) && true) then (
           (jw aw.1 ([[0], [1], [0, 0], [0, 1]])).bind fun dx =>
           bif dx then (
            (jw bz.1 ([[1], [0, 0], [0, 1, 1]])).bind fun dr =>
            some dr)
           else (
            some false))
          else (
           some false))
         else (
          some false))
        else (
         some false))
       else (
        some false))
      else (
       some false))
     else (
      some false))
    else (
     some false))
   else (
    some false))
  else (
   some false))
 else (
  some false)
def v6 (x_ : wG) (goal : Int) : Option Bool :=
 (Yt (wG.mk x_.M x_.L)).bind fun r_ =>
 gd ((0 : Int) ≤ 0 ∧ (0 : Int) ≤ (mn ((r_.2.length : Nat) : Int) 8) ∧ ((mn ((r_.2.length : Nat) : Int) 8) : Int) ≤ ((r_.2.length : Nat) : Int)) <|
 gd ((3 : Int) ≠ 0) <|
 (wT r_.1 ((r_.2.drop 0).take ((mn ((r_.2.length : Nat) : Int) 8).toNat - 0)) (Int.tmod (w64 (goal)) 3)).bind fun ah =>
 bif ah.2 == 0 then (
  (jR r_.1 ((r_.2.drop 0).take ((mn ((r_.2.length : Nat) : Int) 8).toNat - 0)) (Int.tmod (w64 (goal)) 3)).bind fun am =>
  (jw ah.1 am).bind fun au =>
  bif au then (
   bif ((ah.1.length : Nat) : Int) == ((ah.1.length : Nat) : Int) then (
    (wW r_.1 ah.1 (Int.tmod (w64 (goal)) 3)).bind fun aw =>
    (wW r_.1 ((r_.2.drop 0).take ((mn ((r_.2.length : Nat) : Int) 8).toNat - 0)) (Int.tmod (w64 (goal)) 3)).bind fun bz =>
    bif ((aw.length : Nat) : Int) == ((bz.length : Nat) : Int) then (
     (X1).bind fun bp =>
     some bp)
    else (
     some false))
   else (
    some false))
  else (
   some false))
 else (
  some false)
abbrev F0_ := Vx (eI .i64)
abbrev F1_ := eSl 1 false (eI .u8)
abbrev F2_ := eSl 1 true (eI .i64)
abbrev F3_ := eSl 1 true (eI .u64)
abbrev F4_ := eOs 1 true (eI .i64)
abbrev F5_ := eSl 1 false (eI .u16)
abbrev F6_ := eOs 1 false (eI .i64)
abbrev F7_ := eSl 1 false (eI .i64)
abbrev F8_ := eSl 1 false (eI .u64)
abbrev F9_ := wO (eI .i64) (eI .i64)
abbrev z32 := eSl 1 true F2_
abbrev zbr := eSl 1 true F7_
abbrev z6F := eOs 1 false F7_
abbrev qA := eSl 1 false F7_
abbrev ziC := eSl 1 false F8_
abbrev uO := vJ (eI .i64) (eI .i64) (eI .i64)
abbrev zhJ := eSl 2 true F9_
abbrev uf := eSl 2 false F9_
abbrev z17 := eOs 2 false F9_
abbrev qI := ZA (eI .i64) (eI .i64) (eI .i64)
abbrev zH := zZ (eI .i64) (eI .i64) (eI .i64)
abbrev ziB := eSl 1 true zhJ
abbrev ziA := eSl 1 false uf
abbrev Kz := uX (eI .u8) (eI .u8) (eI .u8) eB F5_
abbrev zeS := xo F0_ F0_ F0_
abbrev z9o := x5 ziC F8_
abbrev zeE := eSp z9o
abbrev zbC := vS (eI .i64) (eI .i64) ziB
abbrev yj := vS (eI .i64) (eI .i64) ziA
abbrev z8B := eSp yj
def rpN {α : Type _} (n : Nat) (a : α) (l : List α) : List α := Nat.rec l (fun _ r => a :: r) n
abbrev aLn (n : Nat) : H := .a (.atom (.int .i64 ((n : Nat) : Int)))
end Go.Own

namespace Go.Proofs
open Go.Shelf
def Tryz.so66_ren : Go.Shelf.Ren := ⟨fun | 6 => 66 | 15 => 80 | 14 => 79 | 28 => 99 | 29 => 100 | 20 => 91 | 21 => 92 | 22 => 93 | 23 => 94 | 24 => 95 | 25 => 96 | 26 => 97 | 27 => 98 | 46 => 106 | 47 => 107 | 48 => 108 | 49 => 109 | 50 => 110 | 57 => 113 | n => n, fun | 22 => 31 | 24 => 51 | 25 => 85 | 3 => 3 | 39 => 144 | 0 => 0 | 53 => 165 | 55 => 117 | 4 => 4 | 46 => 158 | 45 => 157 | 50 => 162 | 5 => 5 | 9 => 9 | 66 => 169 | 70 => 173 | 76 => 175 | 77 => 176 | n => n, fun | n => n⟩
theorem Tryz.so66 : Go.Proofs.SlLaysF0.n6 Tryz.prog Tryz.so66_ren := {
 mixed := by kernel_rfl
 f6 := ⟨Tryz.f66.name, by decide, Tryz.func66.trans (congrArg some (by kernel_rfl))⟩
 f14 := ⟨Tryz.f79.name, by decide, Tryz.func79.trans (congrArg some (by kernel_rfl))⟩
 f15 := Tryz.func80.trans (congrArg some (by kernel_rfl))
 f20 := ⟨Tryz.f91.name, by decide, Tryz.func91.trans (congrArg some (by kernel_rfl))⟩
 f21 := ⟨Tryz.f92.name, by decide, Tryz.func92.trans (congrArg some (by kernel_rfl))⟩
 f22 := ⟨Tryz.f93.name, by decide, Tryz.func93.trans (congrArg some (by kernel_rfl))⟩
 f23 := ⟨Tryz.f94.name, by decide, Tryz.func94.trans (congrArg some (by kernel_rfl))⟩
 f24 := ⟨Tryz.f95.name, by decide, Tryz.func95.trans (congrArg some (by kernel_rfl))⟩
 f25 := ⟨Tryz.f96.name, by decide, Tryz.func96.trans (congrArg some (by kernel_rfl))⟩
 f26 := ⟨Tryz.f97.name, by decide, Tryz.func97.trans (congrArg some (by kernel_rfl))⟩
 f27 := ⟨Tryz.f98.name, by decide, Tryz.func98.trans (congrArg some (by kernel_rfl))⟩
 f28 := Tryz.func99.trans (congrArg some (by kernel_rfl))
 f29 := Tryz.func100.trans (congrArg some (by kernel_rfl))
 f46 := ⟨Tryz.f106.name, by decide, Tryz.func106.trans (congrArg some (by kernel_rfl))⟩
 f47 := Tryz.func107.trans (congrArg some (by kernel_rfl))
 f48 := Tryz.func108.trans (congrArg some (by kernel_rfl))
 f49 := ⟨Tryz.f109.name, by decide, Tryz.func109.trans (congrArg some (by kernel_rfl))⟩
 f50 := ⟨Tryz.f110.name, by decide, Tryz.func110.trans (congrArg some (by kernel_rfl))⟩
 f57 := ⟨Tryz.f113.name, by decide, Tryz.func113.trans (congrArg some (by kernel_rfl))⟩
 t0 := Tryz.underlying0
 a0 := Tryz.isAgg0
 z0 := Tryz.sizeOf0
 v0 := Tryz.zeroValue0
 t3 := Tryz.underlying3
 a3 := Tryz.isAgg3
 z3 := Tryz.sizeOf3
 v3 := Tryz.zeroValue3
 t4 := Tryz.underlying4
 a4 := Tryz.isAgg4
 z4 := Tryz.sizeOf4
 v4 := Tryz.zeroValue4
 t5 := Tryz.underlying5
 a5 := Tryz.isAgg5
 z5 := Tryz.sizeOf5
 v5 := Tryz.zeroValue5
 t9 := Tryz.underlying9
 a9 := Tryz.isAgg9
 z9 := Tryz.sizeOf9
 v9 := Tryz.zeroValue9
 t22 := Tryz.underlying31
 a22 := Tryz.isAgg31
 z22 := Tryz.sizeOf31
 v22 := Tryz.zeroValue31
 t25 := Tryz.underlying85
 a25 := Tryz.isAgg85
 z25 := Tryz.sizeOf85
 v25 := Tryz.zeroValue85
 t39 := Tryz.underlying144
 a39 := Tryz.isAgg144
 z39 := Tryz.sizeOf144
 v39 := Tryz.zeroValue144
 t45 := Tryz.underlying157
 a45 := Tryz.isAgg157
 z45 := Tryz.sizeOf157
 v45 := Tryz.zeroValue157
 t46 := Tryz.underlying158
 a46 := Tryz.isAgg158
 z46 := Tryz.sizeOf158
 v46 := Tryz.zeroValue158
 t50 := Tryz.underlying162
 a50 := Tryz.isAgg162
 z50 := Tryz.sizeOf162
 v50 := Tryz.zeroValue162
 t53 := Tryz.underlying165
 a53 := Tryz.isAgg165
 z53 := Tryz.sizeOf165
 v53 := Tryz.zeroValue165
 t55 := Tryz.underlying117
 a55 := Tryz.isAgg117
 z55 := Tryz.sizeOf117
 v55 := Tryz.zeroValue117
 t66 := Tryz.underlying169
 a66 := Tryz.isAgg169
 z66 := Tryz.sizeOf169
 v66 := Tryz.zeroValue169
 t70 := Tryz.underlying173
 a70 := Tryz.isAgg173
 z70 := Tryz.sizeOf173
 v70 := Tryz.zeroValue173
 t76 := Tryz.underlying175
 a76 := Tryz.isAgg175
 z76 := Tryz.sizeOf175
 v76 := Tryz.zeroValue175
 t77 := Tryz.underlying176
 a77 := Tryz.isAgg176
 z77 := Tryz.sizeOf176
 v77 := Tryz.zeroValue176 }
end Go.Proofs
