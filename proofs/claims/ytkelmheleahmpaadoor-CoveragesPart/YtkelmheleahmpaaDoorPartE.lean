/- -/
import Derived.Test.YtkelmheleahmpaaDoorPartB
import Derived.Test.YtkelmheleahmpaaDoorProg
import Derived.Test.YtkelmheleahmpaaDoorPartD
import Derived.Test.YtkelmheleahmpaaDoorPartC
import Derived.Shelf.SlSortCmp.NoneTotal
import Derived.Ground.SlsfProg
set_option linter.unusedVariables false
set_option linter.unusedSimpArgs false
namespace Go.Ex
open Go.Proofs
theorem q3 : EqP Tryd.prog 3 [.int .i64 0] false 1 := z73 (k := .int .i64) Tryd.underlying3 ⟨_, (by kernel_rfl : Tryd.prog.info? 3 = some Tryd.t3), rfl⟩ rfl
theorem q34 : EqP Tryd.prog 34 (z4a 2 [.int .i64 0]) true 2 := QF Tryd.underlying34 q3 ⟨_, (by kernel_rfl : Tryd.prog.info? 34 = some Tryd.t34), rfl⟩
def i34 : EI := ⟨.array 2 3, 2, 16, some [.int .i64 0, .int .i64 0], true⟩
theorem z85 : z5J Tryd.prog 34 i34 := ⟨⟨Tryd.t34, by kernel_rfl, rfl, rfl, fun z h => by cases h; exact ⟨_, rfl, rfl, Xu rfl, rfl, ⟨_, rfl⟩⟩⟩, Tryd.underlying34, fun _ => kL q34 rfl rfl (Nat.le_of_ble_eq_true (by kernel_rfl)) (by decide)⟩
theorem q35 : EqP Tryd.prog 35 (Ze [([.int .i64 0, .int .i64 0], true), ([.int .i64 0, .int .i64 0], true), ([.int .i64 0, .int .i64 0], true)]) true 3 := uR Tryd.underlying35 (by kernel_rfl) ⟨_, (by kernel_rfl : Tryd.prog.info? 35 = some Tryd.t35), rfl⟩ (by decide) (zO.cons (by decide) rfl (q34.mono (by decide)) (zO.cons (by decide) rfl (q34.mono (by decide)) (zO.cons (by decide) rfl (q34.mono (by decide)) (zO.nil))))
def i35 : EI := ⟨.struct [(0, 34), (2, 34), (4, 34)], 6, 48, some [.int .i64 0, .int .i64 0, .int .i64 0, .int .i64 0, .int .i64 0, .int .i64 0], true⟩
theorem zg3 : z5J Tryd.prog 35 i35 := ⟨⟨Tryd.t35, by kernel_rfl, rfl, rfl, fun z h => by cases h; exact ⟨_, rfl, rfl, Xu rfl, rfl, ⟨_, rfl⟩⟩⟩, ⟨_, Tryd.underlying35, by kernel_rfl, by
  intro f hf
  simp only [List.mem_cons, List.not_mem_nil, or_false] at hf
  rcases hf with rfl | rfl | rfl
  ·exact ⟨Tryd.t34, by kernel_rfl⟩
  ·exact ⟨Tryd.t34, by kernel_rfl⟩
  ·exact ⟨Tryd.t34, by kernel_rfl⟩⟩, fun _ => kL q35 rfl rfl (Nat.le_of_ble_eq_true (by kernel_rfl)) (by decide)⟩
theorem q36 : EqP Tryd.prog 36 (Ze [([.int .i64 0, .int .i64 0], true), ([.int .i64 0, .int .i64 0], true), ([.int .i64 0, .int .i64 0], true)]) true 3 := uR Tryd.underlying36 (by kernel_rfl) ⟨_, (by kernel_rfl : Tryd.prog.info? 36 = some Tryd.t36), rfl⟩ (by decide) (zO.cons (by decide) rfl (q34.mono (by decide)) (zO.cons (by decide) rfl (q34.mono (by decide)) (zO.cons (by decide) rfl (q34.mono (by decide)) (zO.nil))))
def i36 : EI := ⟨.struct [(0, 34), (2, 34), (4, 34)], 6, 48, some [.int .i64 0, .int .i64 0, .int .i64 0, .int .i64 0, .int .i64 0, .int .i64 0], true⟩
theorem zbI : z5J Tryd.prog 36 i36 := ⟨⟨Tryd.t36, by kernel_rfl, rfl, rfl, fun z h => by cases h; exact ⟨_, rfl, rfl, Xu rfl, rfl, ⟨_, rfl⟩⟩⟩, ⟨_, Tryd.underlying36, by kernel_rfl, by
  intro f hf
  simp only [List.mem_cons, List.not_mem_nil, or_false] at hf
  rcases hf with rfl | rfl | rfl
  ·exact ⟨Tryd.t34, by kernel_rfl⟩
  ·exact ⟨Tryd.t34, by kernel_rfl⟩
  ·exact ⟨Tryd.t34, by kernel_rfl⟩⟩, fun _ => kL q36 rfl rfl (Nat.le_of_ble_eq_true (by kernel_rfl)) (by decide)⟩
def i64 : EI := ⟨.func, 1, 8, some [.nilFunc], false⟩
theorem q73 : EqP Tryd.prog 73 (z4a 3 [.int .i64 0, .int .i64 0]) true 3 := QF Tryd.underlying73 q34 ⟨_, (by kernel_rfl : Tryd.prog.info? 73 = some Tryd.t73), rfl⟩
def i73 : EI := ⟨.array 3 34, 6, 48, some [.int .i64 0, .int .i64 0, .int .i64 0, .int .i64 0, .int .i64 0, .int .i64 0], true⟩
theorem zbH : z5J Tryd.prog 73 i73 := ⟨⟨Tryd.t73, by kernel_rfl, rfl, rfl, fun z h => by cases h; exact ⟨_, rfl, rfl, Xu rfl, rfl, ⟨_, rfl⟩⟩⟩, Tryd.underlying73, fun _ => kL q73 rfl rfl (Nat.le_of_ble_eq_true (by kernel_rfl)) (by decide)⟩
theorem q80 : EqP Tryd.prog 80 (Ze [([.int .i64 0], false), ([.int .i64 0], false)]) true 2 := uR Tryd.underlying80 (by kernel_rfl) ⟨_, (by kernel_rfl : Tryd.prog.info? 80 = some Tryd.t80), rfl⟩ (by decide) (zO.cons (by decide) rfl (q3.mono (by decide)) (zO.cons (by decide) rfl (q3.mono (by decide)) (zO.nil)))
def i80 : EI := ⟨.struct [(0, 3), (1, 3)], 2, 16, some [.int .i64 0, .int .i64 0], true⟩
theorem zg2 : z5J Tryd.prog 80 i80 := ⟨⟨Tryd.t80, by kernel_rfl, rfl, rfl, fun z h => by cases h; exact ⟨_, rfl, rfl, Xu rfl, rfl, ⟨_, rfl⟩⟩⟩, ⟨_, Tryd.underlying80, by kernel_rfl, by
  intro f hf
  simp only [List.mem_cons, List.not_mem_nil, or_false] at hf
  rcases hf with rfl | rfl
  ·exact ⟨Tryd.t3, by kernel_rfl⟩
  ·exact ⟨Tryd.t3, by kernel_rfl⟩⟩, fun _ => kL q80 rfl rfl (Nat.le_of_ble_eq_true (by kernel_rfl)) (by decide)⟩
theorem q81 : EqP Tryd.prog 81 (Ze [([.int .i64 0], false), ([.int .i64 0], false)]) true 2 := uR Tryd.underlying81 (by kernel_rfl) ⟨_, (by kernel_rfl : Tryd.prog.info? 81 = some Tryd.t81), rfl⟩ (by decide) (zO.cons (by decide) rfl (q3.mono (by decide)) (zO.cons (by decide) rfl (q3.mono (by decide)) (zO.nil)))
def i81 : EI := ⟨.struct [(0, 3), (1, 3)], 2, 16, some [.int .i64 0, .int .i64 0], true⟩
theorem zbG : z5J Tryd.prog 81 i81 := ⟨⟨Tryd.t81, by kernel_rfl, rfl, rfl, fun z h => by cases h; exact ⟨_, rfl, rfl, Xu rfl, rfl, ⟨_, rfl⟩⟩⟩, ⟨_, Tryd.underlying81, by kernel_rfl, by
  intro f hf
  simp only [List.mem_cons, List.not_mem_nil, or_false] at hf
  rcases hf with rfl | rfl
  ·exact ⟨Tryd.t3, by kernel_rfl⟩
  ·exact ⟨Tryd.t3, by kernel_rfl⟩⟩, fun _ => kL q81 rfl rfl (Nat.le_of_ble_eq_true (by kernel_rfl)) (by decide)⟩
theorem q83 : EqP Tryd.prog 83 (Ze [([.int .i64 0], false), ([.int .i64 0], false), ([.int .i64 0], false)]) true 2 := uR Tryd.underlying83 (by kernel_rfl) ⟨_, (by kernel_rfl : Tryd.prog.info? 83 = some Tryd.t83), rfl⟩ (by decide) (zO.cons (by decide) rfl (q3.mono (by decide)) (zO.cons (by decide) rfl (q3.mono (by decide)) (zO.cons (by decide) rfl (q3.mono (by decide)) (zO.nil))))
def i83 : EI := ⟨.struct [(0, 3), (1, 3), (2, 3)], 3, 24, some [.int .i64 0, .int .i64 0, .int .i64 0], true⟩
theorem zg1 : z5J Tryd.prog 83 i83 := ⟨⟨Tryd.t83, by kernel_rfl, rfl, rfl, fun z h => by cases h; exact ⟨_, rfl, rfl, Xu rfl, rfl, ⟨_, rfl⟩⟩⟩, ⟨_, Tryd.underlying83, by kernel_rfl, by
  intro f hf
  simp only [List.mem_cons, List.not_mem_nil, or_false] at hf
  rcases hf with rfl | rfl | rfl
  ·exact ⟨Tryd.t3, by kernel_rfl⟩
  ·exact ⟨Tryd.t3, by kernel_rfl⟩
  ·exact ⟨Tryd.t3, by kernel_rfl⟩⟩, fun _ => kL q83 rfl rfl (Nat.le_of_ble_eq_true (by kernel_rfl)) (by decide)⟩
theorem q84 : EqP Tryd.prog 84 (Ze [([.int .i64 0], false), ([.int .i64 0], false), ([.int .i64 0], false)]) true 2 := uR Tryd.underlying84 (by kernel_rfl) ⟨_, (by kernel_rfl : Tryd.prog.info? 84 = some Tryd.t84), rfl⟩ (by decide) (zO.cons (by decide) rfl (q3.mono (by decide)) (zO.cons (by decide) rfl (q3.mono (by decide)) (zO.cons (by decide) rfl (q3.mono (by decide)) (zO.nil))))
def i84 : EI := ⟨.struct [(0, 3), (1, 3), (2, 3)], 3, 24, some [.int .i64 0, .int .i64 0, .int .i64 0], true⟩
theorem z84 : z5J Tryd.prog 84 i84 := ⟨⟨Tryd.t84, by kernel_rfl, rfl, rfl, fun z h => by cases h; exact ⟨_, rfl, rfl, Xu rfl, rfl, ⟨_, rfl⟩⟩⟩, ⟨_, Tryd.underlying84, by kernel_rfl, by
  intro f hf
  simp only [List.mem_cons, List.not_mem_nil, or_false] at hf
  rcases hf with rfl | rfl | rfl
  ·exact ⟨Tryd.t3, by kernel_rfl⟩
  ·exact ⟨Tryd.t3, by kernel_rfl⟩
  ·exact ⟨Tryd.t3, by kernel_rfl⟩⟩, fun _ => kL q84 rfl rfl (Nat.le_of_ble_eq_true (by kernel_rfl)) (by decide)⟩
theorem zgO : EqP Tryd.prog 107 (z4a 3 [.int .i64 0]) true 2 := QF Tryd.underlying107 q3 ⟨_, (by kernel_rfl : Tryd.prog.info? 107 = some Tryd.t107), rfl⟩
def zgU : EI := ⟨.array 3 3, 3, 24, some [.int .i64 0, .int .i64 0, .int .i64 0], true⟩
theorem z9M : z5J Tryd.prog 107 zgU := ⟨⟨Tryd.t107, by kernel_rfl, rfl, rfl, fun z h => by cases h; exact ⟨_, rfl, rfl, Xu rfl, rfl, ⟨_, rfl⟩⟩⟩, Tryd.underlying107, fun _ => kL zgO rfl rfl (Nat.le_of_ble_eq_true (by kernel_rfl)) (by decide)⟩
theorem zgN : EqP Tryd.prog 134 (Ze [([.int .i64 0], false), ([.int .i64 0], false), ([.int .i64 0], false)]) true 2 := uR Tryd.underlying134 (by kernel_rfl) ⟨_, (by kernel_rfl : Tryd.prog.info? 134 = some Tryd.t134), rfl⟩ (by decide) (zO.cons (by decide) rfl (q3.mono (by decide)) (zO.cons (by decide) rfl (q3.mono (by decide)) (zO.cons (by decide) rfl (q3.mono (by decide)) (zO.nil))))
def zgT : EI := ⟨.struct [(0, 3), (1, 3), (2, 3)], 3, 24, some [.int .i64 0, .int .i64 0, .int .i64 0], true⟩
theorem ze8 : z5J Tryd.prog 134 zgT := ⟨⟨Tryd.t134, by kernel_rfl, rfl, rfl, fun z h => by cases h; exact ⟨_, rfl, rfl, Xu rfl, rfl, ⟨_, rfl⟩⟩⟩, ⟨_, Tryd.underlying134, by kernel_rfl, by
  intro f hf
  simp only [List.mem_cons, List.not_mem_nil, or_false] at hf
  rcases hf with rfl | rfl | rfl
  ·exact ⟨Tryd.t3, by kernel_rfl⟩
  ·exact ⟨Tryd.t3, by kernel_rfl⟩
  ·exact ⟨Tryd.t3, by kernel_rfl⟩⟩, fun _ => kL zgN rfl rfl (Nat.le_of_ble_eq_true (by kernel_rfl)) (by decide)⟩
theorem zgM : EqP Tryd.prog 135 (Ze [([.int .i64 0], false), ([.int .i64 0], false), ([.int .i64 0], false)]) true 2 := uR Tryd.underlying135 (by kernel_rfl) ⟨_, (by kernel_rfl : Tryd.prog.info? 135 = some Tryd.t135), rfl⟩ (by decide) (zO.cons (by decide) rfl (q3.mono (by decide)) (zO.cons (by decide) rfl (q3.mono (by decide)) (zO.cons (by decide) rfl (q3.mono (by decide)) (zO.nil))))
def zgS : EI := ⟨.struct [(0, 3), (1, 3), (2, 3)], 3, 24, some [.int .i64 0, .int .i64 0, .int .i64 0], true⟩
theorem z9L : z5J Tryd.prog 135 zgS := ⟨⟨Tryd.t135, by kernel_rfl, rfl, rfl, fun z h => by cases h; exact ⟨_, rfl, rfl, Xu rfl, rfl, ⟨_, rfl⟩⟩⟩, ⟨_, Tryd.underlying135, by kernel_rfl, by
  intro f hf
  simp only [List.mem_cons, List.not_mem_nil, or_false] at hf
  rcases hf with rfl | rfl | rfl
  ·exact ⟨Tryd.t3, by kernel_rfl⟩
  ·exact ⟨Tryd.t3, by kernel_rfl⟩
  ·exact ⟨Tryd.t3, by kernel_rfl⟩⟩, fun _ => kL zgM rfl rfl (Nat.le_of_ble_eq_true (by kernel_rfl)) (by decide)⟩
end Go.Ex

namespace Go.Own
open Go.Proofs
def ze7 : Value → Bool
 | .int _ _ => true
 | _ => false
theorem z0W : ∀ {z vs us : List Value} {r : Bool}, z.all ze7 = true → z.length = vs.length → yD vs us = some r → Go.Ex.KZ z vs = true ∧ Go.Ex.yD vs us = some r
 | [], [], us, r, _, _, h => by
  cases us with
  | nil => simp only [yD, Option.some.injEq] at h; subst h; exact ⟨rfl, rfl⟩
  | cons u us => simp [yD] at h
 | a :: z, v :: vs, us, r, hz, hl, h => by
  have q : ∃ k x u' k' y, v = .int k x ∧ us = .int k' y :: u' ∧ k = k' := by
   cases us with
   | nil => cases v <;> simp [yD] at h
   | cons u us =>
    cases v <;> cases u <;> simp [yD] at h
    exact ⟨_, _, _, _, _, rfl, rfl, h.1⟩
  obtain ⟨k, x, u', k', y, rfl, rfl, hk⟩ := q
  simp only [yD, hk, if_true, Option.map_eq_some_iff] at h
  obtain ⟨r', e1, rfl⟩ := h
  simp only [List.all_cons, Bool.and_eq_true] at hz
  obtain ⟨q1, q2⟩ := z0W hz.2 (by simpa using hl) e1
  refine ⟨?_, by simp [Go.Ex.yD, hk, q2]⟩
  cases a <;> first | (simp [ze7] at hz; done) | simpa [Go.Ex.KZ] using q1
 | [], _ :: _, _, _, _, hl, _ => by simp at hl
 | _ :: _, [], _, _, _, hl, _ => by simp at hl
variable {P : Program}
theorem Wf {t n : Nat} {i : Go.Ex.EI} (h : Go.Ex.z8g P t i) {z : List Value} (hz : i.zero = some z) (hi : z.all ze7 = true) (hs : i.size = n) (hn : z.length = n) : z8g P t n := {
 guard := h.guard
 run := fun vs us r w hv hu he => by
  obtain ⟨q1, q2⟩ := z0W hi (by rw [hn, hv]) he
  exact h.run vs us r w (by rw [hs]; exact hv) (by rw [hs]; exact hu) (by simpa only [Go.Ex.zec, hz] using q1) q2 }
variable {h : Array Obj}{S : zl}
theorem zj {v : Value} (hv : v.oneCell' = true) : zG S h (.atom v) [v] [] := by simp only [zG, Rep]; exact ⟨⟨trivial, hv⟩, trivial⟩
theorem xw (sz : Nat) : zG S h (.osl sz true []) [.slice none 0 0] [] := by
 simp only [zG]
 exact ⟨none, 0, rfl, (fun _ => rfl), Nat.le_refl _, Nat.zero_le _, by simp, .inl ⟨trivial, rfl, rfl, trivial⟩⟩
variable {a : A}
theorem z5c {c : List Value} (q : zG S h a c []) : ∀ n, zK S h (List.replicate n a) (List.replicate n c).flatten []
 | 0 => by simp [zK]
 | n + 1 => by
  rw [List.replicate_succ, List.replicate_succ, List.flatten_cons]
  simp only [zK]
  exact ⟨c, _, [], [], rfl, rfl, q, z5c q n⟩
theorem zgX {c c' : List Value} (q : zG S h a c []) (e : c' = c) : zG S h a c' [] := e ▸ q
variable {fs : List A}
theorem yX {cs : List Value} (q : zK S h fs cs []) : zG S h (.agg fs) cs [] := by simpa only [zG] using q
theorem yl : zK S h [] [] [] := by simp [zK]
theorem zm {c1 c2 : List Value} (q1 : zG S h a c1 []) (q2 : zK S h fs c2 []) : zK S h (a :: fs) (c1 ++ c2) [] := by simp only [zK]; exact ⟨c1, c2, [], [], rfl, rfl, q1, q2⟩
def ti1 : TI := ⟨.other, 1, 8, some (.atom .nilFunc), false⟩
theorem zay : qC Tryd.prog 1 ti1 := ⟨⟨Tryd.t1, by kernel_rfl, rfl, rfl, fun z h => by cases h; exact ⟨_, rfl, rfl, fun S h => zj rfl⟩⟩, ⟨_, Tryd.underlying1, rfl⟩, by intro h; cases h⟩
def ti2 : TI := ⟨.int .i64, 1, 8, some (.atom (.int .i64 0)), false⟩
theorem zax : qC Tryd.prog 2 ti2 := ⟨⟨Tryd.t2, by kernel_rfl, rfl, rfl, fun z h => by cases h; exact ⟨_, rfl, rfl, fun S h => zj rfl⟩⟩, Tryd.underlying2, by intro h; cases h⟩
def ti3 : TI := ⟨.int .i64, 1, 8, some (.atom (.int .i64 0)), false⟩
theorem zaw : qC Tryd.prog 3 ti3 := ⟨⟨Tryd.t3, by kernel_rfl, rfl, rfl, fun z h => by cases h; exact ⟨_, rfl, rfl, fun S h => zj rfl⟩⟩, Tryd.underlying3, by intro h; cases h⟩
def ti4 : TI := ⟨.bool, 1, 1, some (.atom (.bool false)), false⟩
theorem zav : qC Tryd.prog 4 ti4 := ⟨⟨Tryd.t4, by kernel_rfl, rfl, rfl, fun z h => by cases h; exact ⟨_, rfl, rfl, fun S h => zj rfl⟩⟩, Tryd.underlying4, by intro h; cases h⟩
def ti5 : TI := ⟨.int .u8, 1, 1, some (.atom (.int .u8 0)), false⟩
theorem zau : qC Tryd.prog 5 ti5 := ⟨⟨Tryd.t5, by kernel_rfl, rfl, rfl, fun z h => by cases h; exact ⟨_, rfl, rfl, fun S h => zj rfl⟩⟩, Tryd.underlying5, by intro h; cases h⟩
def ti9 : TI := ⟨.str, 1, 16, some (.atom (.string ⟨#[]⟩)), false⟩
theorem zat : qC Tryd.prog 9 ti9 := ⟨⟨Tryd.t9, by kernel_rfl, rfl, rfl, fun z h => by cases h; exact ⟨_, rfl, rfl, fun S h => zj rfl⟩⟩, Tryd.underlying9, by intro h; cases h⟩
def zfE : TI := ⟨.slice 104, 1, 24, some (.osl 1 true []), false⟩
theorem z8S : qC Tryd.prog 22 zfE := ⟨⟨Tryd.t22, by kernel_rfl, rfl, rfl, fun z h => by cases h; exact ⟨_, rfl, rfl, fun S h => xw _⟩⟩, Tryd.underlying22, by intro h; cases h⟩
def zfD : TI := ⟨.struct [(0, 1), (1, 1), (2, 1), (3, 1), (4, 1)], 5, 32, some (.agg [.atom (.int .u8 0), .atom (.int .u8 0), .atom (.int .u8 0), .atom (.bool false), .osl 1 true []]), false⟩
theorem z8R : qC Tryd.prog 24 zfD := ⟨⟨Tryd.t24, by kernel_rfl, rfl, rfl, fun z h => by cases h; exact ⟨_, rfl, rfl, fun S h => yX (zm (zj rfl) (zm (zj rfl) (zm (zj rfl) (zm (zj rfl) (zm (xw _) (yl))))))⟩⟩, ⟨_, Tryd.underlying24, by kernel_rfl, by
  intro f hf
  simp only [List.mem_cons, List.not_mem_nil, or_false] at hf
  rcases hf with rfl | rfl | rfl | rfl | rfl
  ·exact ⟨Tryd.t5, by kernel_rfl⟩
  ·exact ⟨Tryd.t5, by kernel_rfl⟩
  ·exact ⟨Tryd.t5, by kernel_rfl⟩
  ·exact ⟨Tryd.t4, by kernel_rfl⟩
  ·exact ⟨Tryd.t22, by kernel_rfl⟩⟩, by intro h; cases h⟩
def zfC : TI := ⟨.slice 65, 1, 24, some (.osl 1 true []), false⟩
theorem z8Q : qC Tryd.prog 25 zfC := ⟨⟨Tryd.t25, by kernel_rfl, rfl, rfl, fun z h => by cases h; exact ⟨_, rfl, rfl, fun S h => xw _⟩⟩, Tryd.underlying25, by intro h; cases h⟩
def zfB : TI := ⟨.struct [(0, 5), (5, 1)], 6, 56, some (.agg [.agg [.atom (.int .u8 0), .atom (.int .u8 0), .atom (.int .u8 0), .atom (.bool false), .osl 1 true []], .osl 1 true []]), false⟩
theorem z8P : qC Tryd.prog 27 zfB := ⟨⟨Tryd.t27, by kernel_rfl, rfl, rfl, fun z h => by cases h; exact ⟨_, rfl, rfl, fun S h => yX (zm (yX (zm (zj rfl) (zm (zj rfl) (zm (zj rfl) (zm (zj rfl) (zm (xw _) (yl))))))) (zm (xw _) (yl)))⟩⟩, ⟨_, Tryd.underlying27, by kernel_rfl, by
  intro f hf
  simp only [List.mem_cons, List.not_mem_nil, or_false] at hf
  rcases hf with rfl | rfl
  ·exact ⟨Tryd.t24, by kernel_rfl⟩
  ·exact ⟨Tryd.t25, by kernel_rfl⟩⟩, by intro h; cases h⟩
def zfA : TI := ⟨.slice 51, 1, 24, some (.osl 1 true []), false⟩
theorem z8O : qC Tryd.prog 28 zfA := ⟨⟨Tryd.t28, by kernel_rfl, rfl, rfl, fun z h => by cases h; exact ⟨_, rfl, rfl, fun S h => xw _⟩⟩, Tryd.underlying28, by intro h; cases h⟩
def zfz : TI := ⟨.struct [(0, 1), (1, 1), (2, 1)], 3, 40, some (.agg [.atom (.int .i64 0), .atom (.int .i64 0), .osl 1 true []]), false⟩
theorem z8N : qC Tryd.prog 30 zfz := ⟨⟨Tryd.t30, by kernel_rfl, rfl, rfl, fun z h => by cases h; exact ⟨_, rfl, rfl, fun S h => yX (zm (zj rfl) (zm (zj rfl) (zm (xw _) (yl))))⟩⟩, ⟨_, Tryd.underlying30, by kernel_rfl, by
  intro f hf
  simp only [List.mem_cons, List.not_mem_nil, or_false] at hf
  rcases hf with rfl | rfl | rfl
  ·exact ⟨Tryd.t3, by kernel_rfl⟩
  ·exact ⟨Tryd.t3, by kernel_rfl⟩
  ·exact ⟨Tryd.t28, by kernel_rfl⟩⟩, by intro h; cases h⟩
def zfy : TI := ⟨.slice 43, 1, 24, some (.osl 1 true []), false⟩
theorem z8M : qC Tryd.prog 31 zfy := ⟨⟨Tryd.t31, by kernel_rfl, rfl, rfl, fun z h => by cases h; exact ⟨_, rfl, rfl, fun S h => xw _⟩⟩, Tryd.underlying31, by intro h; cases h⟩
def zfx : TI := ⟨.array 2 3, 2, 16, some (.agg [.atom (.int .i64 0), .atom (.int .i64 0)]), true⟩
theorem z3I : qC Tryd.prog 34 zfx := ⟨⟨Tryd.t34, by kernel_rfl, rfl, rfl, fun z h => by cases h; exact ⟨_, rfl, rfl, fun S h => yX (zm (zj rfl) (zm (zj rfl) (yl)))⟩⟩, Tryd.underlying34, fun _ => Wf (Go.Ex.z85.eqn rfl) rfl rfl rfl rfl⟩
def zfw : TI := ⟨.struct [(0, 2), (2, 2), (4, 2)], 6, 48, some (.agg [.agg [.atom (.int .i64 0), .atom (.int .i64 0)], .agg [.atom (.int .i64 0), .atom (.int .i64 0)], .agg [.atom (.int .i64 0), .atom (.int .i64 0)]]), true⟩
theorem z8L : qC Tryd.prog 36 zfw := ⟨⟨Tryd.t36, by kernel_rfl, rfl, rfl, fun z h => by cases h; exact ⟨_, rfl, rfl, fun S h => yX (zm (yX (zm (zj rfl) (zm (zj rfl) (yl)))) (zm (yX (zm (zj rfl) (zm (zj rfl) (yl)))) (zm (yX (zm (zj rfl) (zm (zj rfl) (yl)))) (yl))))⟩⟩, ⟨_, Tryd.underlying36, by kernel_rfl, by
  intro f hf
  simp only [List.mem_cons, List.not_mem_nil, or_false] at hf
  rcases hf with rfl | rfl | rfl
  ·exact ⟨Tryd.t34, by kernel_rfl⟩
  ·exact ⟨Tryd.t34, by kernel_rfl⟩
  ·exact ⟨Tryd.t34, by kernel_rfl⟩⟩, fun _ => Wf (Go.Ex.zbI.eqn rfl) rfl rfl rfl rfl⟩
def zfv : TI := ⟨.int .i64, 1, 8, some (.atom (.int .i64 0)), false⟩
theorem z8K : qC Tryd.prog 37 zfv := ⟨⟨Tryd.t37, by kernel_rfl, rfl, rfl, fun z h => by cases h; exact ⟨_, rfl, rfl, fun S h => zj rfl⟩⟩, Tryd.underlying37, by intro h; cases h⟩
def zfu : TI := ⟨.slice 4, 1, 24, some (.osl 1 true []), false⟩
theorem z8J : qC Tryd.prog 40 zfu := ⟨⟨Tryd.t40, by kernel_rfl, rfl, rfl, fun z h => by cases h; exact ⟨_, rfl, rfl, fun S h => xw _⟩⟩, Tryd.underlying40, by intro h; cases h⟩
def zft : TI := ⟨.slice 3, 1, 24, some (.osl 1 true []), false⟩
theorem z8I : qC Tryd.prog 43 zft := ⟨⟨Tryd.t43, by kernel_rfl, rfl, rfl, fun z h => by cases h; exact ⟨_, rfl, rfl, fun S h => xw _⟩⟩, Tryd.underlying43, by intro h; cases h⟩
def zfs : TI := ⟨.other, 1, 8, some (.atom .nilFunc), false⟩
theorem z8H : qC Tryd.prog 45 zfs := ⟨⟨Tryd.t45, by kernel_rfl, rfl, rfl, fun z h => by cases h; exact ⟨_, rfl, rfl, fun S h => zj rfl⟩⟩, ⟨_, Tryd.underlying45, rfl⟩, by intro h; cases h⟩
def zfr : TI := ⟨.other, 1, 8, some (.atom .nilFunc), false⟩
theorem z8G : qC Tryd.prog 46 zfr := ⟨⟨Tryd.t46, by kernel_rfl, rfl, rfl, fun z h => by cases h; exact ⟨_, rfl, rfl, fun S h => zj rfl⟩⟩, ⟨_, Tryd.underlying46, rfl⟩, by intro h; cases h⟩
def zfq : TI := ⟨.other, 1, 8, some (.atom .nilFunc), false⟩
theorem z8F : qC Tryd.prog 47 zfq := ⟨⟨Tryd.t47, by kernel_rfl, rfl, rfl, fun z h => by cases h; exact ⟨_, rfl, rfl, fun S h => zj rfl⟩⟩, ⟨_, Tryd.underlying47, rfl⟩, by intro h; cases h⟩
def zfp : TI := ⟨.slice 81, 1, 24, some (.osl 2 true []), false⟩
theorem z8E : qC Tryd.prog 51 zfp := ⟨⟨Tryd.t51, by kernel_rfl, rfl, rfl, fun z h => by cases h; exact ⟨_, rfl, rfl, fun S h => xw _⟩⟩, Tryd.underlying51, by intro h; cases h⟩
def zfo : TI := ⟨.slice 34, 1, 24, some (.osl 2 true []), false⟩
theorem z8D : qC Tryd.prog 56 zfo := ⟨⟨Tryd.t56, by kernel_rfl, rfl, rfl, fun z h => by cases h; exact ⟨_, rfl, rfl, fun S h => xw _⟩⟩, Tryd.underlying56, by intro h; cases h⟩
def zfn : TI := ⟨.slice 84, 1, 24, some (.osl 3 true []), false⟩
theorem z8C : qC Tryd.prog 59 zfn := ⟨⟨Tryd.t59, by kernel_rfl, rfl, rfl, fun z h => by cases h; exact ⟨_, rfl, rfl, fun S h => xw _⟩⟩, Tryd.underlying59, by intro h; cases h⟩
def zfm : TI := ⟨.slice 5, 1, 24, some (.osl 1 true []), false⟩
theorem z8B : qC Tryd.prog 65 zfm := ⟨⟨Tryd.t65, by kernel_rfl, rfl, rfl, fun z h => by cases h; exact ⟨_, rfl, rfl, fun S h => xw _⟩⟩, Tryd.underlying65, by intro h; cases h⟩
def zfl : TI := ⟨.other, 1, 8, some (.atom (.map none)), false⟩
theorem z8A : qC Tryd.prog 67 zfl := ⟨⟨Tryd.t67, by kernel_rfl, rfl, rfl, fun z h => by cases h; exact ⟨_, rfl, rfl, fun S h => zj rfl⟩⟩, ⟨_, Tryd.underlying67, rfl⟩, by intro h; cases h⟩
def zfk : TI := ⟨.other, 1, 8, some (.atom (.map none)), false⟩
theorem z8z : qC Tryd.prog 68 zfk := ⟨⟨Tryd.t68, by kernel_rfl, rfl, rfl, fun z h => by cases h; exact ⟨_, rfl, rfl, fun S h => zj rfl⟩⟩, ⟨_, Tryd.underlying68, rfl⟩, by intro h; cases h⟩
def zfj : TI := ⟨.other, 1, 8, some (.atom (.map none)), false⟩
theorem z8y : qC Tryd.prog 69 zfj := ⟨⟨Tryd.t69, by kernel_rfl, rfl, rfl, fun z h => by cases h; exact ⟨_, rfl, rfl, fun S h => zj rfl⟩⟩, ⟨_, Tryd.underlying69, rfl⟩, by intro h; cases h⟩
def zfi : TI := ⟨.struct [(0, 1), (1, 1), (2, 1)], 3, 24, some (.agg [.atom (.map none), .atom (.map none), .atom (.map none)]), false⟩
theorem z8x : qC Tryd.prog 71 zfi := ⟨⟨Tryd.t71, by kernel_rfl, rfl, rfl, fun z h => by cases h; exact ⟨_, rfl, rfl, fun S h => yX (zm (zj rfl) (zm (zj rfl) (zm (zj rfl) (yl))))⟩⟩, ⟨_, Tryd.underlying71, by kernel_rfl, by
  intro f hf
  simp only [List.mem_cons, List.not_mem_nil, or_false] at hf
  rcases hf with rfl | rfl | rfl
  ·exact ⟨Tryd.t67, by kernel_rfl⟩
  ·exact ⟨Tryd.t68, by kernel_rfl⟩
  ·exact ⟨Tryd.t69, by kernel_rfl⟩⟩, by intro h; cases h⟩
def zfh : TI := ⟨.array 3 34, 6, 48, some (.agg [.agg [.atom (.int .i64 0), .atom (.int .i64 0)], .agg [.atom (.int .i64 0), .atom (.int .i64 0)], .agg [.atom (.int .i64 0), .atom (.int .i64 0)]]), true⟩
theorem z8w : qC Tryd.prog 73 zfh := ⟨⟨Tryd.t73, by kernel_rfl, rfl, rfl, fun z h => by cases h; exact ⟨_, rfl, rfl, fun S h => yX (zm (yX (zm (zj rfl) (zm (zj rfl) (yl)))) (zm (yX (zm (zj rfl) (zm (zj rfl) (yl)))) (zm (yX (zm (zj rfl) (zm (zj rfl) (yl)))) (yl))))⟩⟩, Tryd.underlying73, fun _ => Wf (Go.Ex.zbH.eqn rfl) rfl rfl rfl rfl⟩
def zfg : TI := ⟨.slice 87, 1, 24, some (.osl 5 true []), false⟩
theorem z8v : qC Tryd.prog 75 zfg := ⟨⟨Tryd.t75, by kernel_rfl, rfl, rfl, fun z h => by cases h; exact ⟨_, rfl, rfl, fun S h => xw _⟩⟩, Tryd.underlying75, by intro h; cases h⟩
def zff : TI := ⟨.other, 1, 8, some (.atom .nilFunc), false⟩
theorem z8u : qC Tryd.prog 77 zff := ⟨⟨Tryd.t77, by kernel_rfl, rfl, rfl, fun z h => by cases h; exact ⟨_, rfl, rfl, fun S h => zj rfl⟩⟩, ⟨_, Tryd.underlying77, rfl⟩, by intro h; cases h⟩
def zfe : TI := ⟨.struct [(0, 1), (1, 1)], 2, 16, some (.agg [.atom (.int .i64 0), .atom (.int .i64 0)]), true⟩
theorem z8t : qC Tryd.prog 81 zfe := ⟨⟨Tryd.t81, by kernel_rfl, rfl, rfl, fun z h => by cases h; exact ⟨_, rfl, rfl, fun S h => yX (zm (zj rfl) (zm (zj rfl) (yl)))⟩⟩, ⟨_, Tryd.underlying81, by kernel_rfl, by
  intro f hf
  simp only [List.mem_cons, List.not_mem_nil, or_false] at hf
  rcases hf with rfl | rfl
  ·exact ⟨Tryd.t3, by kernel_rfl⟩
  ·exact ⟨Tryd.t3, by kernel_rfl⟩⟩, fun _ => Wf (Go.Ex.zbG.eqn rfl) rfl rfl rfl rfl⟩
def zfd : TI := ⟨.struct [(0, 1), (1, 1), (2, 1)], 3, 24, some (.agg [.atom (.int .i64 0), .atom (.int .i64 0), .atom (.int .i64 0)]), true⟩
theorem z3H : qC Tryd.prog 84 zfd := ⟨⟨Tryd.t84, by kernel_rfl, rfl, rfl, fun z h => by cases h; exact ⟨_, rfl, rfl, fun S h => yX (zm (zj rfl) (zm (zj rfl) (zm (zj rfl) (yl))))⟩⟩, ⟨_, Tryd.underlying84, by kernel_rfl, by
  intro f hf
  simp only [List.mem_cons, List.not_mem_nil, or_false] at hf
  rcases hf with rfl | rfl | rfl
  ·exact ⟨Tryd.t3, by kernel_rfl⟩
  ·exact ⟨Tryd.t3, by kernel_rfl⟩
  ·exact ⟨Tryd.t3, by kernel_rfl⟩⟩, fun _ => Wf (Go.Ex.z84.eqn rfl) rfl rfl rfl rfl⟩
def zfc : TI := ⟨.other, 1, 8, some (.atom .nilFunc), false⟩
theorem z8s : qC Tryd.prog 85 zfc := ⟨⟨Tryd.t85, by kernel_rfl, rfl, rfl, fun z h => by cases h; exact ⟨_, rfl, rfl, fun S h => zj rfl⟩⟩, ⟨_, Tryd.underlying85, rfl⟩, by intro h; cases h⟩
def zfb : TI := ⟨.struct [(0, 1), (1, 3), (4, 1)], 5, 56, some (.agg [.osl 1 true [], .agg [.atom (.int .i64 0), .atom (.int .i64 0), .atom (.int .i64 0)], .atom .nilFunc]), false⟩
theorem z8r : qC Tryd.prog 87 zfb := ⟨⟨Tryd.t87, by kernel_rfl, rfl, rfl, fun z h => by cases h; exact ⟨_, rfl, rfl, fun S h => yX (zm (xw _) (zm (yX (zm (zj rfl) (zm (zj rfl) (zm (zj rfl) (yl))))) (zm (zj rfl) (yl))))⟩⟩, ⟨_, Tryd.underlying87, by kernel_rfl, by
  intro f hf
  simp only [List.mem_cons, List.not_mem_nil, or_false] at hf
  rcases hf with rfl | rfl | rfl
  ·exact ⟨Tryd.t43, by kernel_rfl⟩
  ·exact ⟨Tryd.t84, by kernel_rfl⟩
  ·exact ⟨Tryd.t85, by kernel_rfl⟩⟩, by intro h; cases h⟩
def zfa : TI := ⟨.array 3 9, 3, 48, some (.agg [.atom (.string ⟨#[]⟩), .atom (.string ⟨#[]⟩), .atom (.string ⟨#[]⟩)]), false⟩
theorem z8q : qC Tryd.prog 90 zfa := ⟨⟨Tryd.t90, by kernel_rfl, rfl, rfl, fun z h => by cases h; exact ⟨_, rfl, rfl, fun S h => yX (zm (zj rfl) (zm (zj rfl) (zm (zj rfl) (yl))))⟩⟩, Tryd.underlying90, by intro h; cases h⟩
def zf9 : TI := ⟨.ptr 100, 1, 8, some (.atom (.pointer none)), false⟩
theorem z8p : qC Tryd.prog 95 zf9 := ⟨⟨Tryd.t95, by kernel_rfl, rfl, rfl, fun z h => by cases h; exact ⟨_, rfl, rfl, fun S h => zj rfl⟩⟩, Tryd.underlying95, by intro h; cases h⟩
def zf8 : TI := ⟨.slice 116, 1, 24, some (.osl 1 true []), false⟩
theorem z8o : qC Tryd.prog 96 zf8 := ⟨⟨Tryd.t96, by kernel_rfl, rfl, rfl, fun z h => by cases h; exact ⟨_, rfl, rfl, fun S h => xw _⟩⟩, Tryd.underlying96, by intro h; cases h⟩
def zf7 : TI := ⟨.slice 96, 1, 24, some (.osl 1 true []), false⟩
theorem z8n : qC Tryd.prog 98 zf7 := ⟨⟨Tryd.t98, by kernel_rfl, rfl, rfl, fun z h => by cases h; exact ⟨_, rfl, rfl, fun S h => xw _⟩⟩, Tryd.underlying98, by intro h; cases h⟩
def zaL : TI := ⟨.struct [(0, 1), (1, 1)], 2, 48, some (.agg [.osl 1 true [], .osl 1 true []]), false⟩
theorem z68 : qC Tryd.prog 100 zaL := ⟨⟨Tryd.t100, by kernel_rfl, rfl, rfl, fun z h => by cases h; exact ⟨_, rfl, rfl, fun S h => yX (zm (xw _) (zm (xw _) (yl)))⟩⟩, ⟨_, Tryd.underlying100, by kernel_rfl, by
  intro f hf
  simp only [List.mem_cons, List.not_mem_nil, or_false] at hf
  rcases hf with rfl | rfl
  ·exact ⟨Tryd.t98, by kernel_rfl⟩
  ·exact ⟨Tryd.t96, by kernel_rfl⟩⟩, by intro h; cases h⟩
def zaK : TI := ⟨.int .u16, 1, 2, some (.atom (.int .u16 0)), false⟩
theorem z67 : qC Tryd.prog 104 zaK := ⟨⟨Tryd.t104, by kernel_rfl, rfl, rfl, fun z h => by cases h; exact ⟨_, rfl, rfl, fun S h => zj rfl⟩⟩, Tryd.underlying104, by intro h; cases h⟩
def zaJ : TI := ⟨.array 3 3, 3, 24, some (.agg [.atom (.int .i64 0), .atom (.int .i64 0), .atom (.int .i64 0)]), true⟩
theorem z65 : qC Tryd.prog 107 zaJ := ⟨⟨Tryd.t107, by kernel_rfl, rfl, rfl, fun z h => by cases h; exact ⟨_, rfl, rfl, fun S h => yX (zm (zj rfl) (zm (zj rfl) (zm (zj rfl) (yl))))⟩⟩, Tryd.underlying107, fun _ => Wf (Go.Ex.z9M.eqn rfl) rfl rfl rfl rfl⟩
def zaI : TI := ⟨.int .u64, 1, 8, some (.atom (.int .u64 0)), false⟩
theorem z64 : qC Tryd.prog 116 zaI := ⟨⟨Tryd.t116, by kernel_rfl, rfl, rfl, fun z h => by cases h; exact ⟨_, rfl, rfl, fun S h => zj rfl⟩⟩, Tryd.underlying116, by intro h; cases h⟩
def zaH : TI := ⟨.other, 1, 8, some (.atom .nilFunc), false⟩
theorem z63 : qC Tryd.prog 121 zaH := ⟨⟨Tryd.t121, by kernel_rfl, rfl, rfl, fun z h => by cases h; exact ⟨_, rfl, rfl, fun S h => zj rfl⟩⟩, ⟨_, Tryd.underlying121, rfl⟩, by intro h; cases h⟩
def zaG : TI := ⟨.other, 1, 8, some (.atom .nilFunc), false⟩
theorem z62 : qC Tryd.prog 127 zaG := ⟨⟨Tryd.t127, by kernel_rfl, rfl, rfl, fun z h => by cases h; exact ⟨_, rfl, rfl, fun S h => zj rfl⟩⟩, ⟨_, Tryd.underlying127, rfl⟩, by intro h; cases h⟩
def zaF : TI := ⟨.other, 1, 8, some (.atom .nilFunc), false⟩
theorem z61 : qC Tryd.prog 131 zaF := ⟨⟨Tryd.t131, by kernel_rfl, rfl, rfl, fun z h => by cases h; exact ⟨_, rfl, rfl, fun S h => zj rfl⟩⟩, ⟨_, Tryd.underlying131, rfl⟩, by intro h; cases h⟩
def zaE : TI := ⟨.other, 1, 8, some (.atom .nilFunc), false⟩
theorem z60 : qC Tryd.prog 132 zaE := ⟨⟨Tryd.t132, by kernel_rfl, rfl, rfl, fun z h => by cases h; exact ⟨_, rfl, rfl, fun S h => zj rfl⟩⟩, ⟨_, Tryd.underlying132, rfl⟩, by intro h; cases h⟩
def zaD : TI := ⟨.struct [(0, 1), (1, 1), (2, 1)], 3, 24, some (.agg [.atom (.int .i64 0), .atom (.int .i64 0), .atom (.int .i64 0)]), true⟩
theorem z5Z : qC Tryd.prog 135 zaD := ⟨⟨Tryd.t135, by kernel_rfl, rfl, rfl, fun z h => by cases h; exact ⟨_, rfl, rfl, fun S h => yX (zm (zj rfl) (zm (zj rfl) (zm (zj rfl) (yl))))⟩⟩, ⟨_, Tryd.underlying135, by kernel_rfl, by
  intro f hf
  simp only [List.mem_cons, List.not_mem_nil, or_false] at hf
  rcases hf with rfl | rfl | rfl
  ·exact ⟨Tryd.t3, by kernel_rfl⟩
  ·exact ⟨Tryd.t3, by kernel_rfl⟩
  ·exact ⟨Tryd.t3, by kernel_rfl⟩⟩, fun _ => Wf (Go.Ex.z9L.eqn rfl) rfl rfl rfl rfl⟩
def zaC : TI := ⟨.other, 1, 8, some (.atom .nilFunc), false⟩
theorem z5Y : qC Tryd.prog 137 zaC := ⟨⟨Tryd.t137, by kernel_rfl, rfl, rfl, fun z h => by cases h; exact ⟨_, rfl, rfl, fun S h => zj rfl⟩⟩, ⟨_, Tryd.underlying137, rfl⟩, by intro h; cases h⟩
def zaB : TI := ⟨.array 24 5, 24, 24, some (.agg [.atom (.int .u8 0), .atom (.int .u8 0), .atom (.int .u8 0), .atom (.int .u8 0), .atom (.int .u8 0), .atom (.int .u8 0), .atom (.int .u8 0), .atom (.int .u8 0), .atom (.int .u8 0), .atom (.int .u8 0), .atom (.int .u8 0), .atom (.int .u8 0), .atom (.int .u8 0), .atom (.int .u8 0), .atom (.int .u8 0), .atom (.int .u8 0), .atom (.int .u8 0), .atom (.int .u8 0), .atom (.int .u8 0), .atom (.int .u8 0), .atom (.int .u8 0), .atom (.int .u8 0), .atom (.int .u8 0), .atom (.int .u8 0)]), false⟩
theorem z5X : qC Tryd.prog 143 zaB := ⟨⟨Tryd.t143, by kernel_rfl, rfl, rfl, fun z h => by cases h; exact ⟨_, rfl, rfl, fun S h => yX (zm (zj rfl) (zm (zj rfl) (zm (zj rfl) (zm (zj rfl) (zm (zj rfl) (zm (zj rfl) (zm (zj rfl) (zm (zj rfl) (zm (zj rfl) (zm (zj rfl) (zm (zj rfl) (zm (zj rfl) (zm (zj rfl) (zm (zj rfl) (zm (zj rfl) (zm (zj rfl) (zm (zj rfl) (zm (zj rfl) (zm (zj rfl) (zm (zj rfl) (zm (zj rfl) (zm (zj rfl) (zm (zj rfl) (zm (zj rfl) (yl)))))))))))))))))))))))))⟩⟩, Tryd.underlying143, by intro h; cases h⟩
def zaA : TI := ⟨.other, 1, 8, some (.atom .nilFunc), false⟩
theorem z5W : qC Tryd.prog 148 zaA := ⟨⟨Tryd.t148, by kernel_rfl, rfl, rfl, fun z h => by cases h; exact ⟨_, rfl, rfl, fun S h => zj rfl⟩⟩, ⟨_, Tryd.underlying148, rfl⟩, by intro h; cases h⟩
def zaz : TI := ⟨.slice 135, 1, 24, some (.osl 3 true []), false⟩
theorem z5V : qC Tryd.prog 149 zaz := ⟨⟨Tryd.t149, by kernel_rfl, rfl, rfl, fun z h => by cases h; exact ⟨_, rfl, rfl, fun S h => xw _⟩⟩, Tryd.underlying149, by intro h; cases h⟩
def tiL : List (Nat × TI) := [(1, ti1), (2, ti2), (3, ti3), (4, ti4), (5, ti5), (9, ti9), (22, zfE), (24, zfD), (25, zfC), (27, zfB), (28, zfA), (30, zfz), (31, zfy), (34, zfx), (36, zfw), (37, zfv), (40, zfu), (43, zft), (45, zfs), (46, zfr), (47, zfq), (51, zfp), (56, zfo), (59, zfn), (65, zfm), (67, zfl), (68, zfk), (69, zfj), (71, zfi), (73, zfh), (75, zfg), (77, zff), (81, zfe), (84, zfd), (85, zfc), (87, zfb), (90, zfa), (95, zf9), (96, zf8), (98, zf7), (100, zaL), (104, zaK), (107, zaJ), (116, zaI), (121, zaH), (127, zaG), (131, zaF), (132, zaE), (135, zaD), (137, zaC), (143, zaB), (148, zaA), (149, zaz)]
def wr : TT := fun t => (tiL.find? fun p => p.1 == t).map (·.2)
def z5K (P : Program) : List (Nat × TI) → Prop
 | [] => True
 | p :: l => qC P p.1 p.2 ∧ z5K P l
theorem z5K.mem : ∀ {l : List (Nat × TI)}, z5K P l → ∀ p ∈ l, qC P p.1 p.2
 | p :: _, h, q, hq => by
  rcases List.mem_cons.1 hq with rfl | hq
  ·exact h.1
  ·exact z5K.mem h.2 q hq
 | [], _, _, hq => by cases hq
theorem zas : z5K Tryd.prog tiL := ⟨zay, zax, zaw, zav, zau, zat, z8S, z8R, z8Q, z8P, z8O, z8N, z8M, z3I, z8L, z8K, z8J, z8I, z8H, z8G, z8F, z8E, z8D, z8C, z8B, z8A, z8z, z8y, z8x, z8w, z8v, z8u, z8t, z3H, z8s, z8r, z8q, z8p, z8o, z8n, z68, z67, z65, z64, z63, z62, z61, z60, z5Z, z5Y, z5X, z5W, z5V, trivial⟩
theorem zB : xk Tryd.prog wr := by
 intro t i h
 unfold wr at h
 rw [Option.map_eq_some_iff] at h
 obtain ⟨p, h1, rfl⟩ := h
 have h2 := List.find?_some h1
 have h3 := zas.mem p (List.mem_of_find?_eq_some h1)
 rw [beq_iff_eq.1 h2] at h3
 exact h3
theorem zh3 : wr 1 = some ⟨.other, 1, 8, some (.atom .nilFunc), false⟩ := rfl
theorem zh2 : wr 2 = some ⟨.int .i64, 1, 8, some (.atom (.int .i64 0)), false⟩ := rfl
theorem zh1 : wr 3 = some ⟨.int .i64, 1, 8, some (.atom (.int .i64 0)), false⟩ := rfl
theorem zh0 : wr 4 = some ⟨.bool, 1, 1, some (.atom (.bool false)), false⟩ := rfl
theorem zgZ : wr 5 = some ⟨.int .u8, 1, 1, some (.atom (.int .u8 0)), false⟩ := rfl
theorem zgY : wr 9 = some ⟨.str, 1, 16, some (.atom (.string ⟨#[]⟩)), false⟩ := rfl
theorem zeP : wr 22 = some ⟨.slice 104, 1, 24, some (.osl 1 true []), false⟩ := rfl
theorem zeO : wr 24 = some ⟨.struct [(0, 1), (1, 1), (2, 1), (3, 1), (4, 1)], 5, 32, some (.agg [.atom (.int .u8 0), .atom (.int .u8 0), .atom (.int .u8 0), .atom (.bool false), .osl 1 true []]), false⟩ := rfl
theorem zeN : wr 25 = some ⟨.slice 65, 1, 24, some (.osl 1 true []), false⟩ := rfl
theorem zeM : wr 27 = some ⟨.struct [(0, 5), (5, 1)], 6, 56, some (.agg [.agg [.atom (.int .u8 0), .atom (.int .u8 0), .atom (.int .u8 0), .atom (.bool false), .osl 1 true []], .osl 1 true []]), false⟩ := rfl
theorem zeL : wr 28 = some ⟨.slice 51, 1, 24, some (.osl 1 true []), false⟩ := rfl
theorem zeK : wr 30 = some ⟨.struct [(0, 1), (1, 1), (2, 1)], 3, 40, some (.agg [.atom (.int .i64 0), .atom (.int .i64 0), .osl 1 true []]), false⟩ := rfl
theorem zeJ : wr 31 = some ⟨.slice 43, 1, 24, some (.osl 1 true []), false⟩ := rfl
theorem zeI : wr 34 = some ⟨.array 2 3, 2, 16, some (.agg [.atom (.int .i64 0), .atom (.int .i64 0)]), true⟩ := rfl
theorem zeH : wr 36 = some ⟨.struct [(0, 2), (2, 2), (4, 2)], 6, 48, some (.agg [.agg [.atom (.int .i64 0), .atom (.int .i64 0)], .agg [.atom (.int .i64 0), .atom (.int .i64 0)], .agg [.atom (.int .i64 0), .atom (.int .i64 0)]]), true⟩ := rfl
theorem zeG : wr 37 = some ⟨.int .i64, 1, 8, some (.atom (.int .i64 0)), false⟩ := rfl
theorem zeF : wr 40 = some ⟨.slice 4, 1, 24, some (.osl 1 true []), false⟩ := rfl
theorem zeE : wr 43 = some ⟨.slice 3, 1, 24, some (.osl 1 true []), false⟩ := rfl
theorem zeD : wr 45 = some ⟨.other, 1, 8, some (.atom .nilFunc), false⟩ := rfl
theorem zeC : wr 46 = some ⟨.other, 1, 8, some (.atom .nilFunc), false⟩ := rfl
theorem zeB : wr 47 = some ⟨.other, 1, 8, some (.atom .nilFunc), false⟩ := rfl
theorem zeA : wr 51 = some ⟨.slice 81, 1, 24, some (.osl 2 true []), false⟩ := rfl
theorem zez : wr 56 = some ⟨.slice 34, 1, 24, some (.osl 2 true []), false⟩ := rfl
theorem zey : wr 59 = some ⟨.slice 84, 1, 24, some (.osl 3 true []), false⟩ := rfl
theorem zex : wr 65 = some ⟨.slice 5, 1, 24, some (.osl 1 true []), false⟩ := rfl
theorem zew : wr 67 = some ⟨.other, 1, 8, some (.atom (.map none)), false⟩ := rfl
theorem zev : wr 68 = some ⟨.other, 1, 8, some (.atom (.map none)), false⟩ := rfl
theorem zeu : wr 69 = some ⟨.other, 1, 8, some (.atom (.map none)), false⟩ := rfl
theorem zet : wr 71 = some ⟨.struct [(0, 1), (1, 1), (2, 1)], 3, 24, some (.agg [.atom (.map none), .atom (.map none), .atom (.map none)]), false⟩ := rfl
theorem zes : wr 73 = some ⟨.array 3 34, 6, 48, some (.agg [.agg [.atom (.int .i64 0), .atom (.int .i64 0)], .agg [.atom (.int .i64 0), .atom (.int .i64 0)], .agg [.atom (.int .i64 0), .atom (.int .i64 0)]]), true⟩ := rfl
theorem zer : wr 75 = some ⟨.slice 87, 1, 24, some (.osl 5 true []), false⟩ := rfl
theorem zeq : wr 77 = some ⟨.other, 1, 8, some (.atom .nilFunc), false⟩ := rfl
theorem zep : wr 81 = some ⟨.struct [(0, 1), (1, 1)], 2, 16, some (.agg [.atom (.int .i64 0), .atom (.int .i64 0)]), true⟩ := rfl
theorem zeo : wr 84 = some ⟨.struct [(0, 1), (1, 1), (2, 1)], 3, 24, some (.agg [.atom (.int .i64 0), .atom (.int .i64 0), .atom (.int .i64 0)]), true⟩ := rfl
theorem zen : wr 85 = some ⟨.other, 1, 8, some (.atom .nilFunc), false⟩ := rfl
theorem zem : wr 87 = some ⟨.struct [(0, 1), (1, 3), (4, 1)], 5, 56, some (.agg [.osl 1 true [], .agg [.atom (.int .i64 0), .atom (.int .i64 0), .atom (.int .i64 0)], .atom .nilFunc]), false⟩ := rfl
theorem zel : wr 90 = some ⟨.array 3 9, 3, 48, some (.agg [.atom (.string ⟨#[]⟩), .atom (.string ⟨#[]⟩), .atom (.string ⟨#[]⟩)]), false⟩ := rfl
theorem zek : wr 95 = some ⟨.ptr 100, 1, 8, some (.atom (.pointer none)), false⟩ := rfl
theorem zej : wr 96 = some ⟨.slice 116, 1, 24, some (.osl 1 true []), false⟩ := rfl
theorem zei : wr 98 = some ⟨.slice 96, 1, 24, some (.osl 1 true []), false⟩ := rfl
theorem zcl : wr 100 = some ⟨.struct [(0, 1), (1, 1)], 2, 48, some (.agg [.osl 1 true [], .osl 1 true []]), false⟩ := rfl
theorem zck : wr 104 = some ⟨.int .u16, 1, 2, some (.atom (.int .u16 0)), false⟩ := rfl
theorem zcj : wr 107 = some ⟨.array 3 3, 3, 24, some (.agg [.atom (.int .i64 0), .atom (.int .i64 0), .atom (.int .i64 0)]), true⟩ := rfl
theorem zci : wr 116 = some ⟨.int .u64, 1, 8, some (.atom (.int .u64 0)), false⟩ := rfl
theorem zch : wr 121 = some ⟨.other, 1, 8, some (.atom .nilFunc), false⟩ := rfl
theorem zcg : wr 127 = some ⟨.other, 1, 8, some (.atom .nilFunc), false⟩ := rfl
theorem zcf : wr 131 = some ⟨.other, 1, 8, some (.atom .nilFunc), false⟩ := rfl
theorem zce : wr 132 = some ⟨.other, 1, 8, some (.atom .nilFunc), false⟩ := rfl
theorem zcd : wr 135 = some ⟨.struct [(0, 1), (1, 1), (2, 1)], 3, 24, some (.agg [.atom (.int .i64 0), .atom (.int .i64 0), .atom (.int .i64 0)]), true⟩ := rfl
theorem zcc : wr 137 = some ⟨.other, 1, 8, some (.atom .nilFunc), false⟩ := rfl
theorem zcb : wr 143 = some ⟨.array 24 5, 24, 24, some (.agg [.atom (.int .u8 0), .atom (.int .u8 0), .atom (.int .u8 0), .atom (.int .u8 0), .atom (.int .u8 0), .atom (.int .u8 0), .atom (.int .u8 0), .atom (.int .u8 0), .atom (.int .u8 0), .atom (.int .u8 0), .atom (.int .u8 0), .atom (.int .u8 0), .atom (.int .u8 0), .atom (.int .u8 0), .atom (.int .u8 0), .atom (.int .u8 0), .atom (.int .u8 0), .atom (.int .u8 0), .atom (.int .u8 0), .atom (.int .u8 0), .atom (.int .u8 0), .atom (.int .u8 0), .atom (.int .u8 0), .atom (.int .u8 0)]), false⟩ := rfl
theorem zca : wr 148 = some ⟨.other, 1, 8, some (.atom .nilFunc), false⟩ := rfl
theorem zc9 : wr 149 = some ⟨.slice 135, 1, 24, some (.osl 3 true []), false⟩ := rfl
attribute [go_sem] zh3 zh2 zh1 zh0 zgZ zgY zeP zeO zeN zeM zeL zeK zeJ zeI zeH zeG zeF zeE zeD zeC zeB zeA zez zey zex zew zev zeu zet zes zer zeq zep zeo zen zem zel zek zej zei zcl zck zcj zci zch zcg zcf zce zcd zcc zcb zca zc9
structure x6 (α : Type) where
 e0 : α
 e1 : α
 deriving DecidableEq
instance {α : Type} [BEq α] : BEq (x6 α) := ⟨fun x y => (x.e0 == y.e0) && (x.e1 == y.e1)⟩
section
variable {α : Type}
def WQ (f : α → A) (x : x6 α) : A := .agg [f x.e0, f x.e1]
instance (f : α → A) [h : VW f] : VW (WQ f) := ⟨fun x => by simp [WQ, A.isD, A.areD, h.isD]⟩
instance (f g : α → A) [h : Y3 f g] : Y3 (WQ f) (WQ g) := ⟨fun x => by simp [WQ, A.loose, A.looses, h.lo]⟩
instance (f g : α → A) [h : Jv f g] : Jv (WQ f) (WQ g) := ⟨fun x => by simp [WQ, A.live, A.lives, h.live], fun x => by simp [WQ, A.shut, A.shuts, h.sh]⟩
instance (f : α → A) [h : uW f] : uW (WQ f) := ⟨fun x y q => by
 simp only [WQ, A.agg.injEq, List.cons.injEq, and_true] at q
 cases x; cases y
 simp only [x6.mk.injEq]
 exact ⟨h.inj _ _ q.1, h.inj _ _ q.2⟩⟩
end
structure Y5 (α : Type) where
 e0 : α
 e1 : α
 e2 : α
 deriving DecidableEq
section
variable {α : Type}
def zbQ (f : α → A) (x : Y5 α) : A := .agg [f x.e0, f x.e1, f x.e2]
end
section
variable {α : Type}
def Y5.toL (x : Y5 α) : List α := [x.e0, x.e1, x.e2]
def Y5.ofL : List α → Y5 α → Y5 α
 | [x0, x1, x2], _ => ⟨x0, x1, x2⟩
 | _, d => d
theorem Y5.toL_ofL (l : List α) (d : Y5 α) (h : l.length = 3) : (Y5.ofL l d).toL = l := by
 match l, h with
 | [x0, x1, x2], _ => rfl
def Y5.setI (x : Y5 α) (i : Int) (v : α) : Y5 α := Y5.ofL (x.toL.set i.toNat v) x
theorem Y5.setL (f : α → A) (x : Y5 α) (i : Int) (v : α) : (x.toL.map f).set i.toNat (f v) = ((Y5.setI x i v).toL).map f := by
 unfold Y5.setI
 rw [Y5.toL_ofL _ _ (by simp [Y5.toL]), List.map_set]
end
structure z8 where
 State : Int
 Input : Int
 Next : Int
instance : BEq z8 := ⟨fun x y => (x.State == y.State) && (x.Input == y.Input) && (x.Next == y.Next)⟩
def zX (f0 : Int → A) (f1 : Int → A) (f2 : Int → A) (x : z8) : A := .agg [f0 x.State, f1 x.Input, f2 x.Next]
instance (f0 : Int → A) (f1 : Int → A) (f2 : Int → A) [h0 : VW f0] [h1 : VW f1] [h2 : VW f2] : VW (zX f0 f1 f2) := ⟨fun x => by simp [zX, A.isD, A.areD, h0.isD, h1.isD, h2.isD]⟩
instance (f0 : Int → A) (f1 : Int → A) (f2 : Int → A) (g0 : Int → A) (g1 : Int → A) (g2 : Int → A) [h0 : Y3 f0 g0] [h1 : Y3 f1 g1] [h2 : Y3 f2 g2] : Y3 (zX f0 f1 f2) (zX g0 g1 g2) := ⟨fun x => by simp [zX, A.loose, A.looses, h0.lo, h1.lo, h2.lo]⟩
instance (f0 : Int → A) (f1 : Int → A) (f2 : Int → A) (g0 : Int → A) (g1 : Int → A) (g2 : Int → A) [h0 : Jv f0 g0] [h1 : Jv f1 g1] [h2 : Jv f2 g2] : Jv (zX f0 f1 f2) (zX g0 g1 g2) := ⟨fun x => by simp [zX, A.live, A.lives, h0.live, h1.live, h2.live], fun x => by simp [zX, A.shut, A.shuts, h0.sh, h1.sh, h2.sh]⟩
instance (f0 : Int → A) (f1 : Int → A) (f2 : Int → A) [h0 : uW f0] [h1 : uW f1] [h2 : uW f2] : uW (zX f0 f1 f2) := ⟨fun x y h => by
 simp only [zX, A.agg.injEq, List.cons.injEq, and_true] at h
 cases x; cases y
 simp only [z8.mk.injEq]
 exact ⟨h0.inj _ _ h.1, h1.inj _ _ h.2.1, h2.inj _ _ h.2.2⟩⟩
structure yd where
 States : Int
 Inputs : Int
 Outputs : Int
 Partial : Bool
 Edges : List Int
def ul (f0 : Int → A) (f1 : Int → A) (f2 : Int → A) (f3 : Bool → A) (f4 : List Int → A) (x : yd) : A := .agg [f0 x.States, f1 x.Inputs, f2 x.Outputs, f3 x.Partial, f4 x.Edges]
instance (f0 : Int → A) (f1 : Int → A) (f2 : Int → A) (f3 : Bool → A) (f4 : List Int → A) (g0 : Int → A) (g1 : Int → A) (g2 : Int → A) (g3 : Bool → A) (g4 : List Int → A) [h0 : Y3 f0 g0] [h1 : Y3 f1 g1] [h2 : Y3 f2 g2] [h3 : Y3 f3 g3] [h4 : Y3 f4 g4] : Y3 (ul f0 f1 f2 f3 f4) (ul g0 g1 g2 g3 g4) := ⟨fun x => by simp [ul, A.loose, A.looses, h0.lo, h1.lo, h2.lo, h3.lo, h4.lo]⟩
instance (f0 : Int → A) (f1 : Int → A) (f2 : Int → A) (f3 : Bool → A) (f4 : List Int → A) [h0 : uW f0] [h1 : uW f1] [h2 : uW f2] [h3 : uW f3] [h4 : uW f4] : uW (ul f0 f1 f2 f3 f4) := ⟨fun x y h => by
 simp only [ul, A.agg.injEq, List.cons.injEq, and_true] at h
 cases x; cases y
 simp only [yd.mk.injEq]
 exact ⟨h0.inj _ _ h.1, h1.inj _ _ h.2.1, h2.inj _ _ h.2.2.1, h3.inj _ _ h.2.2.2.1, h4.inj _ _ h.2.2.2.2⟩⟩
structure wo where
 M : yd
 L : List (List Int)
def uk (f0 : yd → A) (f1 : List (List Int) → A) (x : wo) : A := .agg [f0 x.M, f1 x.L]
instance (f0 : yd → A) (f1 : List (List Int) → A) (g0 : yd → A) (g1 : List (List Int) → A) [h0 : Y3 f0 g0] [h1 : Y3 f1 g1] : Y3 (uk f0 f1) (uk g0 g1) := ⟨fun x => by simp [uk, A.loose, A.looses, h0.lo, h1.lo]⟩
instance (f0 : yd → A) (f1 : List (List Int) → A) [h0 : uW f0] [h1 : uW f1] : uW (uk f0 f1) := ⟨fun x y h => by
 simp only [uk, A.agg.injEq, List.cons.injEq, and_true] at h
 cases x; cases y
 simp only [wo.mk.injEq]
 exact ⟨h0.inj _ _ h.1, h1.inj _ _ h.2⟩⟩
structure zc where
 To : Int
 Out : Int
def wz (f0 : Int → A) (f1 : Int → A) (x : zc) : A := .agg [f0 x.To, f1 x.Out]
instance (f0 : Int → A) (f1 : Int → A) [h0 : VW f0] [h1 : VW f1] : VW (wz f0 f1) := ⟨fun x => by simp [wz, A.isD, A.areD, h0.isD, h1.isD]⟩
instance (f0 : Int → A) (f1 : Int → A) (g0 : Int → A) (g1 : Int → A) [h0 : Y3 f0 g0] [h1 : Y3 f1 g1] : Y3 (wz f0 f1) (wz g0 g1) := ⟨fun x => by simp [wz, A.loose, A.looses, h0.lo, h1.lo]⟩
instance (f0 : Int → A) (f1 : Int → A) (g0 : Int → A) (g1 : Int → A) [h0 : Jv f0 g0] [h1 : Jv f1 g1] : Jv (wz f0 f1) (wz g0 g1) := ⟨fun x => by simp [wz, A.live, A.lives, h0.live, h1.live], fun x => by simp [wz, A.shut, A.shuts, h0.sh, h1.sh]⟩
instance (f0 : Int → A) (f1 : Int → A) [h0 : uW f0] [h1 : uW f1] : uW (wz f0 f1) := ⟨fun x y h => by
 simp only [wz, A.agg.injEq, List.cons.injEq, and_true] at h
 cases x; cases y
 simp only [zc.mk.injEq]
 exact ⟨h0.inj _ _ h.1, h1.inj _ _ h.2⟩⟩
structure z7 where
 Inputs : Int
 Outputs : Int
 Rows : List (List zc)
def vu (f0 : Int → A) (f1 : Int → A) (f2 : List (List zc) → A) (x : z7) : A := .agg [f0 x.Inputs, f1 x.Outputs, f2 x.Rows]
instance (f0 : Int → A) (f1 : Int → A) (f2 : List (List zc) → A) (g0 : Int → A) (g1 : Int → A) (g2 : List (List zc) → A) [h0 : Y3 f0 g0] [h1 : Y3 f1 g1] [h2 : Y3 f2 g2] : Y3 (vu f0 f1 f2) (vu g0 g1 g2) := ⟨fun x => by simp [vu, A.loose, A.looses, h0.lo, h1.lo, h2.lo]⟩
instance (f0 : Int → A) (f1 : Int → A) (f2 : List (List zc) → A) [h0 : uW f0] [h1 : uW f1] [h2 : uW f2] : uW (vu f0 f1 f2) := ⟨fun x y h => by
 simp only [vu, A.agg.injEq, List.cons.injEq, and_true] at h
 cases x; cases y
 simp only [z7.mk.injEq]
 exact ⟨h0.inj _ _ h.1, h1.inj _ _ h.2.1, h2.inj _ _ h.2.2⟩⟩
structure zg where
 states_ : List (Int × Bool)
 edges_ : List ((x6 Int) × Bool)
 pairs_ : List (z8 × Bool)
def zP (f0 : List (Int × Bool) → A) (f1 : List ((x6 Int) × Bool) → A) (f2 : List (z8 × Bool) → A) (x : zg) : A := .agg [f0 x.states_, f1 x.edges_, f2 x.pairs_]
structure zh where
 state_ : Int
 from_ : Int
 input_ : Int
def kM (f0 : Int → A) (f1 : Int → A) (f2 : Int → A) (x : zh) : A := .agg [f0 x.state_, f1 x.from_, f2 x.input_]
instance (f0 : Int → A) (f1 : Int → A) (f2 : Int → A) [h0 : VW f0] [h1 : VW f1] [h2 : VW f2] : VW (kM f0 f1 f2) := ⟨fun x => by simp [kM, A.isD, A.areD, h0.isD, h1.isD, h2.isD]⟩
structure za where
 word_ : List Int
 pair_ : z8
 has_ : Int ⊕ (Int × Int) ⊕ z8
def zb (f0 : List Int → A) (f1 : z8 → A) (f2 : Int ⊕ (Int × Int) ⊕ z8 → A) (x : za) : A := .agg [f0 x.word_, f1 x.pair_, f2 x.has_]
instance (f0 : List Int → A) (f1 : z8 → A) (f2 : Int ⊕ (Int × Int) ⊕ z8 → A) [h0 : VW f0] [h1 : VW f1] [h2 : VW f2] : VW (zb f0 f1 f2) := ⟨fun x => by simp [zb, A.isD, A.areD, h0.isD, h1.isD, h2.isD]⟩
instance (f0 : List Int → A) (f1 : z8 → A) (f2 : Int ⊕ (Int × Int) ⊕ z8 → A) (g0 : List Int → A) (g1 : z8 → A) (g2 : Int ⊕ (Int × Int) ⊕ z8 → A) [h0 : Jv f0 g0] [h1 : Jv f1 g1] [h2 : Jv f2 g2] : Jv (zb f0 f1 f2) (zb g0 g1 g2) := ⟨fun x => by simp [zb, A.live, A.lives, h0.live, h1.live, h2.live], fun x => by simp [zb, A.shut, A.shuts, h0.sh, h1.sh, h2.sh]⟩
structure y3 where
 States : x6 Int
 Edges : x6 Int
 Pairs : x6 Int
def x4 (f0 : x6 Int → A) (f1 : x6 Int → A) (f2 : x6 Int → A) (x : y3) : A := .agg [f0 x.States, f1 x.Edges, f2 x.Pairs]
instance (f0 : x6 Int → A) (f1 : x6 Int → A) (f2 : x6 Int → A) (g0 : x6 Int → A) (g1 : x6 Int → A) (g2 : x6 Int → A) [h0 : Y3 f0 g0] [h1 : Y3 f1 g1] [h2 : Y3 f2 g2] : Y3 (x4 f0 f1 f2) (x4 g0 g1 g2) := ⟨fun x => by simp [x4, A.loose, A.looses, h0.lo, h1.lo, h2.lo]⟩
instance (f0 : x6 Int → A) (f1 : x6 Int → A) (f2 : x6 Int → A) [h0 : uW f0] [h1 : uW f1] [h2 : uW f2] : uW (x4 f0 f1 f2) := ⟨fun x y h => by
 simp only [x4, A.agg.injEq, List.cons.injEq, and_true] at h
 cases x; cases y
 simp only [y3.mk.injEq]
 exact ⟨h0.inj _ _ h.1, h1.inj _ _ h.2.1, h2.inj _ _ h.2.2⟩⟩
structure zy where
 sets_ : List (List Int)
 want_ : List Int
def yP (f0 : List (List Int) → A) (f1 : List Int → A) (x : zy) : A := .agg [f0 x.sets_, f1 x.want_]
instance (f0 : List (List Int) → A) (f1 : List Int → A) (g0 : List (List Int) → A) (g1 : List Int → A) [h0 : Y3 f0 g0] [h1 : Y3 f1 g1] : Y3 (yP f0 f1) (yP g0 g1) := ⟨fun x => by simp [yP, A.loose, A.looses, h0.lo, h1.lo]⟩
instance (f0 : List (List Int) → A) (f1 : List Int → A) [h0 : uW f0] [h1 : uW f1] : uW (yP f0 f1) := ⟨fun x y h => by
 simp only [yP, A.agg.injEq, List.cons.injEq, and_true] at h
 cases x; cases y
 simp only [zy.mk.injEq]
 exact ⟨h0.inj _ _ h.1, h1.inj _ _ h.2⟩⟩
instance : zdu (K := x6 Int) (WQ (eI .i64)) := ⟨fun x y => by
 obtain ⟨_, _⟩ := x
 obtain ⟨_, _⟩ := y
 simp only [WQ, eI, Wv, UH, UH.keyLs, zL, BEq.beq, Option.map_some, Option.some.injEq, Value.agg.injEq, List.cons_append, List.nil_append, List.append_nil, Array.mk.injEq, List.cons.injEq, Value.int.injEq, true_and, and_true, Bool.and_eq_true, decide_eq_true_eq, and_assoc]⟩
instance : zdu (K := z8) (zX (eI .i64) (eI .i64) (eI .i64)) := ⟨fun x y => by
 obtain ⟨_, _, _⟩ := x
 obtain ⟨_, _, _⟩ := y
 simp only [zX, eI, Wv, UH, UH.keyLs, zL, BEq.beq, Option.map_some, Option.some.injEq, Value.agg.injEq, List.cons_append, List.nil_append, List.append_nil, Array.mk.injEq, List.cons.injEq, Value.int.injEq, true_and, and_true, Bool.and_eq_true, decide_eq_true_eq, and_assoc]⟩
def zbv : Int ⊕ (Int × Int) ⊕ z8 → Nat
 | (.inl _) => 45
 | (.inr (.inl _)) => 46
 | (.inr (.inr _)) => 47
def zbZ : Int ⊕ (Int × Int) ⊕ z8 → List A
 | (.inl c) => [.sptr (I c)]
 | (.inr (.inl c)) => [.sptr (I c.1), .sptr (I c.2)]
 | (.inr (.inr c)) => [.sptr (.agg [I c.State, I c.Input, I c.Next])]
def zC (x : Int ⊕ (Int × Int) ⊕ z8) : A := .fn (zbv x) (zbZ x)
instance : VW zC := ⟨fun _ => rfl⟩
instance : Jv zC zC := ⟨fun _ => rfl, fun _ => rfl⟩
def ka (x_ : yd) (fe : List (List zc)) : Option z7 :=
 some (z7.mk (w64 (1 + (w64 (Int.tmod x_.Inputs 3)))) (w64 (1 + (w64 (Int.tmod x_.Outputs 3)))) fe)
def k9 (s_ : Int) (ew : List (List zc)) : Option (LR (List (List zc) × Int) (List (List zc))) :=
 some (.next (ew, w64 (s_ + 1)))
def k8 (a7 : List (List zc)) (s_ : Int) (row : List zc) : Option (LR (List (List zc) × Int) (List (List zc))) :=
 gd (a7.length + ([row] : List (List zc)).length ≤ 4294967296) <|
 k9 s_ (a7 ++ ([row] : List (List zc)))
def qj (i_ : Int) (gf : List zc) : Option (LR (List zc × Int) (List zc)) :=
 some (.next (gf, w64 (i_ + 1)))
def vt (x_ : yd) (bz : List zc) (i_ : Int) (v_ : Int) : Option (LR (List zc × Int) (List zc)) :=
 bif x_.Partial then (
  gd ((4 : Int) ≠ 0) <|
  bif (Int.tmod v_ 4) == 3 then (
   gd (bz.length + ([(zc.mk (-1) (-1))] : List zc).length ≤ 4294967296) <|
   qj i_ (bz ++ ([(zc.mk (-1) (-1))] : List zc)))
  else (
   gd ((4 : Int) ≠ 0) <|
   gd (((w64 (1 + (w64 (Int.tmod x_.States 6)))) : Int) ≠ 0) <|
   gd ((4 : Int) ≠ 0) <|
   gd (((w64 (1 + (w64 (Int.tmod x_.States 6)))) : Int) ≠ 0) <|
   gd (((w64 (1 + (w64 (Int.tmod x_.Outputs 3)))) : Int) ≠ 0) <|
   gd (bz.length + ([(zc.mk (Int.tmod (w64 (Int.tdiv v_ 4)) (w64 (1 + (w64 (Int.tmod x_.States 6))))) (Int.tmod (w64 (Int.tdiv (w64 (Int.tdiv v_ 4)) (w64 (1 + (w64 (Int.tmod x_.States 6)))))) (w64 (1 + (w64 (Int.tmod x_.Outputs 3))))))] : List zc).length ≤ 4294967296) <|
   qj i_ (bz ++ ([(zc.mk (Int.tmod (w64 (Int.tdiv v_ 4)) (w64 (1 + (w64 (Int.tmod x_.States 6))))) (Int.tmod (w64 (Int.tdiv (w64 (Int.tdiv v_ 4)) (w64 (1 + (w64 (Int.tmod x_.States 6)))))) (w64 (1 + (w64 (Int.tmod x_.Outputs 3))))))] : List zc))))
 else (
  gd ((4 : Int) ≠ 0) <|
  gd (((w64 (1 + (w64 (Int.tmod x_.States 6)))) : Int) ≠ 0) <|
  gd ((4 : Int) ≠ 0) <|
  gd (((w64 (1 + (w64 (Int.tmod x_.States 6)))) : Int) ≠ 0) <|
  gd (((w64 (1 + (w64 (Int.tmod x_.Outputs 3)))) : Int) ≠ 0) <|
  gd (bz.length + ([(zc.mk (Int.tmod (w64 (Int.tdiv v_ 4)) (w64 (1 + (w64 (Int.tmod x_.States 6))))) (Int.tmod (w64 (Int.tdiv (w64 (Int.tdiv v_ 4)) (w64 (1 + (w64 (Int.tmod x_.States 6)))))) (w64 (1 + (w64 (Int.tmod x_.Outputs 3))))))] : List zc).length ≤ 4294967296) <|
  qj i_ (bz ++ ([(zc.mk (Int.tmod (w64 (Int.tdiv v_ 4)) (w64 (1 + (w64 (Int.tmod x_.States 6))))) (Int.tmod (w64 (Int.tdiv (w64 (Int.tdiv v_ 4)) (w64 (1 + (w64 (Int.tmod x_.States 6)))))) (w64 (1 + (w64 (Int.tmod x_.Outputs 3))))))] : List zc)))
def qg (x_ : yd) (s_ : Int) (bz : List zc) (i_ : Int) : Option (LR (List zc × Int) (List zc)) :=
 bif decide (i_ < (w64 (1 + (w64 (Int.tmod x_.Inputs 3))))) then (
  bif decide ((w64 ((w64 (s_ * (w64 (1 + (w64 (Int.tmod x_.Inputs 3)))))) + i_)) < ((x_.Edges.length : Nat) : Int)) then (
   (idx x_.Edges (w64 ((w64 (s_ * (w64 (1 + (w64 (Int.tmod x_.Inputs 3)))))) + i_))).bind fun gg =>
   vt x_ bz i_ (w64 (gg)))
  else (
   vt x_ bz i_ 0))
 else (
  some (.done bz))
def k7 (x_ : yd) (a7 : List (List zc)) (s_ : Int) : Option (LR (List (List zc) × Int) (List (List zc))) :=
 bif decide (s_ < (w64 (1 + (w64 (Int.tmod x_.States 6))))) then (
  (loop (fun s => qg x_ s_ s.1 s.2) (([] : List zc), 0)).bind fun t5 =>
  k8 a7 s_ t5)
 else (
  some (.done a7))
def ZU (x_ : yd) : Option z7 :=
 gd ((6 : Int) ≠ 0) <|
 gd ((3 : Int) ≠ 0) <|
 gd ((3 : Int) ≠ 0) <|
 (loop (fun s => k7 x_ s.1 s.2) (([] : List (List zc)), 0)).bind fun t2 =>
 ka x_ t2
def jZ (out : List Int) : Option (List Int) :=
 some out
def jY (w_ : List Int) (inputs : Int) (most : Int) (aj : List Int) (k_ : Int) : Option (LR (List Int × Int) (List Int)) :=
 bif decide (k_ < ((w_.length : Nat) : Int)) then (
  bif decide (k_ < most) then (
   (idx w_ k_).bind fun bi =>
   gd ((inputs : Int) ≠ 0) <|
   gd (aj.length + ([Int.tmod (w64 (bi)) inputs] : List Int).length ≤ 4294967296) <|
   some (.next ((aj ++ ([Int.tmod (w64 (bi)) inputs] : List Int)), w64 (k_ + 1))))
  else (
   some (.done aj)))
 else (
  some (.done aj))
def ZT (w_ : List Int) (inputs : Int) (most : Int) : Option (List Int) :=
 (loop (fun s => jY w_ inputs most s.1 s.2) (([] : List Int), 0)).bind fun t2 =>
 jZ t2
def jD : Option Int :=
 some 0
def vC (a_ : List Int) (b_ : List Int) (i_ : Int) : Option (LR Int (Unit ⊕ Int)) :=
 bif decide (i_ < ((a_.length : Nat) : Int)) then (
  (idx a_ i_).bind fun fm =>
  (idx b_ i_).bind fun fp =>
  bif decide (fm < fp) then (
   some (.done (.inr (-1))))
  else (
   (idx a_ i_).bind fun ia =>
   (idx b_ i_).bind fun ib =>
   bif decide (ia > ib) then (
    some (.done (.inr 1)))
   else (
    some (.next (w64 (i_ + 1))))))
 else (
  some (.done (.inl ())))
def vp (a_ : List Int) (b_ : List Int) : Option Int :=
 bif ((a_.length : Nat) : Int) != ((b_.length : Nat) : Int) then (
  bif decide (((a_.length : Nat) : Int) < ((b_.length : Nat) : Int)) then (
   some (-1))
  else (
   some 1))
 else (
  (loop (fun s => vC a_ b_ s) 0).bind fun t2 =>
  match t2 with
  | .inl p => jD
  | .inr p => some p)
def Zh (w_ : List Int) (cj : Int) (bj : List (List Int)) : Option (List (List Int)) :=
 gd (([] : List Int).length + w_.length ≤ 4294967296) <|
 (idx bj cj).bind fun ba =>
 some (bj.set cj.toNat w_)
def jl (cj : Int) (dw : List (List Int)) (i_ : Int) : Option (LR (List (List Int) × Int) (List (List Int))) :=
 bif decide (i_ > cj) then (
  (idx dw (w64 (i_ - 1))).bind fun cg =>
  (idx dw i_).bind fun ik =>
  some (.next ((dw.set i_.toNat cg), w64 (i_ - 1))))
 else (
  some (.done dw))
def uQ (l_ : List (List Int)) (w_ : List Int) (cj : Int) : Option (List (List Int)) :=
 gd (l_.length + ([[]] : List (List Int)).length ≤ 4294967296) <|
 (loop (fun s => jl cj s.1 s.2) ((l_ ++ ([[]] : List (List Int))), w64 ((((l_ ++ ([[]] : List (List Int))).length : Nat) : Int) - 1))).bind fun t4 =>
 Zh w_ cj t4
def Zi (l_ : List (List Int)) (w_ : List Int) (cj : Int) : Option (List (List Int)) :=
 bif decide (cj < ((l_.length : Nat) : Int)) then (
  (idx l_ cj).bind fun fy =>
  (vp fy w_).bind fun r_ =>
  bif r_ == 0 then (
   some l_)
  else (
   uQ l_ w_ cj))
 else (
  uQ l_ w_ cj)
def jk (l_ : List (List Int)) (w_ : List Int) (dr : Int) (dz : Int) : Option (LR (Int × Int) Int) :=
 bif decide (dr < dz) then (
  gd ((2 : Int) ≠ 0) <|
  (idx l_ (w64 (Int.tdiv (w64 (dr + dz)) 2))).bind fun fz =>
  (vp fz w_).bind fun ah =>
  bif decide (ah < 0) then (
   some (.next (w64 ((w64 (Int.tdiv (w64 (dr + dz)) 2)) + 1), dz)))
  else (
   some (.next (dr, w64 (Int.tdiv (w64 (dr + dz)) 2)))))
 else (
  some (.done dr))
def Xi (l_ : List (List Int)) (w_ : List Int) : Option (List (List Int)) :=
 (loop (fun s => jk l_ w_ s.1 s.2) (0, ((l_.length : Nat) : Int))).bind fun t5 =>
 Zi l_ w_ t5
def Yk (out : List (List Int)) : Option (List (List Int)) :=
 some out
def wI (l_ : List (List Int)) (aj : List (List Int)) (i_ : Int) : Option (LR (List (List Int) × Int) (List (List Int))) :=
 bif decide (i_ < ((l_.length : Nat) : Int)) then (
  (idx l_ i_).bind fun ba =>
  (Xi aj ba).bind fun r_ =>
  some (.next (r_, w64 (i_ + 1))))
 else (
  some (.done aj))
def kh (l_ : List (List Int)) : Option (List (List Int)) :=
 (loop (fun s => wI l_ s.1 s.2) (([] : List (List Int)), 0)).bind fun t2 =>
 Yk t2
def jX (r_ : z7) (l_ : List (List Int)) : Option (z7 × List (List Int)) :=
 (kh l_).bind fun ah =>
 some (r_, ah)
def jW (x_ : wo) (r_ : z7) (bj : List (List Int)) (i_ : Int) : Option (LR (List (List Int) × Int) (List (List Int))) :=
 bif decide (i_ < ((x_.L.length : Nat) : Int)) then (
  bif decide (i_ < 12) then (
   (idx x_.L i_).bind fun ic =>
   (ZT ic r_.Inputs 8).bind fun al =>
   gd (bj.length + ([al] : List (List Int)).length ≤ 4294967296) <|
   some (.next ((bj ++ ([al] : List (List Int))), w64 (i_ + 1))))
  else (
   some (.done bj)))
 else (
  some (.done bj))
def ZS (x_ : wo) : Option (z7 × List (List Int)) :=
 (ZU x_.M).bind fun r_ =>
 (loop (fun s => jW x_ r_ s.1 s.2) (([] : List (List Int)), 0)).bind fun t2 =>
 jX r_ t2
def jV : Option zc :=
 some (zc.mk (-1) (-1))
def qe (m_ : z7) (x_ : zc) : Option Bool :=
 (jV).bind fun r_ =>
 bif (x_.To == r_.To) && ((x_.Out == r_.Out) && true) then (
  some true)
 else (
  bif decide (x_.To ≥ 0) then (
   bif decide (x_.To < ((m_.Rows.length : Nat) : Int)) then (
    bif decide (x_.Out ≥ 0) then (
     some (decide (x_.Out < m_.Outputs)))
    else (
     some false))
   else (
    some false))
  else (
   some false))
def uu (x_ : zc) (x1 : z7) : Option Bool :=
 (qe x1 x_).bind fun r_ =>
 some (!r_)
def yp : Option Int :=
 some (-1)
def zM (s_ : List zc) (f_ : z7) (x8 : Int) : Option (LR Int (Unit ⊕ Int)) :=
 bif decide (x8 < ((s_.length : Nat) : Int)) then (
  (idx s_ x8).bind fun dh =>
  (uu dh f_).bind fun r_ =>
  bif r_ then (
   some (.done (.inr x8)))
  else (
   some (.next (w64 (x8 + 1)))))
 else (
  some (.done (.inl ())))
def ye (s_ : List zc) (f_ : z7) : Option Int :=
 (loop (fun s => zM s_ f_ s) 0).bind fun t2 =>
 match t2 with
 | .inl p => yp
 | .inr p => some p
def zU (s_ : List zc) (f_ : z7) : Option Bool :=
 (ye s_ f_).bind fun r_ =>
 some (decide (r_ ≥ 0))
def qW : Option Int :=
 some 0
def w6 (m_ : z7) (gh : Int) : Option (LR Int (Unit ⊕ Int)) :=
 bif decide (gh < ((m_.Rows.length : Nat) : Int)) then (
  (idx m_.Rows gh).bind fun ar =>
  bif ((ar.length : Nat) : Int) != m_.Inputs then (
   some (.done (.inr 1)))
  else (
   (zU ar m_).bind fun r_ =>
   bif r_ then (
    some (.done (.inr 1)))
   else (
    some (.next (w64 (gh + 1))))))
 else (
  some (.done (.inl ())))
def vG (m_ : z7) : Option Int :=
 bif decide (m_.Inputs > 16) then (
  some 3)
 else (
  bif decide (m_.Outputs > 16) then (
   some 3)
  else (
   bif decide (((m_.Rows.length : Nat) : Int) > 64) then (
    some 3)
   else (
    bif decide (m_.Inputs < 1) then (
     some 1)
    else (
     bif decide (m_.Outputs < 1) then (
      some 1)
     else (
      bif decide (((m_.Rows.length : Nat) : Int) < 1) then (
       some 1)
      else (
       (loop (fun s => w6 m_ s) 0).bind fun t2 =>
       match t2 with
       | .inl p => qW
       | .inr p => some p))))))
def jN (c_ : Int) (x1 : Int) : Option Bool :=
 bif decide (c_ < 0) then (
  some true)
 else (
  some (decide (c_ ≥ x1)))
def wb : Option Int :=
 some (-1)
def y8 (s_ : List Int) (f_ : Int) (x8 : Int) : Option (LR Int (Unit ⊕ Int)) :=
 bif decide (x8 < ((s_.length : Nat) : Int)) then (
  (idx s_ x8).bind fun dh =>
  (jN dh f_).bind fun r_ =>
  bif r_ then (
   some (.done (.inr x8)))
  else (
   some (.next (w64 (x8 + 1)))))
 else (
  some (.done (.inl ())))
def xM (s_ : List Int) (f_ : Int) : Option Int :=
 (loop (fun s => y8 s_ f_ s) 0).bind fun t2 =>
 match t2 with
 | .inl p => wb
 | .inr p => some p
def yU (s_ : List Int) (f_ : Int) : Option Bool :=
 (xM s_ f_).bind fun r_ =>
 some (decide (r_ ≥ 0))
def qL (w_ : List Int) (inputs : Int) : Option Int :=
 bif decide (inputs > 16) then (
  some 3)
 else (
  bif decide (((w_.length : Nat) : Int) > 256) then (
   some 3)
  else (
   bif decide (inputs < 1) then (
    some 1)
   else (
    (yU w_ inputs).bind fun r_ =>
    bif r_ then (
     some 1)
    else (
     some 0))))
def Zn : Option Int :=
 some 0
def vE (l_ : List (List Int)) (inputs : Int) (gi : Int) : Option (LR Int (Unit ⊕ Int)) :=
 bif decide (gi < ((l_.length : Nat) : Int)) then (
  (idx l_ gi).bind fun ba =>
  (qL ba inputs).bind fun r_ =>
  bif r_ != 0 then (
   some (.done (.inr r_)))
  else (
   some (.next (w64 (gi + 1)))))
 else (
  some (.done (.inl ())))
def qO (l_ : List (List Int)) (inputs : Int) : Option Int :=
 bif decide (inputs > 16) then (
  some 3)
 else (
  bif decide (((l_.length : Nat) : Int) > 4096) then (
   some 3)
  else (
   bif decide (inputs < 1) then (
    some 1)
   else (
    (loop (fun s => vE l_ inputs s) 0).bind fun t2 =>
    match t2 with
    | .inl p => Zn
    | .inr p => some p)))
def qp (x_ : Int) : Option Bool :=
 some (x_ != x_)
def va (x_ : Int) (y_ : Int) : Option Int :=
 (qp x_).bind fun r_ =>
 (qp y_).bind fun ah =>
 bif r_ then (
  bif ah then (
   some 0)
  else (
   some (-1)))
 else (
  bif ah then (
   some 1)
  else (
   bif decide (x_ < y_) then (
    some (-1))
   else (
    bif decide (x_ > y_) then (
     some 1)
    else (
     some 0))))
def xv (s1 : List Int) (s2 : List Int) : Option Int :=
 bif decide (((s1.length : Nat) : Int) < ((s2.length : Nat) : Int)) then (
  some (-1))
 else (
  some 0)
def yf (s1 : List Int) (s2 : List Int) (dt : Int) : Option (LR Int (Unit ⊕ Int)) :=
 bif decide (dt < ((s1.length : Nat) : Int)) then (
  (idx s1 dt).bind fun gj =>
  bif decide (dt ≥ ((s2.length : Nat) : Int)) then (
   some (.done (.inr 1)))
  else (
   (idx s2 dt).bind fun fq =>
   (va gj fq).bind fun r_ =>
   bif r_ != 0 then (
    some (.done (.inr r_)))
   else (
    some (.next (w64 (dt + 1))))))
 else (
  some (.done (.inl ())))
def xh (s1 : List Int) (s2 : List Int) : Option Int :=
 (loop (fun s => yf s1 s2 s) 0).bind fun t2 =>
 match t2 with
 | .inl p => xv s1 s2
 | .inr p => some p
def kb : Option Int :=
 some 0
def u9 (vals : List Int) (x8 : Int) : Option (LR Int (Unit ⊕ Int)) :=
 bif decide (x8 < ((vals.length : Nat) : Int)) then (
  (idx vals x8).bind fun gt =>
  bif gt != 0 then (
   some (.done (.inr gt)))
  else (
   some (.next (w64 (x8 + 1)))))
 else (
  some (.done (.inl ())))
def ZY (vals : List Int) : Option Int :=
 (loop (fun s => u9 vals s) 0).bind fun t2 =>
 match t2 with
 | .inl p => kb
 | .inr p => some p
def ve (a_ : List Int) (b_ : List Int) : Option Int :=
 (va ((a_.length : Nat) : Int) ((b_.length : Nat) : Int)).bind fun r_ =>
 (xh a_ b_).bind fun ah =>
 (ZY ([r_, ah])).bind fun al =>
 some al
def jb : Option Bool :=
 some true
def vF (l_ : List (List Int)) (i_ : Int) : Option (LR Int (Unit ⊕ Bool)) :=
 bif decide (i_ < ((l_.length : Nat) : Int)) then (
  (idx l_ (w64 (i_ - 1))).bind fun ba =>
  (idx l_ i_).bind fun cg =>
  (ve ba cg).bind fun r_ =>
  bif decide (r_ ≥ 0) then (
   some (.done (.inr false)))
  else (
   some (.next (w64 (i_ + 1)))))
 else (
  some (.done (.inl ())))
def kq (l_ : List (List Int)) : Option Bool :=
 (loop (fun s => vF l_ s) 1).bind fun t2 =>
 match t2 with
 | .inl p => jb
 | .inr p => some p
def Zm (n_ : Int) : Option Int :=
 some n_
def vD (l_ : List (List Int)) (dn : Int) (x7 : Int) : Option (LR (Int × Int) Int) :=
 bif decide (x7 < ((l_.length : Nat) : Int)) then (
  (idx l_ x7).bind fun ba =>
  some (.next (w64 (dn + ((ba.length : Nat) : Int)), w64 (x7 + 1))))
 else (
  some (.done dn))
def qN (l_ : List (List Int)) : Option Int :=
 (loop (fun s => vD l_ s.1 s.2) (0, 0)).bind fun t2 =>
 Zm t2
def kr (l_ : List (List Int)) (inputs : Int) : Option Int :=
 (qO l_ inputs).bind fun r_ =>
 bif r_ != 0 then (
  some r_)
 else (
  (kq l_).bind fun ah =>
  bif !ah then (
   some 1)
  else (
   (qN l_).bind fun al =>
   bif decide (al > 65536) then (
    some 3)
   else (
    some 0)))
def xI (m_ : z7) (l_ : List (List Int)) : Option Int :=
 (vG m_).bind fun r_ =>
 bif r_ != 0 then (
  some r_)
 else (
  (kr l_ m_.Inputs).bind fun ah =>
  some ah)
def um : Option zg :=
 some (zg.mk (UE ([] : List (Int × Bool)) 0 true) ([] : List ((x6 Int) × Bool)) ([] : List (z8 × Bool)))
def yC (ak : List (Int × Bool)) (am : List ((x6 Int) × Bool)) (db : Int) (d0 : Int) (bi : Int) (av : zc) (a9 : List (z8 × Bool)) : Option (LR ((List (Int × Bool)) × (List ((x6 Int) × Bool)) × (List (z8 × Bool)) × Int × Int × Int × Int) zg) :=
 some (.next ((UE ak av.To true), (UE am (x6.mk db bi) true), a9, av.To, db, bi, w64 (d0 + 1)))
def xi (m_ : z7) (w_ : List Int) (ak : List (Int × Bool)) (am : List ((x6 Int) × Bool)) (aq : List (z8 × Bool)) (db : Int) (bf : Int) (bk : Int) (d0 : Int) : Option (LR ((List (Int × Bool)) × (List ((x6 Int) × Bool)) × (List (z8 × Bool)) × Int × Int × Int × Int) zg) :=
 bif decide (d0 < ((w_.length : Nat) : Int)) then (
  (idx w_ d0).bind fun bi =>
  (idx m_.Rows db).bind fun ar =>
  (idx ar bi).bind fun av =>
  bif av.To == (-1) then (
   some (.done (zg.mk ak am aq)))
  else (
   bif bf != (-1) then (
    yC ak am db d0 bi av (UE aq (z8.mk bf bk bi) true))
   else (
    yC ak am db d0 bi av aq)))
 else (
  some (.done (zg.mk ak am aq)))
def xo (m_ : z7) (w_ : List Int) (x_ : zg) : Option zg :=
 (loop (fun s => xi m_ w_ s.1 s.2.1 s.2.2.1 s.2.2.2.1 s.2.2.2.2.1 s.2.2.2.2.2.1 s.2.2.2.2.2.2) (x_.states_, x_.edges_, x_.pairs_, 0, (-1), (-1), 0)).bind fun t1 =>
 some t1
def uf (ak : List (Int × Bool)) (am : List ((x6 Int) × Bool)) (aq : List (z8 × Bool)) : Option zg :=
 some (zg.mk ak am aq)
def x5 (m_ : z7) (l_ : List (List Int)) (bh : List (Int × Bool)) (bo : List ((x6 Int) × Bool)) (a9 : List (z8 × Bool)) (dt : Int) : Option (LR ((List (Int × Bool)) × (List ((x6 Int) × Bool)) × (List (z8 × Bool)) × Int) (((List (Int × Bool)) × (List ((x6 Int) × Bool)) × (List (z8 × Bool))))) :=
 bif decide (dt < ((l_.length : Nat) : Int)) then (
  (idx l_ dt).bind fun ba =>
  (xo m_ ba (zg.mk bh bo a9)).bind fun ah =>
  some (.next (ah.states_, ah.edges_, ah.pairs_, w64 (dt + 1))))
 else (
  some (.done (bh, bo, a9)))
def ym (m_ : z7) (l_ : List (List Int)) : Option zg :=
 (um).bind fun r_ =>
 (loop (fun s => x5 m_ l_ s.1 s.2.1 s.2.2.1 s.2.2.2) (r_.states_, r_.edges_, r_.pairs_, 0)).bind fun t2 =>
 uf t2.1 t2.2.1 t2.2.2
def xH (goal : Int) (x_ : zg) : Option Int :=
 (idx ([((x_.states_.length : Nat) : Int), ((x_.edges_.length : Nat) : Int), ((x_.pairs_.length : Nat) : Int)] : List Int) goal).bind fun cell =>
 some cell
def j9 (m_ : z7) (from_ : Int) : Option (z7 × Int) :=
 some (m_, from_)
variable {σ : Type}
def yk (cr : Int) (ft : List Bool) (ff : List zh) : Option (LR (List Bool × List zh × Int) ((σ × List Bool × List zh))) :=
 some (.next (ft, ff, w64 (cr + 1)))
def xm (ay : zh) (yr : σ × Bool) (ar : List zc) (cp : List Bool) (bt : List zh) (cr : Int) : Option (LR (List Bool × List zh × Int) ((σ × List Bool × List zh))) :=
 bif decide (cr < ((ar.length : Nat) : Int)) then (
  (idx ar cr).bind fun av =>
  bif av.To != (-1) then (
   (idx cp av.To).bind fun gv =>
   bif !gv then (
    (idx cp av.To).bind fun ig =>
    gd (bt.length + ([(zh.mk av.To ay.state_ cr)] : List zh).length ≤ 4294967296) <|
    yk cr (cp.set av.To.toNat true) (bt ++ ([(zh.mk av.To ay.state_ cr)] : List zh)))
   else (
    yk cr cp bt))
  else (
   yk cr cp bt))
 else (
  some (.done (yr.1, cp, bt)))
def w7 (x0 : z7) (yy : σ → zh → Option (σ × Bool)) (fc : σ) (fg : List Bool) (bg : List zh) : Option (LR (σ × List Bool × List zh) σ) :=
 bif decide (((bg.length : Nat) : Int) > 0) then (
  (idx bg 0).bind fun ay =>
  gd ((0 : Int) ≤ 1 ∧ (1 : Int) ≤ ((bg.length : Nat) : Int)) <|
  (yy fc ay).bind fun yr =>
  bif !yr.2 then (
   some (.done yr.1))
  else (
   (idx x0.Rows ay.state_).bind fun ar =>
   (loop (fun s => xm ay yr ar s.1 s.2.1 s.2.2) (fg, (bg.drop (1 : Int).toNat), 0)).bind fun t2 =>
   some (.next t2)))
 else (
  some (.done fc))
def vz (x0 : z7) (x1 : Int) {σ : Type} (yy : σ → zh → Option (σ × Bool)) (sg : σ) : Option σ :=
 gd ((0 : Int) ≤ ((x0.Rows.length : Nat) : Int) ∧ (((x0.Rows.length : Nat) : Int) : Int) ≤ 4294967296) <|
 (idx (List.replicate ((x0.Rows.length : Nat) : Int).toNat false) x1).bind fun io =>
 (loop (fun s => w7 x0 yy s.1 s.2.1 s.2.2) (sg, ((List.replicate ((x0.Rows.length : Nat) : Int).toNat false).set x1.toNat true), ([(zh.mk x1 (-1) (-1))] : List zh))).bind fun t1 =>
 some t1
def zQ (s_ : List Int) : Option (List Int) :=
 gd (([] : List Int).length + s_.length ≤ 4294967296) <|
 some s_
def zY (s_ : List Int) : Option (List Int) :=
 gd ((0 : Int) ≤ 0 ∧ (0 : Int) ≤ ((s_.length : Nat) : Int) ∧ (((s_.length : Nat) : Int) : Int) ≤ ((s_.length : Nat) : Int) ∧ (((s_.length : Nat) : Int) : Int) ≤ ((s_.length : Nat) : Int)) <|
 some ((s_.drop 0).take (((s_.length : Nat) : Int).toNat - 0))
def j8 (l_ : List (List Int)) (is : List Bool) : Option (List (List Int) × List Bool) :=
 some (l_, is)
def xu (bj : List (List Int)) (cb : List Bool) (br : zh) : Option (LR (List (List Int) × List Bool) Empty) :=
 (idx cb br.state_).bind fun gu =>
 bif br.from_ != (-1) then (
  (idx bj br.from_).bind fun ba =>
  (zQ ba).bind fun ah =>
  gd (ah.length + ([br.input_] : List Int).length ≤ 4294967296) <|
  (zY (ah ++ ([br.input_] : List Int))).bind fun al =>
  (idx bj br.state_).bind fun cg =>
  some (.next ((bj.set br.state_.toNat al), (cb.set br.state_.toNat true))))
 else (
  some (.next (bj, (cb.set br.state_.toNat true))))
def km (m_ : z7) (from_ : Int) : Option (List (List Int) × List Bool) :=
 gd ((0 : Int) ≤ ((m_.Rows.length : Nat) : Int) ∧ (((m_.Rows.length : Nat) : Int) : Int) ≤ 4294967296) <|
 gd ((0 : Int) ≤ ((m_.Rows.length : Nat) : Int) ∧ (((m_.Rows.length : Nat) : Int) : Int) ≤ 4294967296) <|
 (j9 m_ from_).bind fun r_ =>
 (vz r_.1 r_.2 (yOf (fun s x => xu s.1 s.2 x)) (.next ((List.replicate ((m_.Rows.length : Nat) : Int).toNat ([] : List Int)), (List.replicate ((m_.Rows.length : Nat) : Int).toNat false)))).bind fun t2 =>
 match t2 with
 | .next (bj, cb) => (
  j8 bj cb)
 | .done z => nomatch z
def ji (m_ : z7) : Option (List (List Int) × List Bool × Int) :=
 (vG m_).bind fun r_ =>
 bif r_ != 0 then (
  some (([] : List (List Int)), ([] : List Bool), r_))
 else (
  (km m_ 0).bind fun ah =>
  some (ah.1, ah.2, 0))
def uz (out : List za) : Option (List za) :=
 some out
def xa (au : Int) (bc : List za) : Option (LR (List za × Int) (List za)) :=
 some (.next (bc, w64 (au + 1)))
def x9 (a6 : Int) (dg : List za) : Option (LR (List za × Int) (List za)) :=
 some (.next (dg, w64 (a6 + 1)))
def wF (bu : Int) (gk : List za) : Option (LR (List za × Int) (List za)) :=
 some (.next (gk, w64 (bu + 1)))
def wB (au : Int) (a6 : Int) (al : List Int) (ca : List zc) (dv : List za) (bu : Int) : Option (LR (List za × Int) (List za)) :=
 bif decide (bu < ((ca.length : Nat) : Int)) then (
  (idx ca bu).bind fun gl =>
  bif gl.To != (-1) then (
   (zQ (al ++ ([a6] : List Int))).bind fun ap =>
   (zY ap).bind fun aw =>
   gd (aw.length + ([bu] : List Int).length ≤ 4294967296) <|
   gd (dv.length + ([(za.mk (aw ++ ([bu] : List Int)) (z8.mk au a6 bu) (.inr (.inr (z8.mk au a6 bu))))] : List za).length ≤ 4294967296) <|
   wF bu (dv ++ ([(za.mk (aw ++ ([bu] : List Int)) (z8.mk au a6 bu) (.inr (.inr (z8.mk au a6 bu))))] : List za)))
  else (
   wF bu dv))
 else (
  some (.done dv))
def wC (m_ : z7) (goal : Int) (r_ : List (List Int) × List Bool × Int) (au : Int) (ar : List zc) (cm : List za) (a6 : Int) : Option (LR (List za × Int) (List za)) :=
 bif decide (a6 < ((ar.length : Nat) : Int)) then (
  (idx ar a6).bind fun av =>
  bif av.To == (-1) then (
   x9 a6 cm)
  else (
   (idx r_.1 au).bind fun ie =>
   (zQ ie).bind fun ah =>
   (zY ah).bind fun al =>
   gd (al.length + ([a6] : List Int).length ≤ 4294967296) <|
   bif goal == 1 then (
    gd (cm.length + ([(za.mk (al ++ ([a6] : List Int)) (z8.mk au a6 0) (.inr (.inl (au, a6))))] : List za).length ≤ 4294967296) <|
    x9 a6 (cm ++ ([(za.mk (al ++ ([a6] : List Int)) (z8.mk au a6 0) (.inr (.inl (au, a6))))] : List za)))
   else (
    (idx m_.Rows av.To).bind fun ca =>
    (loop (fun s => wB au a6 al ca s.1 s.2) (cm, 0)).bind fun t6 =>
    x9 a6 t6)))
 else (
  some (.done cm))
def wD (m_ : z7) (goal : Int) (r_ : List (List Int) × List Bool × Int) (aj : List za) (au : Int) : Option (LR (List za × Int) (List za)) :=
 bif decide (au < ((m_.Rows.length : Nat) : Int)) then (
  (idx m_.Rows au).bind fun ar =>
  (idx r_.2.1 au).bind fun u_ =>
  bif !u_ then (
   xa au aj)
  else (
   bif goal == 0 then (
    (idx r_.1 au).bind fun dj =>
    gd (aj.length + ([(za.mk dj (z8.mk au 0 0) (.inl au))] : List za).length ≤ 4294967296) <|
    xa au (aj ++ ([(za.mk dj (z8.mk au 0 0) (.inl au))] : List za)))
   else (
    (loop (fun s => wC m_ goal r_ au ar s.1 s.2) (aj, 0)).bind fun t4 =>
    xa au t4)))
 else (
  some (.done aj))
def wJ (m_ : z7) (goal : Int) : Option (List za) :=
 (ji m_).bind fun r_ =>
 (loop (fun s => wD m_ goal r_ s.1 s.2) (([] : List za), 0)).bind fun t2 =>
 uz t2
def kQ (n_ : Y5 (x6 Int)) : Option (y3 × Int) :=
 some ((y3.mk n_.e0 n_.e1 n_.e2), 0)
def xJ (m_ : z7) (ah : zg) (dn : Y5 (x6 Int)) (br : Int) : Option (LR (Y5 (x6 Int) × Int) (Y5 (x6 Int))) :=
 bif decide (br < 3) then (
  (xH br ah).bind fun al =>
  (wJ m_ br).bind fun ap =>
  (idx (Y5.toL dn) br).bind fun cell =>
  (some (Y5.setI dn br (x6.mk al ((ap.length : Nat) : Int)))).bind fun arr =>
  some (.next (arr, w64 (br + 1))))
 else (
  some (.done dn))
def wK (m_ : z7) (l_ : List (List Int)) : Option (y3 × Int) :=
 (xI m_ l_).bind fun r_ =>
 bif r_ != 0 then (
  some ((y3.mk (x6.mk 0 0) (x6.mk 0 0) (x6.mk 0 0)), r_))
 else (
  (ym m_ l_).bind fun ah =>
  (loop (fun s => xJ m_ ah s.1 s.2) ((Y5.mk (x6.mk 0 0) (x6.mk 0 0) (x6.mk 0 0)), 0)).bind fun t2 =>
  kQ t2)
def ZN (m_ : z7) (s_ : Int) (i_ : Int) : Option zc :=
 bif decide (s_ < 0) then (
  some (zc.mk (-1) (-1)))
 else (
  (idx m_.Rows s_).bind fun ar =>
  (idx ar i_).bind fun av =>
  some av)
def u4 (dl : z7 → Int → (List Int) → Option Int) (m_ : z7) (s_ : Int) (w_ : List Int) : Option Int :=
 bif ((w_.length : Nat) : Int) == 0 then (
  some s_)
 else (
  (idx w_ 0).bind fun bi =>
  (ZN m_ s_ bi).bind fun r_ =>
  gd ((0 : Int) ≤ 1 ∧ (1 : Int) ≤ ((w_.length : Nat) : Int) ∧ (((w_.length : Nat) : Int) : Int) ≤ ((w_.length : Nat) : Int)) <|
  (dl m_ r_.To (w_.drop (1 : Int).toNat)).bind fun ah =>
  some ah)
def qd (fu : Nat) : z7 → Int → (List Int) → Option Int := Nat.rec (motive := fun _ => z7 → Int → (List Int) → Option Int) (fun _ _ _ => none) (fun _ ih => u4 ih) fu
def Yn (m_ : z7) (s_ : Int) (w_ : List Int) : Option Int := qd (w_.length + 1) m_ s_ w_
def qb (out : List Int) : Option (List Int) :=
 gd (out.length + ([0] : List Int).length ≤ 4294967296) <|
 some (out ++ ([0] : List Int))
def q9 (inputs : Int) (aj : List Int) (k_ : Int) : Option (LR (List Int × Int) (List Int ⊕ List Int)) :=
 bif decide (k_ ≥ 0) then (
  (idx aj k_).bind fun da =>
  bif decide ((w64 (da + 1)) < inputs) then (
   (idx aj k_).bind fun d8 =>
   (idx aj k_).bind fun ii =>
   some (.done (.inr (aj.set k_.toNat (w64 (d8 + 1))))))
  else (
   (idx aj k_).bind fun ij =>
   some (.next ((aj.set k_.toNat 0), w64 (k_ - 1)))))
 else (
  some (.done (.inl aj)))
def ki (w_ : List Int) (inputs : Int) : Option (List Int) :=
 gd (([] : List Int).length + w_.length ≤ 4294967296) <|
 (loop (fun s => q9 inputs s.1 s.2) (w_, w64 (((w_.length : Nat) : Int) - 1))).bind fun t2 =>
 match t2 with
 | .inl p => qb p
 | .inr p => some p
def jg (l_ : List (List Int)) (is : List Bool) : Option (List (List Int) × List Bool) :=
 some (l_, is)
def wQ (m_ : z7) (w_ : List Int) (dw : List (List Int)) (gw : List Bool) : Option (LR (List (List Int) × List Bool × List Int) ((List (List Int) × List Bool))) :=
 (ki w_ m_.Inputs).bind fun r_ =>
 some (.next (dw, gw, r_))
def jf (m_ : z7) (from_ : Int) (bj : List (List Int)) (cb : List Bool) (w_ : List Int) : Option (LR (List (List Int) × List Bool × List Int) ((List (List Int) × List Bool))) :=
 bif decide (((w_.length : Nat) : Int) < ((m_.Rows.length : Nat) : Int)) then (
  (Yn m_ from_ w_).bind fun ah =>
  bif decide (ah ≥ 0) then (
   (idx cb ah).bind fun gu =>
   bif !gu then (
    (idx cb ah).bind fun il =>
    (idx bj ah).bind fun ba =>
    wQ m_ w_ (bj.set ah.toNat w_) (cb.set ah.toNat true))
   else (
    wQ m_ w_ bj cb))
  else (
   wQ m_ w_ bj cb))
 else (
  some (.done (bj, cb)))
def kD (m_ : z7) (from_ : Int) : Option (List (List Int) × List Bool) :=
 gd ((0 : Int) ≤ ((m_.Rows.length : Nat) : Int) ∧ (((m_.Rows.length : Nat) : Int) : Int) ≤ 4294967296) <|
 gd ((0 : Int) ≤ ((m_.Rows.length : Nat) : Int) ∧ (((m_.Rows.length : Nat) : Int) : Int) ≤ 4294967296) <|
 (loop (fun s => jf m_ from_ s.1 s.2.1 s.2.2) ((List.replicate ((m_.Rows.length : Nat) : Int).toNat ([] : List Int)), (List.replicate ((m_.Rows.length : Nat) : Int).toNat false), ([] : List Int))).bind fun t2 =>
 jg t2.1 t2.2
def jm (m_ : z7) : Option (List (List Int) × List Bool) :=
 (kD m_ 0).bind fun r_ =>
 some (r_.1, r_.2)
def Xo : Option z7 :=
 some (z7.mk 2 2 ([[(zc.mk 1 0), (zc.mk 0 0)], [(zc.mk 0 1), (zc.mk 1 0)]]))
def kP (x0 : Int) (x_ : zg) : Option Bool :=
 (some ((z6G x_.states_ x0).getD false)).bind fun val =>
 some val
def kO (x0 : Int) (x1 : Int) (x_ : zg) : Option Bool :=
 (some ((z6G x_.edges_ (x6.mk x0 x1)).getD false)).bind fun val =>
 some val
def kN (x0 : z8) (x_ : zg) : Option Bool :=
 (some ((z6G x_.pairs_ x0).getD false)).bind fun val =>
 some val
def KE (f : Int ⊕ (Int × Int) ⊕ z8) (x : zg) : Option Bool :=
 match f with
 | (.inl c) => kP c x
 | (.inr (.inl c)) => kO c.1 c.2 x
 | (.inr (.inr c)) => kN c x
def yh (s_ : List z8) : Option (List z8) :=
 gd ((0 : Int) ≤ 0 ∧ (0 : Int) ≤ ((s_.length : Nat) : Int) ∧ (((s_.length : Nat) : Int) : Int) ≤ ((s_.length : Nat) : Int) ∧ (((s_.length : Nat) : Int) : Int) ≤ ((s_.length : Nat) : Int)) <|
 some ((s_.drop 0).take (((s_.length : Nat) : Int).toNat - 0))
def ue (out : List z8) : Option (List z8 × Int) :=
 (yh out).bind fun al =>
 some (al, 0)
def wW (au : Int) (bc : List z8) : Option (LR (List z8 × Int) (List z8)) :=
 some (.next (bc, w64 (au + 1)))
def ud (ah : zg) (ap : List za) (aj : List z8) (au : Int) : Option (LR (List z8 × Int) (List z8)) :=
 bif decide (au < ((ap.length : Nat) : Int)) then (
  (idx ap au).bind fun bv =>
  (KE bv.has_ ah).bind fun aw =>
  bif !aw then (
   gd (aj.length + ([bv.pair_] : List z8).length ≤ 4294967296) <|
   wW au (aj ++ ([bv.pair_] : List z8)))
  else (
   wW au aj))
 else (
  some (.done aj))
def qY (m_ : z7) (l_ : List (List Int)) (goal : Int) : Option (List z8 × Int) :=
 (xI m_ l_).bind fun r_ =>
 bif r_ != 0 then (
  some (([] : List z8), r_))
 else (
  (ym m_ l_).bind fun ah =>
  (wJ m_ goal).bind fun ap =>
  (loop (fun s => ud ah ap s.1 s.2) (([] : List z8), 0)).bind fun t2 =>
  ue t2)
def qo (r_ : List z8 × Int) (out : List (x6 Int)) : Option (List (x6 Int) × Int) :=
 gd (out.length = ((r_.1.length : Nat) : Int).toNat) <|
 some (out, r_.2)
def qn (r_ : List z8 × Int) (aj : List (x6 Int)) (gm : Int) : Option (LR (List (x6 Int) × Int) (List (x6 Int))) :=
 bif decide (gm < ((r_.1.length : Nat) : Int)) then (
  (idx r_.1 gm).bind fun u_ =>
  gd (aj.length + ([(x6.mk u_.State u_.Input)] : List (x6 Int)).length ≤ ((r_.1.length : Nat) : Int).toNat) <|
  some (.next ((aj ++ ([(x6.mk u_.State u_.Input)] : List (x6 Int))), w64 (gm + 1))))
 else (
  some (.done aj))
def kR (m_ : z7) (l_ : List (List Int)) : Option (List (x6 Int) × Int) :=
 (qY m_ l_ 1).bind fun r_ =>
 gd ((0 : Int) ≤ ((r_.1.length : Nat) : Int) ∧ (((r_.1.length : Nat) : Int) : Int) ≤ 4294967296) <|
 (loop (fun s => qn r_ s.1 s.2) (([] : List (x6 Int)), 0)).bind fun t2 =>
 qo r_ t2
def vV (s_ : List (List Int)) : Option (List (List Int)) :=
 gd (([] : List (List Int)).length + s_.length ≤ 4294967296) <|
 some s_
def ja (a_ : List Int) (b_ : List Int) : Option Bool :=
 (ve a_ b_).bind fun r_ =>
 some (r_ == 0)
def xE (s_ : List (List Int)) : Option (List (List Int)) :=
 some s_
def xD (k_ : Int) : Option (LR Int (Unit ⊕ List (List Int))) :=
 some (.next (w64 (k_ + 1)))
def xC (dp : List (List Int)) (cn : Int) : Option (LR Int (Unit ⊕ List (List Int))) :=
 gd ((0 : Int) ≤ cn ∧ (cn : Int) ≤ ((dp.length : Nat) : Int)) <|
 gd ((0 : Int) ≤ cn ∧ (cn : Int) ≤ ((dp.length : Nat) : Int)) <|
 gd ((0 : Int) ≤ cn ∧ (cn : Int) ≤ (((dp.take cn.toNat ++ List.replicate (dp.length - cn.toNat) []).length : Nat) : Int)) <|
 some (.done (.inr ((dp.take cn.toNat ++ List.replicate (dp.length - cn.toNat) []).take cn.toNat)))
def yu (k2 : Int) (gx : List (List Int)) (gy : Int) : Option (LR (List (List Int) × Int × Int) ((List (List Int) × Int))) :=
 some (.next (gx, gy, w64 (k2 + 1)))
def xz (k_ : Int) (dc : List (List Int)) (eb : Int) (k2 : Int) : Option (LR (List (List Int) × Int × Int) ((List (List Int) × Int))) :=
 bif decide (k2 < ((dc.length - k_.toNat : Nat) : Int)) then (
  gd ((0 : Int) ≤ k_ ∧ (0 : Int) ≤ k2) <|
  (idx dc (k_ + k2)).bind fun ga =>
  gd ((0 : Int) ≤ k_ ∧ (0 : Int) ≤ w64 (k2 - 1)) <|
  (idx dc (k_ + (w64 (k2 - 1)))).bind fun gb =>
  (ja ga gb).bind fun ah =>
  bif !ah then (
   gd ((0 : Int) ≤ k_ ∧ (0 : Int) ≤ k2) <|
   (idx dc (k_ + k2)).bind fun gc =>
   (idx dc eb).bind fun im =>
   yu k2 (dc.set eb.toNat gc) (w64 (eb + 1)))
  else (
   yu k2 dc eb))
 else (
  some (.done (dc, eb)))
def xA (s_ : List (List Int)) (k_ : Int) : Option (LR Int (Unit ⊕ List (List Int))) :=
 bif decide (k_ < ((s_.length : Nat) : Int)) then (
  (idx s_ k_).bind fun dh =>
  (idx s_ (w64 (k_ - 1))).bind fun ge =>
  (ja dh ge).bind fun r_ =>
  bif r_ then (
   gd ((0 : Int) ≤ k_ ∧ (k_ : Int) ≤ ((s_.length : Nat) : Int)) <|
   (loop (fun s => xz k_ s.1 s.2.1 s.2.2) (s_, k_, 1)).bind fun t5 =>
   xC t5.1 t5.2)
  else (
   xD k_))
 else (
  some (.done (.inl ())))
def wc (s_ : List (List Int)) (eq : Unit) : Option (List (List Int)) :=
 bif decide (((s_.length : Nat) : Int) < 2) then (
  some s_)
 else (
  (loop (fun s => xA s_ s) 1).bind fun t2 =>
  match t2 with
  | .inl p => xE s_
  | .inr p => some p)
def xW (s_ : List (List Int)) : Option (List (List Int)) :=
 some s_
def kp (out : List (List Int × Bool)) : Option (List (List Int) × Int) :=
 gd (∀ q ∈ out, q.2 = true) <|
 some ((out.map (·.1)), 0)
def ko (al : List (List Int)) (bc : List (List Int × Bool)) (ee : Int) : Option (LR ((List (List Int × Bool)) × Int) ((List (List Int × Bool)))) :=
 bif decide (ee < ((al.length - (0 : Int).toNat : Nat) : Int)) then (
  gd ((0 : Int) ≤ 0 ∧ (0 : Int) ≤ ee) <|
  (idx bc (0 + ee)).bind fun da =>
  (zQ da.1).bind fun aw =>
  (zY aw).bind fun bp =>
  (idx bc ee).bind fun d8 =>
  some (.next ((bc.set ee.toNat (bp, true)), w64 (ee + 1))))
 else (
  some (.done bc))
def Xa (l_ : List (List Int)) : Option (List (List Int) × Int) :=
 (vV l_).bind fun r_ =>
 (z93 (fun x y => ve x y) r_).bind fun sorted =>
 (wc sorted ()).bind fun ah =>
 (xW ah).bind fun al =>
 bif decide (((al.length : Nat) : Int) > 4096) then (
  some (([] : List (List Int)), 3))
 else (
  (qN al).bind fun ap =>
  bif decide (ap > 65536) then (
   some (([] : List (List Int)), 3))
  else (
   (loop (fun s => ko al s.1 s.2) ((al.map fun q => (q, false)), 0)).bind fun t2 =>
   kp t2))
def Vc (l_ : List (List Int)) (inputs : Int) : Option (List (List Int) × Int) :=
 (qO l_ inputs).bind fun r_ =>
 bif r_ != 0 then (
  some (([] : List (List Int)), r_))
 else (
  (Xa l_).bind fun ah =>
  some (ah.1, ah.2))
def uM (m_ : z7) (aj : List (List Int)) : Option (List (List Int) × Int) :=
 bif decide (((aj.length : Nat) : Int) > 4096) then (
  some (([] : List (List Int)), 3))
 else (
  (Vc aj m_.Inputs).bind fun al =>
  some (al.1, al.2))
def vw (d9 : Int) (bh : List (Int × Bool)) (bo : List ((x6 Int) × Bool)) (a9 : List (z8 × Bool)) (cm : List (List Int)) : Option (LR ((List (Int × Bool)) × (List ((x6 Int) × Bool)) × (List (z8 × Bool)) × List (List Int) × Int) (List (List Int))) :=
 some (.next (bh, bo, a9, cm, w64 (d9 + 1)))
def uL (m_ : z7) (ap : List za) (ak : List (Int × Bool)) (am : List ((x6 Int) × Bool)) (aq : List (z8 × Bool)) (bc : List (List Int)) (d9 : Int) : Option (LR ((List (Int × Bool)) × (List ((x6 Int) × Bool)) × (List (z8 × Bool)) × List (List Int) × Int) (List (List Int))) :=
 bif decide (d9 < ((ap.length : Nat) : Int)) then (
  (idx ap d9).bind fun bv =>
  (KE bv.has_ (zg.mk ak am aq)).bind fun aw =>
  bif !aw then (
   (xo m_ bv.word_ (zg.mk ak am aq)).bind fun bp =>
   (zQ bv.word_).bind fun bm =>
   (zY bm).bind fun du =>
   gd (bc.length + ([du] : List (List Int)).length ≤ 4294967296) <|
   vw d9 bp.states_ bp.edges_ bp.pairs_ (bc ++ ([du] : List (List Int))))
  else (
   vw d9 ak am aq bc))
 else (
  some (.done bc))
def uN (m_ : z7) (goal : Int) (ah : zg) (out : List (List Int)) : Option (List (List Int) × Int) :=
 (wJ m_ goal).bind fun ap =>
 (loop (fun s => uL m_ ap s.1 s.2.1 s.2.2.1 s.2.2.2.1 s.2.2.2.2) (ah.states_, ah.edges_, ah.pairs_, out, 0)).bind fun t3 =>
 uM m_ t3
def uK (l_ : List (List Int)) (dg : List (List Int)) (gn : Int) : Option (LR (List (List Int) × Int) (List (List Int))) :=
 bif decide (gn < ((l_.length : Nat) : Int)) then (
  (idx l_ gn).bind fun ba =>
  (zQ ba).bind fun dm =>
  (zY dm).bind fun ce =>
  gd (dg.length + ([ce] : List (List Int)).length ≤ 4294967296) <|
  some (.next ((dg ++ ([ce] : List (List Int))), w64 (gn + 1))))
 else (
  some (.done dg))
def jF (m_ : z7) (l_ : List (List Int)) (goal : Int) : Option (List (List Int) × Int) :=
 (xI m_ l_).bind fun r_ =>
 bif r_ != 0 then (
  some (([] : List (List Int)), r_))
 else (
  bif decide (goal < 0) then (
   some (([] : List (List Int)), 1))
  else (
   bif decide (goal ≥ 3) then (
    some (([] : List (List Int)), 1))
   else (
    (ym m_ l_).bind fun ah =>
    gd ((0 : Int) ≤ ((l_.length : Nat) : Int) ∧ (((l_.length : Nat) : Int) : Int) ≤ 4294967296) <|
    (loop (fun s => uK l_ s.1 s.2) (([] : List (List Int)), 0)).bind fun t5 =>
    uN m_ goal ah t5)))
def j4 (out : List Int) : Option (List Int) :=
 some out
def u7 (ct : Int) (bc : List Int) : Option (LR (List Int × Int) (List Int)) :=
 some (.next (bc, w64 (ct + 1)))
def qZ (bn : List za) (x_ : zg) (aj : List Int) (ct : Int) : Option (LR (List Int × Int) (List Int)) :=
 bif decide (ct < ((bn.length : Nat) : Int)) then (
  (idx bn ct).bind fun ez =>
  (KE ez.has_ x_).bind fun r_ =>
  bif r_ then (
   gd ((64 : Int) ≠ 0) <|
   (idx aj (w64 (Int.tdiv ct 64))).bind fun da =>
   gd ((64 : Int) ≠ 0) <|
   gd ((0 : Int) ≤ Int.tmod ct 64) <|
   (idx aj (w64 (Int.tdiv ct 64))).bind fun d8 =>
   u7 ct (aj.set (w64 (Int.tdiv ct 64)).toNat (orK .u64 da (z7L .u64 1 (Int.tmod ct 64)))))
  else (
   u7 ct aj))
 else (
  some (.done aj))
def un (bn : List za) (x_ : zg) : Option (List Int) :=
 gd ((64 : Int) ≠ 0) <|
 gd ((0 : Int) ≤ w64 ((w64 (Int.tdiv ((bn.length : Nat) : Int) 64)) + 1) ∧ (w64 ((w64 (Int.tdiv ((bn.length : Nat) : Int) 64)) + 1) : Int) ≤ 4294967296) <|
 (loop (fun s => qZ bn x_ s.1 s.2) ((List.replicate (w64 ((w64 (Int.tdiv ((bn.length : Nat) : Int) 64)) + 1)).toNat (0 : Int)), 0)).bind fun t2 =>
 j4 t2
def xR : Option Bool :=
 some true
def xQ (s1 : List Int) (s2 : List Int) (fw : Int) : Option (LR Int (Unit ⊕ Bool)) :=
 bif decide (fw < ((s1.length : Nat) : Int)) then (
  (idx s1 fw).bind fun gj =>
  (idx s2 fw).bind fun fq =>
  bif gj != fq then (
   some (.done (.inr false)))
  else (
   some (.next (w64 (fw + 1)))))
 else (
  some (.done (.inl ())))
def ws (s1 : List Int) (s2 : List Int) : Option Bool :=
 bif ((s1.length : Nat) : Int) != ((s2.length : Nat) : Int) then (
  some false)
 else (
  (loop (fun s => xQ s1 s2 s) 0).bind fun t2 =>
  match t2 with
  | .inl p => xR
  | .inr p => some p)
def wt (s_ : List Int) : Option (List Int) :=
 gd (([] : List Int).length + s_.length ≤ 4294967296) <|
 some s_
def wk : Option (List Int × Bool) :=
 some (([] : List Int), false)
def wj (i_ : Int) : Option (LR Int (Unit ⊕ (List Int × Bool))) :=
 some (.next (w64 (i_ + 1)))
def wh (c_ : zy) (many : Int) (dl : zy → (List Int) → Int → Int → Option (List Int × Bool)) (i_ : Int) (eg : List Int) : Option (LR Int (Unit ⊕ (List Int × Bool))) :=
 (dl c_ eg (w64 (i_ + 1)) (w64 (many - 1))).bind fun al =>
 bif al.2 then (
  gd (([i_] : List Int).length + al.1.length ≤ 4294967296) <|
  some (.done (.inr ((([i_]) ++ al.1), true))))
 else (
  wj i_)
def we (co : List Int) (de : List Int) (cw : Int) : Option (LR (List Int × Int) (List Int)) :=
 bif decide (cw < ((co.length : Nat) : Int)) then (
  (idx co cw).bind fun em =>
  (idx de cw).bind fun fj =>
  (idx de cw).bind fun gz =>
  some (.next ((de.set cw.toNat (orK .u64 fj em)), w64 (cw + 1))))
 else (
  some (.done de))
def wg (c_ : zy) (bq : List Int) (many : Int) (dl : zy → (List Int) → Int → Int → Option (List Int × Bool)) (i_ : Int) : Option (LR Int (Unit ⊕ (List Int × Bool))) :=
 bif decide ((w64 (i_ + many)) ≤ ((c_.sets_.length : Nat) : Int)) then (
  (wt bq).bind fun ah =>
  (idx c_.sets_ i_).bind fun co =>
  (loop (fun s => we co s.1 s.2) (ah, 0)).bind fun t5 =>
  wh c_ many dl i_ t5)
 else (
  some (.done (.inl ())))
def ww (dl : zy → (List Int) → Int → Int → Option (List Int × Bool)) (c_ : zy) (bq : List Int) (from_ : Int) (many : Int) : Option (List Int × Bool) :=
 bif many == 0 then (
  (ws bq c_.want_).bind fun r_ =>
  some (([] : List Int), r_))
 else (
  (loop (fun s => wg c_ bq many dl s) from_).bind fun t2 =>
  match t2 with
  | .inl p => wk
  | .inr p => some p)
def ub (fu : Nat) : zy → (List Int) → Int → Int → Option (List Int × Bool) := Nat.rec (motive := fun _ => zy → (List Int) → Int → Int → Option (List Int × Bool)) (fun _ _ _ _ => none) (fun _ ih => ww ih) fu
def uS (c_ : zy) (bq : List Int) (from_ : Int) (many : Int) : Option (List Int × Bool) := ub (many.toNat + 1) c_ bq from_ many
def uI : Option (List (List Int) × Int) :=
 some (([] : List (List Int)), 0)
def uH (dx : Int) : Option (LR Int (Unit ⊕ (List (List Int) × Int))) :=
 some (.next (w64 (dx + 1)))
def uG (bm : List Int × Bool) (out : List (List Int)) : Option (LR Int (Unit ⊕ (List (List Int) × Int))) :=
 gd (out.length = ((bm.1.length : Nat) : Int).toNat) <|
 some (.done (.inr (out, 0)))
def uE (l_ : List (List Int)) (bm : List Int × Bool) (aj : List (List Int)) (gp : Int) : Option (LR (List (List Int) × Int) (List (List Int))) :=
 bif decide (gp < ((bm.1.length : Nat) : Int)) then (
  (idx bm.1 gp).bind fun u_ =>
  (idx l_ u_).bind fun ba =>
  (zQ ba).bind fun du =>
  (zY du).bind fun dm =>
  gd (aj.length + ([dm] : List (List Int)).length ≤ ((bm.1.length : Nat) : Int).toNat) <|
  some (.next ((aj ++ ([dm] : List (List Int))), w64 (gp + 1))))
 else (
  some (.done aj))
def uF (l_ : List (List Int)) (ah : List za) (ap : List Int) (bw : List (List Int)) (dx : Int) : Option (LR Int (Unit ⊕ (List (List Int) × Int))) :=
 bif decide (dx < (w64 (((l_.length : Nat) : Int) + 1))) then (
  (um).bind fun aw =>
  (un ah aw).bind fun bp =>
  (uS (zy.mk bw ap) bp 0 dx).bind fun bm =>
  bif !bm.2 then (
   uH dx)
  else (
   gd ((0 : Int) ≤ ((bm.1.length : Nat) : Int) ∧ (((bm.1.length : Nat) : Int) : Int) ≤ 4294967296) <|
   (loop (fun s => uE l_ bm s.1 s.2) (([] : List (List Int)), 0)).bind fun t6 =>
   uG bm t6))
 else (
  some (.done (.inl ())))
def uJ (l_ : List (List Int)) (ah : List za) (ap : List Int) (bw : List (List Int)) : Option (List (List Int) × Int) :=
 (loop (fun s => uF l_ ah ap bw s) 0).bind fun t3 =>
 match t3 with
 | .inl p => uI
 | .inr p => some p
def uD (m_ : z7) (l_ : List (List Int)) (ah : List za) (ck : List (List Int)) (cw : Int) : Option (LR (List (List Int) × Int) (List (List Int))) :=
 bif decide (cw < ((l_.length : Nat) : Int)) then (
  (idx l_ cw).bind fun cg =>
  (ym m_ ([cg])).bind fun ce =>
  (un ah ce).bind fun eu =>
  gd (ck.length + ([eu] : List (List Int)).length ≤ 4294967296) <|
  some (.next ((ck ++ ([eu] : List (List Int))), w64 (cw + 1))))
 else (
  some (.done ck))
def jE (m_ : z7) (l_ : List (List Int)) (goal : Int) : Option (List (List Int) × Int) :=
 (xI m_ l_).bind fun r_ =>
 bif r_ != 0 then (
  some (([] : List (List Int)), r_))
 else (
  bif decide (goal < 0) then (
   some (([] : List (List Int)), 1))
  else (
   bif decide (goal ≥ 3) then (
    some (([] : List (List Int)), 1))
   else (
    bif decide (((l_.length : Nat) : Int) > 16) then (
     some (([] : List (List Int)), 3))
    else (
     (wJ m_ goal).bind fun ah =>
     (ym m_ l_).bind fun al =>
     (un ah al).bind fun ap =>
     (loop (fun s => uD m_ l_ ah s.1 s.2) (([] : List (List Int)), 0)).bind fun t7 =>
     uJ l_ ah ap t7))))
def vJ (i_ : Int) : Option (List UInt8) :=
 bif decide (i_ < 10) then (
  gd ((0 : Int) ≤ i_ ∧ (i_ : Int) ≤ w64 (i_ + 1) ∧ (w64 (i_ + 1) : Int) ≤ ((([48, 49, 50, 51, 52, 53, 54, 55, 56, 57, 97, 98, 99, 100, 101, 102, 103, 104, 105, 106, 107, 108, 109, 110, 111, 112, 113, 114, 115, 116, 117, 118, 119, 120, 121, 122] : List UInt8).length : Nat) : Int)) <|
  some ((([48, 49, 50, 51, 52, 53, 54, 55, 56, 57, 97, 98, 99, 100, 101, 102, 103, 104, 105, 106, 107, 108, 109, 110, 111, 112, 113, 114, 115, 116, 117, 118, 119, 120, 121, 122] : List UInt8).take (w64 (i_ + 1)).toNat).drop i_.toNat))
 else (
  gd ((0 : Int) ≤ w64 (i_ * 2) ∧ (w64 (i_ * 2) : Int) ≤ w64 ((w64 (i_ * 2)) + 2) ∧ (w64 ((w64 (i_ * 2)) + 2) : Int) ≤ ((([48, 48, 48, 49, 48, 50, 48, 51, 48, 52, 48, 53, 48, 54, 48, 55, 48, 56, 48, 57, 49, 48, 49, 49, 49, 50, 49, 51, 49, 52, 49, 53, 49, 54, 49, 55, 49, 56, 49, 57, 50, 48, 50, 49, 50, 50, 50, 51, 50, 52, 50, 53, 50, 54, 50, 55, 50, 56, 50, 57, 51, 48, 51, 49, 51, 50, 51, 51, 51, 52, 51, 53, 51, 54, 51, 55, 51, 56, 51, 57, 52, 48, 52, 49, 52, 50, 52, 51, 52, 52, 52, 53, 52, 54, 52, 55, 52, 56, 52, 57, 53, 48, 53, 49, 53, 50, 53, 51, 53, 52, 53, 53, 53, 54, 53, 55, 53, 56, 53, 57, 54, 48, 54, 49, 54, 50, 54, 51, 54, 52, 54, 53, 54, 54, 54, 55, 54, 56, 54, 57, 55, 48, 55, 49, 55, 50, 55, 51, 55, 52, 55, 53, 55, 54, 55, 55, 55, 56, 55, 57, 56, 48, 56, 49, 56, 50, 56, 51, 56, 52, 56, 53, 56, 54, 56, 55, 56, 56, 56, 57, 57, 48, 57, 49, 57, 50, 57, 51, 57, 52, 57, 53, 57, 54, 57, 55, 57, 56, 57, 57] : List UInt8).length : Nat) : Int)) <|
  some ((([48, 48, 48, 49, 48, 50, 48, 51, 48, 52, 48, 53, 48, 54, 48, 55, 48, 56, 48, 57, 49, 48, 49, 49, 49, 50, 49, 51, 49, 52, 49, 53, 49, 54, 49, 55, 49, 56, 49, 57, 50, 48, 50, 49, 50, 50, 50, 51, 50, 52, 50, 53, 50, 54, 50, 55, 50, 56, 50, 57, 51, 48, 51, 49, 51, 50, 51, 51, 51, 52, 51, 53, 51, 54, 51, 55, 51, 56, 51, 57, 52, 48, 52, 49, 52, 50, 52, 51, 52, 52, 52, 53, 52, 54, 52, 55, 52, 56, 52, 57, 53, 48, 53, 49, 53, 50, 53, 51, 53, 52, 53, 53, 53, 54, 53, 55, 53, 56, 53, 57, 54, 48, 54, 49, 54, 50, 54, 51, 54, 52, 54, 53, 54, 54, 54, 55, 54, 56, 54, 57, 55, 48, 55, 49, 55, 50, 55, 51, 55, 52, 55, 53, 55, 54, 55, 55, 55, 56, 55, 57, 56, 48, 56, 49, 56, 50, 56, 51, 56, 52, 56, 53, 56, 54, 56, 55, 56, 56, 56, 57, 57, 48, 57, 49, 57, 50, 57, 51, 57, 52, 57, 53, 57, 54, 57, 55, 57, 56, 57, 57] : List UInt8).take (w64 ((w64 (i_ * 2)) + 2)).toNat).drop (w64 (i_ * 2)).toNat))
def yI (u_ : Int) : Option (List UInt8) :=
 none
def yK (i_ : Int) : Option (List UInt8) :=
 bif decide (i_ < 0) then (
  yI (IntKind.u64.wrap (0 - (IntKind.u64.wrap (i_)))))
 else (
  yI (IntKind.u64.wrap (i_)))
def wv (i_ : Int) (base : Int) : Option (List UInt8) :=
 bif base == 10 then (
  bif decide (0 ≤ i_) then (
   bif decide (i_ < 100) then (
    (vJ i_).bind fun r_ =>
    some r_)
   else (
    yK i_))
  else (
   yK i_))
 else (
  none)
def vW (i_ : Int) : Option (List UInt8) :=
 (wv i_ 10).bind fun r_ =>
 some r_
def vd (i_ : Int) : Option (List UInt8) :=
 (vW i_).bind fun r_ =>
 some r_
def j5 (s_ : List UInt8) : Option (List UInt8) :=
 some s_
def Zx (c_ : y3) : Option (List UInt8) :=
 (vd c_.States.e0).bind fun r_ =>
 gd (([115, 116, 97, 116, 101, 115, 32] : List UInt8).length + r_.length ≤ 4611686018427387904) <|
 gd ((([115, 116, 97, 116, 101, 115, 32] : List UInt8) ++ r_).length + ([47] : List UInt8).length ≤ 4611686018427387904) <|
 (vd c_.States.e1).bind fun ah =>
 gd (((([115, 116, 97, 116, 101, 115, 32] : List UInt8) ++ r_) ++ ([47] : List UInt8)).length + ah.length ≤ 4611686018427387904) <|
 gd (([] : List UInt8).length + (((([115, 116, 97, 116, 101, 115, 32] : List UInt8) ++ r_) ++ ([47] : List UInt8)) ++ ah).length ≤ 4611686018427387904) <|
 (vd c_.Edges.e0).bind fun al =>
 gd (([44, 32, 101, 100, 103, 101, 115, 32] : List UInt8).length + al.length ≤ 4611686018427387904) <|
 gd ((([44, 32, 101, 100, 103, 101, 115, 32] : List UInt8) ++ al).length + ([47] : List UInt8).length ≤ 4611686018427387904) <|
 (vd c_.Edges.e1).bind fun ap =>
 gd (((([44, 32, 101, 100, 103, 101, 115, 32] : List UInt8) ++ al) ++ ([47] : List UInt8)).length + ap.length ≤ 4611686018427387904) <|
 gd ((([] : List UInt8) ++ (((([115, 116, 97, 116, 101, 115, 32] : List UInt8) ++ r_) ++ ([47] : List UInt8)) ++ ah)).length + (((([44, 32, 101, 100, 103, 101, 115, 32] : List UInt8) ++ al) ++ ([47] : List UInt8)) ++ ap).length ≤ 4611686018427387904) <|
 (vd c_.Pairs.e0).bind fun aw =>
 gd (([44, 32, 112, 97, 105, 114, 115, 32] : List UInt8).length + aw.length ≤ 4611686018427387904) <|
 gd ((([44, 32, 112, 97, 105, 114, 115, 32] : List UInt8) ++ aw).length + ([47] : List UInt8).length ≤ 4611686018427387904) <|
 (vd c_.Pairs.e1).bind fun bp =>
 gd (((([44, 32, 112, 97, 105, 114, 115, 32] : List UInt8) ++ aw) ++ ([47] : List UInt8)).length + bp.length ≤ 4611686018427387904) <|
 gd (((([] : List UInt8) ++ (((([115, 116, 97, 116, 101, 115, 32] : List UInt8) ++ r_) ++ ([47] : List UInt8)) ++ ah)) ++ (((([44, 32, 101, 100, 103, 101, 115, 32] : List UInt8) ++ al) ++ ([47] : List UInt8)) ++ ap)).length + (((([44, 32, 112, 97, 105, 114, 115, 32] : List UInt8) ++ aw) ++ ([47] : List UInt8)) ++ bp).length ≤ 4611686018427387904) <|
 j5 (((([] : List UInt8) ++ (((([115, 116, 97, 116, 101, 115, 32] : List UInt8) ++ r_) ++ ([47] : List UInt8)) ++ ah)) ++ (((([44, 32, 101, 100, 103, 101, 115, 32] : List UInt8) ++ al) ++ ([47] : List UInt8)) ++ ap)) ++ (((([44, 32, 112, 97, 105, 114, 115, 32] : List UInt8) ++ aw) ++ ([47] : List UInt8)) ++ bp))
def Ym : Option Bool :=
 some true
def Yl (a_ : List (List Int)) (b_ : List (List Int)) (i_ : Int) : Option (LR Int (Unit ⊕ Bool)) :=
 bif decide (i_ < ((a_.length : Nat) : Int)) then (
  (idx a_ i_).bind fun fm =>
  (idx b_ i_).bind fun fp =>
  (vp fm fp).bind fun r_ =>
  bif r_ != 0 then (
   some (.done (.inr false)))
  else (
   some (.next (w64 (i_ + 1)))))
 else (
  some (.done (.inl ())))
def XA (a_ : List (List Int)) (b_ : List (List Int)) : Option Bool :=
 bif ((a_.length : Nat) : Int) != ((b_.length : Nat) : Int) then (
  some false)
 else (
  (loop (fun s => Yl a_ b_ s) 0).bind fun t2 =>
  match t2 with
  | .inl p => Ym
  | .inr p => some p)
def Yq : Option Bool :=
 (Xo).bind fun r_ =>
 (wK r_ []).bind fun ah =>
 (wK r_ ([[1], [0, 0, 1]])).bind fun al =>
 (kR r_ ([[1], [0, 0, 1]])).bind fun ap =>
 (jF r_ [] 1).bind fun aw =>
 (jE r_ ([[0], [1], [0, 0], [0, 1, 1]]) 1).bind fun bp =>
 bif ah.2 == 0 then (
  bif al.2 == 0 then (
   bif ap.2 == 0 then (
    bif aw.2 == 0 then (
     bif bp.2 == 0 then (
      bif (ah.1.States.e0 == 1) && ((ah.1.States.e1 == 2) && ((ah.1.Edges.e0 == 0) && ((ah.1.Edges.e1 == 4) && ((ah.1.Pairs.e0 == 0) && ((ah.1.Pairs.e1 == 8) && true))))) then (
       (Zx ah.1).bind fun bm =>
       bif bm == ([115, 116, 97, 116, 101, 115, 32, 49, 47, 50, 44, 32, 101, 100, 103, 101, 115, 32, 48, 47, 52, 44, 32, 112, 97, 105, 114, 115, 32, 48, 47, 56] : List UInt8) then (
        bif (al.1.States.e0 == 2) && ((al.1.States.e1 == 2) && ((al.1.Edges.e0 == 3) && ((al.1.Edges.e1 == 4) && ((al.1.Pairs.e0 == 2) && ((al.1.Pairs.e1 == 8) && true))))) then (
         bif ((ap.1.length : Nat) : Int) == 1 then (
          (idx ap.1 0).bind fun u_ =>
          bif (u_.e0 == 1) && ((u_.e1 == 1) && true) then (
           (XA aw.1 ([[0], [1], [0, 0], [0, 1]])).bind fun du =>
           bif du then (
            (XA bp.1 ([[1], [0, 0], [0, 1, 1]])).bind fun dm =>
            some dm)
           else (
            some false))
          else (
           some false))
         else (
          some false))
        else (
         some false))
       else (
        some false))
      else (
       some false))
     else (
      some false))
    else (
     some false))
   else (
    some false))
  else (
   some false))
 else (
  some false)
def wp (r_ : z7 × List (List Int)) (words : List (List Int)) : Option Bool :=
 (kh words).bind fun aw =>
 (wK r_.1 aw).bind fun bp =>
 bif bp.2 == 0 then (
  bif (bp.1.States.e0 == ((words.length : Nat) : Int)) && ((bp.1.States.e1 == ((words.length : Nat) : Int)) && true) then (
   (Yq).bind fun bm =>
   some bm)
  else (
   some false))
 else (
  some false)
def yz (s_ : Int) (fh : List (List Int)) : Option (LR (List (List Int) × Int) (List (List Int))) :=
 some (.next (fh, w64 (s_ + 1)))
def yx (ap : List (List Int) × List Bool) (cq : List (List Int)) (s_ : Int) : Option (LR (List (List Int) × Int) (List (List Int))) :=
 bif decide (s_ < ((ap.1.length : Nat) : Int)) then (
  (idx ap.2 s_).bind fun u_ =>
  bif u_ then (
   (idx ap.1 s_).bind fun dj =>
   gd (cq.length + ([dj] : List (List Int)).length ≤ 4294967296) <|
   yz s_ (cq ++ ([dj] : List (List Int))))
  else (
   yz s_ cq))
 else (
  some (.done cq))
def vq (x_ : wo) (gq : Int) : Option Bool :=
 (ZS (wo.mk x_.M x_.L)).bind fun r_ =>
 gd (((w64 (((r_.2.length : Nat) : Int) + 1)) : Int) ≠ 0) <|
 gd ((0 : Int) ≤ 0 ∧ (0 : Int) ≤ Int.tmod (w64 (gq)) (w64 (((r_.2.length : Nat) : Int) + 1)) ∧ (Int.tmod (w64 (gq)) (w64 (((r_.2.length : Nat) : Int) + 1)) : Int) ≤ ((r_.2.length : Nat) : Int)) <|
 (wK r_.1 ((r_.2.drop 0).take ((Int.tmod (w64 (gq)) (w64 (((r_.2.length : Nat) : Int) + 1))).toNat - 0))).bind fun ah =>
 (wK r_.1 r_.2).bind fun al =>
 bif ah.2 != 0 then (
  some false)
 else (
  bif al.2 != 0 then (
   some false)
  else (
   bif decide (ah.1.States.e0 > al.1.States.e0) then (
    some false)
   else (
    bif decide (ah.1.Edges.e0 > al.1.Edges.e0) then (
     some false)
    else (
     bif decide (ah.1.Pairs.e0 > al.1.Pairs.e0) then (
      some false)
     else (
      bif ah.1.States.e1 != al.1.States.e1 then (
       some false)
      else (
       bif ah.1.Edges.e1 != al.1.Edges.e1 then (
        some false)
       else (
        bif ah.1.Pairs.e1 != al.1.Pairs.e1 then (
         some false)
        else (
         (jm r_.1).bind fun ap =>
         (loop (fun s => yx ap s.1 s.2) (([] : List (List Int)), 0)).bind fun t2 =>
         wp r_ t2))))))))
abbrev F0_ := WQ (eI .i64)
abbrev F1_ := eSl 1 false (eI .u8)
abbrev F2_ := eSl 1 true (eI .i64)
abbrev F3_ := eOs 1 true (eI .i64)
abbrev F4_ := eSl 1 true (eI .u64)
abbrev F5_ := eSl 1 false (eI .u16)
abbrev F6_ := eOs 1 false (eI .i64)
abbrev F7_ := eSl 1 false (eI .i64)
abbrev F8_ := eSl 1 false (eI .u64)
abbrev F9_ := wz (eI .i64) (eI .i64)
abbrev z3o := eSl 1 true F2_
abbrev zao := eSl 1 true F7_
abbrev z5I := eOs 1 false F7_
abbrev YK := eSl 1 false F7_
abbrev zh6 := eSl 1 false F8_
abbrev zgi := eSl 2 true F9_
abbrev uh := eSl 2 false F9_
abbrev z01 := eOs 2 false F9_
abbrev uV := kM (eI .i64) (eI .i64) (eI .i64)
abbrev zD := zX (eI .i64) (eI .i64) (eI .i64)
abbrev zh5 := eSl 1 true zgi
abbrev zh4 := eSl 1 false uh
abbrev Jt := ul (eI .u8) (eI .u8) (eI .u8) eB F5_
abbrev zdt := x4 F0_ F0_ F0_
abbrev z8f := yP zh6 F8_
abbrev zdf := eSp z8f
abbrev zan := vu (eI .i64) (eI .i64) zh5
abbrev yT := vu (eI .i64) (eI .i64) zh4
abbrev z7E := eSp yT
def rpN {α : Type _} (n : Nat) (a : α) (l : List α) : List α := Nat.rec l (fun _ r => a :: r) n
abbrev aLn (n : Nat) : H := .a (.atom (.int .i64 ((n : Nat) : Int)))
end Go.Own

namespace Go.Proofs
open Go.Shelf
def Tryd.so67_ren : Go.Shelf.Ren := ⟨fun | 6 => 67 | 15 => 79 | 14 => 78 | 28 => 97 | 29 => 98 | 20 => 89 | 21 => 90 | 22 => 91 | 23 => 92 | 24 => 93 | 25 => 94 | 26 => 95 | 27 => 96 | 46 => 104 | 47 => 105 | 48 => 106 | 49 => 107 | 50 => 108 | 57 => 111 | n => n, fun | 22 => 31 | 24 => 43 | 25 => 92 | 3 => 3 | 39 => 140 | 0 => 0 | 53 => 160 | 55 => 116 | 4 => 4 | 46 => 153 | 45 => 152 | 50 => 157 | 5 => 5 | 9 => 9 | 66 => 164 | 70 => 168 | 76 => 170 | 77 => 171 | n => n, fun | n => n⟩
theorem Tryd.so67 : Go.Proofs.SlLaysF0.n6 Tryd.prog Tryd.so67_ren := {
 mixed := by kernel_rfl
 f6 := ⟨Tryd.f67.name, by decide, Tryd.func67.trans (congrArg some (by kernel_rfl))⟩
 f14 := ⟨Tryd.f78.name, by decide, Tryd.func78.trans (congrArg some (by kernel_rfl))⟩
 f15 := Tryd.func79.trans (congrArg some (by kernel_rfl))
 f20 := ⟨Tryd.f89.name, by decide, Tryd.func89.trans (congrArg some (by kernel_rfl))⟩
 f21 := ⟨Tryd.f90.name, by decide, Tryd.func90.trans (congrArg some (by kernel_rfl))⟩
 f22 := ⟨Tryd.f91.name, by decide, Tryd.func91.trans (congrArg some (by kernel_rfl))⟩
 f23 := ⟨Tryd.f92.name, by decide, Tryd.func92.trans (congrArg some (by kernel_rfl))⟩
 f24 := ⟨Tryd.f93.name, by decide, Tryd.func93.trans (congrArg some (by kernel_rfl))⟩
 f25 := ⟨Tryd.f94.name, by decide, Tryd.func94.trans (congrArg some (by kernel_rfl))⟩
 f26 := ⟨Tryd.f95.name, by decide, Tryd.func95.trans (congrArg some (by kernel_rfl))⟩
 f27 := ⟨Tryd.f96.name, by decide, Tryd.func96.trans (congrArg some (by kernel_rfl))⟩
 f28 := Tryd.func97.trans (congrArg some (by kernel_rfl))
 f29 := Tryd.func98.trans (congrArg some (by kernel_rfl))
 f46 := ⟨Tryd.f104.name, by decide, Tryd.func104.trans (congrArg some (by kernel_rfl))⟩
 f47 := Tryd.func105.trans (congrArg some (by kernel_rfl))
 f48 := Tryd.func106.trans (congrArg some (by kernel_rfl))
 f49 := ⟨Tryd.f107.name, by decide, Tryd.func107.trans (congrArg some (by kernel_rfl))⟩
 f50 := ⟨Tryd.f108.name, by decide, Tryd.func108.trans (congrArg some (by kernel_rfl))⟩
 f57 := ⟨Tryd.f111.name, by decide, Tryd.func111.trans (congrArg some (by kernel_rfl))⟩
 t0 := Tryd.underlying0
 a0 := Tryd.isAgg0
 z0 := Tryd.sizeOf0
 v0 := Tryd.zeroValue0
 t3 := Tryd.underlying3
 a3 := Tryd.isAgg3
 z3 := Tryd.sizeOf3
 v3 := Tryd.zeroValue3
 t4 := Tryd.underlying4
 a4 := Tryd.isAgg4
 z4 := Tryd.sizeOf4
 v4 := Tryd.zeroValue4
 t5 := Tryd.underlying5
 a5 := Tryd.isAgg5
 z5 := Tryd.sizeOf5
 v5 := Tryd.zeroValue5
 t9 := Tryd.underlying9
 a9 := Tryd.isAgg9
 z9 := Tryd.sizeOf9
 v9 := Tryd.zeroValue9
 t22 := Tryd.underlying31
 a22 := Tryd.isAgg31
 z22 := Tryd.sizeOf31
 v22 := Tryd.zeroValue31
 t25 := Tryd.underlying92
 a25 := Tryd.isAgg92
 z25 := Tryd.sizeOf92
 v25 := Tryd.zeroValue92
 t39 := Tryd.underlying140
 a39 := Tryd.isAgg140
 z39 := Tryd.sizeOf140
 v39 := Tryd.zeroValue140
 t45 := Tryd.underlying152
 a45 := Tryd.isAgg152
 z45 := Tryd.sizeOf152
 v45 := Tryd.zeroValue152
 t46 := Tryd.underlying153
 a46 := Tryd.isAgg153
 z46 := Tryd.sizeOf153
 v46 := Tryd.zeroValue153
 t50 := Tryd.underlying157
 a50 := Tryd.isAgg157
 z50 := Tryd.sizeOf157
 v50 := Tryd.zeroValue157
 t53 := Tryd.underlying160
 a53 := Tryd.isAgg160
 z53 := Tryd.sizeOf160
 v53 := Tryd.zeroValue160
 t55 := Tryd.underlying116
 a55 := Tryd.isAgg116
 z55 := Tryd.sizeOf116
 v55 := Tryd.zeroValue116
 t66 := Tryd.underlying164
 a66 := Tryd.isAgg164
 z66 := Tryd.sizeOf164
 v66 := Tryd.zeroValue164
 t70 := Tryd.underlying168
 a70 := Tryd.isAgg168
 z70 := Tryd.sizeOf168
 v70 := Tryd.zeroValue168
 t76 := Tryd.underlying170
 a76 := Tryd.isAgg170
 z76 := Tryd.sizeOf170
 v76 := Tryd.zeroValue170
 t77 := Tryd.underlying171
 a77 := Tryd.isAgg171
 z77 := Tryd.sizeOf171
 v77 := Tryd.zeroValue171 }
end Go.Proofs
