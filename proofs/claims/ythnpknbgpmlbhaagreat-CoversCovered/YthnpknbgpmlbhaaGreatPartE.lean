/- -/
import Derived.Test.YthnpknbgpmlbhaaGreatPartB
import Derived.Test.YthnpknbgpmlbhaaGreatProg
import Derived.Test.YthnpknbgpmlbhaaGreatPartC
import Derived.Test.YthnpknbgpmlbhaaGreatPartD
import Derived.Shelf.SlSortCmp.NoneTotal
import Derived.Ground.SlsfProg
set_option linter.unusedVariables false
set_option linter.unusedSimpArgs false
namespace Go.Ex
open Go.Proofs
def i64 : EI := ⟨.func, 1, 8, some [.nilFunc], false⟩
theorem q3 : EqP Tryz.prog 3 [.int .i64 0] false 1 := z6D (k := .int .i64) Tryz.underlying3 ⟨_, (by kernel_rfl : Tryz.prog.info? 3 = some Tryz.t3), rfl⟩ rfl
theorem q67 : EqP Tryz.prog 67 (YT [([.int .i64 0], false), ([.int .i64 0], false)]) true 2 := XG Tryz.underlying67 (by kernel_rfl) ⟨_, (by kernel_rfl : Tryz.prog.info? 67 = some Tryz.t67), rfl⟩ (by decide) (y9.cons (by decide) rfl (q3.mono (by decide)) (y9.cons (by decide) rfl (q3.mono (by decide)) (y9.nil)))
def i67 : EI := ⟨.struct [(0, 3), (1, 3)], 2, 16, some [.int .i64 0, .int .i64 0], true⟩
theorem zeh : zci Tryz.prog 67 i67 := ⟨⟨Tryz.t67, by kernel_rfl, rfl, rfl, fun z h => by cases h; exact ⟨_, rfl, rfl, z32 rfl, rfl, ⟨_, rfl⟩⟩⟩, ⟨_, Tryz.underlying67, by kernel_rfl, by
  intro f hf
  simp only [List.mem_cons, List.not_mem_nil, or_false] at hf
  rcases hf with rfl | rfl
  ·exact ⟨Tryz.t3, by kernel_rfl⟩
  ·exact ⟨Tryz.t3, by kernel_rfl⟩⟩, fun _ => KZ q67 rfl rfl (Nat.le_of_ble_eq_true (by kernel_rfl)) (by decide)⟩
theorem q68 : EqP Tryz.prog 68 (YT [([.int .i64 0], false), ([.int .i64 0], false)]) true 2 := XG Tryz.underlying68 (by kernel_rfl) ⟨_, (by kernel_rfl : Tryz.prog.info? 68 = some Tryz.t68), rfl⟩ (by decide) (y9.cons (by decide) rfl (q3.mono (by decide)) (y9.cons (by decide) rfl (q3.mono (by decide)) (y9.nil)))
def i68 : EI := ⟨.struct [(0, 3), (1, 3)], 2, 16, some [.int .i64 0, .int .i64 0], true⟩
theorem zaq : zci Tryz.prog 68 i68 := ⟨⟨Tryz.t68, by kernel_rfl, rfl, rfl, fun z h => by cases h; exact ⟨_, rfl, rfl, z32 rfl, rfl, ⟨_, rfl⟩⟩⟩, ⟨_, Tryz.underlying68, by kernel_rfl, by
  intro f hf
  simp only [List.mem_cons, List.not_mem_nil, or_false] at hf
  rcases hf with rfl | rfl
  ·exact ⟨Tryz.t3, by kernel_rfl⟩
  ·exact ⟨Tryz.t3, by kernel_rfl⟩⟩, fun _ => KZ q68 rfl rfl (Nat.le_of_ble_eq_true (by kernel_rfl)) (by decide)⟩
theorem zeR : EqP Tryz.prog 133 (YT [([.int .i64 0], false), ([.int .i64 0], false), ([.int .i64 0], false)]) true 2 := XG Tryz.underlying133 (by kernel_rfl) ⟨_, (by kernel_rfl : Tryz.prog.info? 133 = some Tryz.t133), rfl⟩ (by decide) (y9.cons (by decide) rfl (q3.mono (by decide)) (y9.cons (by decide) rfl (q3.mono (by decide)) (y9.cons (by decide) rfl (q3.mono (by decide)) (y9.nil))))
def zeW : EI := ⟨.struct [(0, 3), (1, 3), (2, 3)], 3, 24, some [.int .i64 0, .int .i64 0, .int .i64 0], true⟩
theorem zcQ : zci Tryz.prog 133 zeW := ⟨⟨Tryz.t133, by kernel_rfl, rfl, rfl, fun z h => by cases h; exact ⟨_, rfl, rfl, z32 rfl, rfl, ⟨_, rfl⟩⟩⟩, ⟨_, Tryz.underlying133, by kernel_rfl, by
  intro f hf
  simp only [List.mem_cons, List.not_mem_nil, or_false] at hf
  rcases hf with rfl | rfl | rfl
  ·exact ⟨Tryz.t3, by kernel_rfl⟩
  ·exact ⟨Tryz.t3, by kernel_rfl⟩
  ·exact ⟨Tryz.t3, by kernel_rfl⟩⟩, fun _ => KZ zeR rfl rfl (Nat.le_of_ble_eq_true (by kernel_rfl)) (by decide)⟩
theorem zeQ : EqP Tryz.prog 134 (YT [([.int .i64 0], false), ([.int .i64 0], false), ([.int .i64 0], false)]) true 2 := XG Tryz.underlying134 (by kernel_rfl) ⟨_, (by kernel_rfl : Tryz.prog.info? 134 = some Tryz.t134), rfl⟩ (by decide) (y9.cons (by decide) rfl (q3.mono (by decide)) (y9.cons (by decide) rfl (q3.mono (by decide)) (y9.cons (by decide) rfl (q3.mono (by decide)) (y9.nil))))
def zeV : EI := ⟨.struct [(0, 3), (1, 3), (2, 3)], 3, 24, some [.int .i64 0, .int .i64 0, .int .i64 0], true⟩
theorem z8O : zci Tryz.prog 134 zeV := ⟨⟨Tryz.t134, by kernel_rfl, rfl, rfl, fun z h => by cases h; exact ⟨_, rfl, rfl, z32 rfl, rfl, ⟨_, rfl⟩⟩⟩, ⟨_, Tryz.underlying134, by kernel_rfl, by
  intro f hf
  simp only [List.mem_cons, List.not_mem_nil, or_false] at hf
  rcases hf with rfl | rfl | rfl
  ·exact ⟨Tryz.t3, by kernel_rfl⟩
  ·exact ⟨Tryz.t3, by kernel_rfl⟩
  ·exact ⟨Tryz.t3, by kernel_rfl⟩⟩, fun _ => KZ zeQ rfl rfl (Nat.le_of_ble_eq_true (by kernel_rfl)) (by decide)⟩
end Go.Ex

namespace Go.Own
open Go.Proofs
def zcP : Value → Bool
 | .int _ _ => true
 | _ => false
theorem z1b : ∀ {z vs us : List Value} {r : Bool}, z.all zcP = true → z.length = vs.length → yM vs us = some r → Go.Ex.z1c z vs = true ∧ Go.Ex.yM vs us = some r
 | [], [], us, r, _, _, h => by
  cases us with
  | nil => simp only [yM, Option.some.injEq] at h; subst h; exact ⟨rfl, rfl⟩
  | cons u us => simp [yM] at h
 | a :: z, v :: vs, us, r, hz, hl, h => by
  have q : ∃ k x u' k' y, v = .int k x ∧ us = .int k' y :: u' ∧ k = k' := by
   cases us with
   | nil => cases v <;> simp [yM] at h
   | cons u us =>
    cases v <;> cases u <;> simp [yM] at h
    exact ⟨_, _, _, _, _, rfl, rfl, h.1⟩
  obtain ⟨k, x, u', k', y, rfl, rfl, hk⟩ := q
  simp only [yM, hk, if_true, Option.map_eq_some_iff] at h
  obtain ⟨r', e1, rfl⟩ := h
  simp only [List.all_cons, Bool.and_eq_true] at hz
  obtain ⟨q1, q2⟩ := z1b hz.2 (by simpa using hl) e1
  refine ⟨?_, by simp [Go.Ex.yM, hk, q2]⟩
  cases a <;> first | (simp [zcP] at hz; done) | simpa [Go.Ex.z1c] using q1
 | [], _ :: _, _, _, _, hl, _ => by simp at hl
 | _ :: _, [], _, _, _, hl, _ => by simp at hl
theorem z4S {P : Program} {t n : Nat} {i : Go.Ex.EI} (h : Go.Ex.z9q P t i) {z : List Value} (hz : i.zero = some z) (hi : z.all zcP = true) (hs : i.size = n) (hn : z.length = n) : z9q P t n := {
 guard := h.guard
 run := fun vs us r w hv hu he => by
  obtain ⟨q1, q2⟩ := z1b hi (by rw [hn, hv]) he
  exact h.run vs us r w (by rw [hs]; exact hv) (by rw [hs]; exact hu) (by simpa only [Go.Ex.zcS, hz] using q1) q2 }
theorem zF {S : zh} {h : Array Obj} {v : Value} (hv : v.oneCell' = true) : zA S h (.atom v) [v] [] := by simp only [zA, Rep]; exact ⟨⟨trivial, hv⟩, trivial⟩
theorem wJ {S : zh} {h : Array Obj} (sz : Nat) : zA S h (.osl sz true []) [.slice none 0 0] [] := by
 simp only [zA]
 exact ⟨none, 0, rfl, (fun _ => rfl), Nat.le_refl _, Nat.zero_le _, by simp, .inl ⟨trivial, rfl, rfl, trivial⟩⟩
theorem XJ {S : zh} {h : Array Obj} {fs : List A} {cs : List Value} (q : zC S h fs cs []) : zA S h (.agg fs) cs [] := by simpa only [zA] using q
theorem ZX {S : zh} {h : Array Obj} : zC S h [] [] [] := by simp [zC]
theorem xo {S : zh} {h : Array Obj} {a : A} {fs : List A} {c1 c2 : List Value} (q1 : zA S h a c1 []) (q2 : zC S h fs c2 []) : zC S h (a :: fs) (c1 ++ c2) [] := by simp only [zC]; exact ⟨c1, c2, [], [], rfl, rfl, q1, q2⟩
def ti1 : TI := ⟨.other, 1, 8, some (.atom .nilFunc), false⟩
theorem z9A : Zb Tryz.prog 1 ti1 := ⟨⟨Tryz.t1, by kernel_rfl, rfl, rfl, fun z h => by cases h; exact ⟨_, rfl, rfl, fun S h => zF rfl⟩⟩, ⟨_, Tryz.underlying1, rfl⟩, by intro h; cases h⟩
def ti2 : TI := ⟨.int .i64, 1, 8, some (.atom (.int .i64 0)), false⟩
theorem z9z : Zb Tryz.prog 2 ti2 := ⟨⟨Tryz.t2, by kernel_rfl, rfl, rfl, fun z h => by cases h; exact ⟨_, rfl, rfl, fun S h => zF rfl⟩⟩, Tryz.underlying2, by intro h; cases h⟩
def ti3 : TI := ⟨.int .i64, 1, 8, some (.atom (.int .i64 0)), false⟩
theorem z9y : Zb Tryz.prog 3 ti3 := ⟨⟨Tryz.t3, by kernel_rfl, rfl, rfl, fun z h => by cases h; exact ⟨_, rfl, rfl, fun S h => zF rfl⟩⟩, Tryz.underlying3, by intro h; cases h⟩
def ti4 : TI := ⟨.bool, 1, 1, some (.atom (.bool false)), false⟩
theorem z9x : Zb Tryz.prog 4 ti4 := ⟨⟨Tryz.t4, by kernel_rfl, rfl, rfl, fun z h => by cases h; exact ⟨_, rfl, rfl, fun S h => zF rfl⟩⟩, Tryz.underlying4, by intro h; cases h⟩
def ti5 : TI := ⟨.int .u8, 1, 1, some (.atom (.int .u8 0)), false⟩
theorem z9w : Zb Tryz.prog 5 ti5 := ⟨⟨Tryz.t5, by kernel_rfl, rfl, rfl, fun z h => by cases h; exact ⟨_, rfl, rfl, fun S h => zF rfl⟩⟩, Tryz.underlying5, by intro h; cases h⟩
def ti9 : TI := ⟨.str, 1, 16, none, false⟩
theorem z9v : Zb Tryz.prog 9 ti9 := ⟨⟨Tryz.t9, by kernel_rfl, rfl, rfl, fun z h => by cases h⟩, Tryz.underlying9, by intro h; cases h⟩
def zdZ : TI := ⟨.slice 66, 1, 24, some (.osl 1 true []), false⟩
theorem z7X : Zb Tryz.prog 22 zdZ := ⟨⟨Tryz.t22, by kernel_rfl, rfl, rfl, fun z h => by cases h; exact ⟨_, rfl, rfl, fun S h => wJ _⟩⟩, Tryz.underlying22, by intro h; cases h⟩
def zdY : TI := ⟨.struct [(0, 1), (1, 1), (2, 1), (3, 1), (4, 1)], 5, 32, some (.agg [.atom (.int .u8 0), .atom (.int .u8 0), .atom (.int .u8 0), .atom (.bool false), .osl 1 true []]), false⟩
theorem z7W : Zb Tryz.prog 24 zdY := ⟨⟨Tryz.t24, by kernel_rfl, rfl, rfl, fun z h => by cases h; exact ⟨_, rfl, rfl, fun S h => XJ (xo (zF rfl) (xo (zF rfl) (xo (zF rfl) (xo (zF rfl) (xo (wJ _) (ZX))))))⟩⟩, ⟨_, Tryz.underlying24, by kernel_rfl, by
  intro f hf
  simp only [List.mem_cons, List.not_mem_nil, or_false] at hf
  rcases hf with rfl | rfl | rfl | rfl | rfl
  ·exact ⟨Tryz.t5, by kernel_rfl⟩
  ·exact ⟨Tryz.t5, by kernel_rfl⟩
  ·exact ⟨Tryz.t5, by kernel_rfl⟩
  ·exact ⟨Tryz.t4, by kernel_rfl⟩
  ·exact ⟨Tryz.t22, by kernel_rfl⟩⟩, by intro h; cases h⟩
def zdX : TI := ⟨.slice 65, 1, 24, some (.osl 1 true []), false⟩
theorem z7V : Zb Tryz.prog 25 zdX := ⟨⟨Tryz.t25, by kernel_rfl, rfl, rfl, fun z h => by cases h; exact ⟨_, rfl, rfl, fun S h => wJ _⟩⟩, Tryz.underlying25, by intro h; cases h⟩
def zdW : TI := ⟨.struct [(0, 1), (1, 1), (2, 1)], 3, 40, some (.agg [.atom (.int .i64 0), .atom (.int .i64 0), .osl 1 true []]), false⟩
theorem z7U : Zb Tryz.prog 27 zdW := ⟨⟨Tryz.t27, by kernel_rfl, rfl, rfl, fun z h => by cases h; exact ⟨_, rfl, rfl, fun S h => XJ (xo (zF rfl) (xo (zF rfl) (xo (wJ _) (ZX))))⟩⟩, ⟨_, Tryz.underlying27, by kernel_rfl, by
  intro f hf
  simp only [List.mem_cons, List.not_mem_nil, or_false] at hf
  rcases hf with rfl | rfl | rfl
  ·exact ⟨Tryz.t3, by kernel_rfl⟩
  ·exact ⟨Tryz.t3, by kernel_rfl⟩
  ·exact ⟨Tryz.t25, by kernel_rfl⟩⟩, by intro h; cases h⟩
def zdV : TI := ⟨.slice 77, 1, 24, some (.osl 1 true []), false⟩
theorem z7T : Zb Tryz.prog 29 zdV := ⟨⟨Tryz.t29, by kernel_rfl, rfl, rfl, fun z h => by cases h; exact ⟨_, rfl, rfl, fun S h => wJ _⟩⟩, Tryz.underlying29, by intro h; cases h⟩
def zdU : TI := ⟨.int .i64, 1, 8, some (.atom (.int .i64 0)), false⟩
theorem z7S : Zb Tryz.prog 30 zdU := ⟨⟨Tryz.t30, by kernel_rfl, rfl, rfl, fun z h => by cases h; exact ⟨_, rfl, rfl, fun S h => zF rfl⟩⟩, Tryz.underlying30, by intro h; cases h⟩
def zdT : TI := ⟨.slice 60, 1, 24, some (.osl 1 true []), false⟩
theorem z7R : Zb Tryz.prog 40 zdT := ⟨⟨Tryz.t40, by kernel_rfl, rfl, rfl, fun z h => by cases h; exact ⟨_, rfl, rfl, fun S h => wJ _⟩⟩, Tryz.underlying40, by intro h; cases h⟩
def zdS : TI := ⟨.struct [(0, 1), (1, 1)], 2, 32, some (.agg [.atom (.int .u8 0), .osl 1 true []]), false⟩
theorem z7Q : Zb Tryz.prog 42 zdS := ⟨⟨Tryz.t42, by kernel_rfl, rfl, rfl, fun z h => by cases h; exact ⟨_, rfl, rfl, fun S h => XJ (xo (zF rfl) (xo (wJ _) (ZX)))⟩⟩, ⟨_, Tryz.underlying42, by kernel_rfl, by
  intro f hf
  simp only [List.mem_cons, List.not_mem_nil, or_false] at hf
  rcases hf with rfl | rfl
  ·exact ⟨Tryz.t5, by kernel_rfl⟩
  ·exact ⟨Tryz.t40, by kernel_rfl⟩⟩, by intro h; cases h⟩
def zdR : TI := ⟨.slice 4, 1, 24, some (.osl 1 true []), false⟩
theorem z7P : Zb Tryz.prog 45 zdR := ⟨⟨Tryz.t45, by kernel_rfl, rfl, rfl, fun z h => by cases h; exact ⟨_, rfl, rfl, fun S h => wJ _⟩⟩, Tryz.underlying45, by intro h; cases h⟩
def zdQ : TI := ⟨.slice 45, 1, 24, some (.osl 1 true []), false⟩
theorem z7O : Zb Tryz.prog 46 zdQ := ⟨⟨Tryz.t46, by kernel_rfl, rfl, rfl, fun z h => by cases h; exact ⟨_, rfl, rfl, fun S h => wJ _⟩⟩, Tryz.underlying46, by intro h; cases h⟩
def zdP : TI := ⟨.struct [(0, 1), (1, 1)], 2, 48, some (.agg [.osl 1 true [], .osl 1 true []]), false⟩
theorem z7N : Zb Tryz.prog 48 zdP := ⟨⟨Tryz.t48, by kernel_rfl, rfl, rfl, fun z h => by cases h; exact ⟨_, rfl, rfl, fun S h => XJ (xo (wJ _) (xo (wJ _) (ZX)))⟩⟩, ⟨_, Tryz.underlying48, by kernel_rfl, by
  intro f hf
  simp only [List.mem_cons, List.not_mem_nil, or_false] at hf
  rcases hf with rfl | rfl
  ·exact ⟨Tryz.t45, by kernel_rfl⟩
  ·exact ⟨Tryz.t46, by kernel_rfl⟩⟩, by intro h; cases h⟩
def zdO : TI := ⟨.slice 5, 1, 24, some (.osl 1 true []), false⟩
theorem z7M : Zb Tryz.prog 60 zdO := ⟨⟨Tryz.t60, by kernel_rfl, rfl, rfl, fun z h => by cases h; exact ⟨_, rfl, rfl, fun S h => wJ _⟩⟩, Tryz.underlying60, by intro h; cases h⟩
def zdN : TI := ⟨.slice 68, 1, 24, some (.osl 2 true []), false⟩
theorem z7L : Zb Tryz.prog 65 zdN := ⟨⟨Tryz.t65, by kernel_rfl, rfl, rfl, fun z h => by cases h; exact ⟨_, rfl, rfl, fun S h => wJ _⟩⟩, Tryz.underlying65, by intro h; cases h⟩
def zdM : TI := ⟨.int .u16, 1, 2, some (.atom (.int .u16 0)), false⟩
theorem z7K : Zb Tryz.prog 66 zdM := ⟨⟨Tryz.t66, by kernel_rfl, rfl, rfl, fun z h => by cases h; exact ⟨_, rfl, rfl, fun S h => zF rfl⟩⟩, Tryz.underlying66, by intro h; cases h⟩
def zdL : TI := ⟨.struct [(0, 1), (1, 1)], 2, 16, some (.agg [.atom (.int .i64 0), .atom (.int .i64 0)]), true⟩
theorem z7J : Zb Tryz.prog 68 zdL := ⟨⟨Tryz.t68, by kernel_rfl, rfl, rfl, fun z h => by cases h; exact ⟨_, rfl, rfl, fun S h => XJ (xo (zF rfl) (xo (zF rfl) (ZX)))⟩⟩, ⟨_, Tryz.underlying68, by kernel_rfl, by
  intro f hf
  simp only [List.mem_cons, List.not_mem_nil, or_false] at hf
  rcases hf with rfl | rfl
  ·exact ⟨Tryz.t3, by kernel_rfl⟩
  ·exact ⟨Tryz.t3, by kernel_rfl⟩⟩, fun _ => z4S (Go.Ex.zaq.eqn rfl) rfl rfl rfl rfl⟩
def zdK : TI := ⟨.slice 3, 1, 24, some (.osl 1 true []), false⟩
theorem z7I : Zb Tryz.prog 77 zdK := ⟨⟨Tryz.t77, by kernel_rfl, rfl, rfl, fun z h => by cases h; exact ⟨_, rfl, rfl, fun S h => wJ _⟩⟩, Tryz.underlying77, by intro h; cases h⟩
def zdJ : TI := ⟨.other, 1, 8, some (.atom .nilFunc), false⟩
theorem z7H : Zb Tryz.prog 82 zdJ := ⟨⟨Tryz.t82, by kernel_rfl, rfl, rfl, fun z h => by cases h; exact ⟨_, rfl, rfl, fun S h => zF rfl⟩⟩, ⟨_, Tryz.underlying82, rfl⟩, by intro h; cases h⟩
def zdI : TI := ⟨.other, 1, 8, some (.atom .nilFunc), false⟩
theorem z7G : Zb Tryz.prog 83 zdI := ⟨⟨Tryz.t83, by kernel_rfl, rfl, rfl, fun z h => by cases h; exact ⟨_, rfl, rfl, fun S h => zF rfl⟩⟩, ⟨_, Tryz.underlying83, rfl⟩, by intro h; cases h⟩
def zdH : TI := ⟨.other, 1, 8, some (.atom .nilFunc), false⟩
theorem z7F : Zb Tryz.prog 84 zdH := ⟨⟨Tryz.t84, by kernel_rfl, rfl, rfl, fun z h => by cases h; exact ⟨_, rfl, rfl, fun S h => zF rfl⟩⟩, ⟨_, Tryz.underlying84, rfl⟩, by intro h; cases h⟩
def zdG : TI := ⟨.other, 1, 8, some (.atom .nilFunc), false⟩
theorem z7E : Zb Tryz.prog 85 zdG := ⟨⟨Tryz.t85, by kernel_rfl, rfl, rfl, fun z h => by cases h; exact ⟨_, rfl, rfl, fun S h => zF rfl⟩⟩, ⟨_, Tryz.underlying85, rfl⟩, by intro h; cases h⟩
def zdF : TI := ⟨.other, 1, 8, some (.atom .nilFunc), false⟩
theorem z7D : Zb Tryz.prog 86 zdF := ⟨⟨Tryz.t86, by kernel_rfl, rfl, rfl, fun z h => by cases h; exact ⟨_, rfl, rfl, fun S h => zF rfl⟩⟩, ⟨_, Tryz.underlying86, rfl⟩, by intro h; cases h⟩
def zdE : TI := ⟨.other, 1, 8, some (.atom .nilFunc), false⟩
theorem z7C : Zb Tryz.prog 87 zdE := ⟨⟨Tryz.t87, by kernel_rfl, rfl, rfl, fun z h => by cases h; exact ⟨_, rfl, rfl, fun S h => zF rfl⟩⟩, ⟨_, Tryz.underlying87, rfl⟩, by intro h; cases h⟩
def zdD : TI := ⟨.other, 1, 8, some (.atom .nilFunc), false⟩
theorem z7B : Zb Tryz.prog 98 zdD := ⟨⟨Tryz.t98, by kernel_rfl, rfl, rfl, fun z h => by cases h; exact ⟨_, rfl, rfl, fun S h => zF rfl⟩⟩, ⟨_, Tryz.underlying98, rfl⟩, by intro h; cases h⟩
def z9N : TI := ⟨.other, 1, 8, some (.atom .nilFunc), false⟩
theorem z5N : Zb Tryz.prog 104 z9N := ⟨⟨Tryz.t104, by kernel_rfl, rfl, rfl, fun z h => by cases h; exact ⟨_, rfl, rfl, fun S h => zF rfl⟩⟩, ⟨_, Tryz.underlying104, rfl⟩, by intro h; cases h⟩
def z9M : TI := ⟨.other, 1, 8, none, false⟩
theorem z5M : Zb Tryz.prog 109 z9M := ⟨⟨Tryz.t109, by kernel_rfl, rfl, rfl, fun z h => by cases h⟩, ⟨_, Tryz.underlying109, rfl⟩, by intro h; cases h⟩
def z9L : TI := ⟨.other, 1, 8, some (.atom .nilFunc), false⟩
theorem z5L : Zb Tryz.prog 116 z9L := ⟨⟨Tryz.t116, by kernel_rfl, rfl, rfl, fun z h => by cases h; exact ⟨_, rfl, rfl, fun S h => zF rfl⟩⟩, ⟨_, Tryz.underlying116, rfl⟩, by intro h; cases h⟩
def z9K : TI := ⟨.other, 1, 8, some (.atom .nilFunc), false⟩
theorem z5K : Zb Tryz.prog 117 z9K := ⟨⟨Tryz.t117, by kernel_rfl, rfl, rfl, fun z h => by cases h; exact ⟨_, rfl, rfl, fun S h => zF rfl⟩⟩, ⟨_, Tryz.underlying117, rfl⟩, by intro h; cases h⟩
def z9J : TI := ⟨.other, 1, 8, some (.atom .nilFunc), false⟩
theorem z5J : Zb Tryz.prog 125 z9J := ⟨⟨Tryz.t125, by kernel_rfl, rfl, rfl, fun z h => by cases h; exact ⟨_, rfl, rfl, fun S h => zF rfl⟩⟩, ⟨_, Tryz.underlying125, rfl⟩, by intro h; cases h⟩
def z9I : TI := ⟨.other, 1, 8, some (.atom .nilFunc), false⟩
theorem z5I : Zb Tryz.prog 128 z9I := ⟨⟨Tryz.t128, by kernel_rfl, rfl, rfl, fun z h => by cases h; exact ⟨_, rfl, rfl, fun S h => zF rfl⟩⟩, ⟨_, Tryz.underlying128, rfl⟩, by intro h; cases h⟩
def z9H : TI := ⟨.other, 1, 8, some (.atom .nilFunc), false⟩
theorem z5H : Zb Tryz.prog 130 z9H := ⟨⟨Tryz.t130, by kernel_rfl, rfl, rfl, fun z h => by cases h; exact ⟨_, rfl, rfl, fun S h => zF rfl⟩⟩, ⟨_, Tryz.underlying130, rfl⟩, by intro h; cases h⟩
def z9G : TI := ⟨.other, 1, 8, some (.atom .nilFunc), false⟩
theorem z5G : Zb Tryz.prog 131 z9G := ⟨⟨Tryz.t131, by kernel_rfl, rfl, rfl, fun z h => by cases h; exact ⟨_, rfl, rfl, fun S h => zF rfl⟩⟩, ⟨_, Tryz.underlying131, rfl⟩, by intro h; cases h⟩
def z9F : TI := ⟨.struct [(0, 1), (1, 1), (2, 1)], 3, 24, some (.agg [.atom (.int .i64 0), .atom (.int .i64 0), .atom (.int .i64 0)]), true⟩
theorem z5F : Zb Tryz.prog 134 z9F := ⟨⟨Tryz.t134, by kernel_rfl, rfl, rfl, fun z h => by cases h; exact ⟨_, rfl, rfl, fun S h => XJ (xo (zF rfl) (xo (zF rfl) (xo (zF rfl) (ZX))))⟩⟩, ⟨_, Tryz.underlying134, by kernel_rfl, by
  intro f hf
  simp only [List.mem_cons, List.not_mem_nil, or_false] at hf
  rcases hf with rfl | rfl | rfl
  ·exact ⟨Tryz.t3, by kernel_rfl⟩
  ·exact ⟨Tryz.t3, by kernel_rfl⟩
  ·exact ⟨Tryz.t3, by kernel_rfl⟩⟩, fun _ => z4S (Go.Ex.z8O.eqn rfl) rfl rfl rfl rfl⟩
def z9E : TI := ⟨.other, 1, 8, some (.atom .nilFunc), false⟩
theorem z5E : Zb Tryz.prog 138 z9E := ⟨⟨Tryz.t138, by kernel_rfl, rfl, rfl, fun z h => by cases h; exact ⟨_, rfl, rfl, fun S h => zF rfl⟩⟩, ⟨_, Tryz.underlying138, rfl⟩, by intro h; cases h⟩
def z9D : TI := ⟨.slice 29, 1, 24, some (.osl 1 true []), false⟩
theorem z5D : Zb Tryz.prog 139 z9D := ⟨⟨Tryz.t139, by kernel_rfl, rfl, rfl, fun z h => by cases h; exact ⟨_, rfl, rfl, fun S h => wJ _⟩⟩, Tryz.underlying139, by intro h; cases h⟩
def z9C : TI := ⟨.other, 1, 8, some (.atom .nilFunc), false⟩
theorem z5C : Zb Tryz.prog 148 z9C := ⟨⟨Tryz.t148, by kernel_rfl, rfl, rfl, fun z h => by cases h; exact ⟨_, rfl, rfl, fun S h => zF rfl⟩⟩, ⟨_, Tryz.underlying148, rfl⟩, by intro h; cases h⟩
def z9B : TI := ⟨.slice 134, 1, 24, some (.osl 3 true []), false⟩
theorem z5B : Zb Tryz.prog 149 z9B := ⟨⟨Tryz.t149, by kernel_rfl, rfl, rfl, fun z h => by cases h; exact ⟨_, rfl, rfl, fun S h => wJ _⟩⟩, Tryz.underlying149, by intro h; cases h⟩
def tiL : List (Nat × TI) := [(1, ti1), (2, ti2), (3, ti3), (4, ti4), (5, ti5), (9, ti9), (22, zdZ), (24, zdY), (25, zdX), (27, zdW), (29, zdV), (30, zdU), (40, zdT), (42, zdS), (45, zdR), (46, zdQ), (48, zdP), (60, zdO), (65, zdN), (66, zdM), (68, zdL), (77, zdK), (82, zdJ), (83, zdI), (84, zdH), (85, zdG), (86, zdF), (87, zdE), (98, zdD), (104, z9N), (109, z9M), (116, z9L), (117, z9K), (125, z9J), (128, z9I), (130, z9H), (131, z9G), (134, z9F), (138, z9E), (139, z9D), (148, z9C), (149, z9B)]
def xr : TT := fun t => (tiL.find? fun p => p.1 == t).map (·.2)
def z5r (P : Program) : List (Nat × TI) → Prop
 | [] => True
 | p :: l => Zb P p.1 p.2 ∧ z5r P l
theorem z5r.mem {P : Program} : ∀ {l : List (Nat × TI)}, z5r P l → ∀ p ∈ l, Zb P p.1 p.2
 | p :: _, h, q, hq => by
  rcases List.mem_cons.1 hq with rfl | hq
  ·exact h.1
  ·exact z5r.mem h.2 q hq
 | [], _, _, hq => by cases hq
theorem z9u : z5r Tryz.prog tiL := ⟨z9A, z9z, z9y, z9x, z9w, z9v, z7X, z7W, z7V, z7U, z7T, z7S, z7R, z7Q, z7P, z7O, z7N, z7M, z7L, z7K, z7J, z7I, z7H, z7G, z7F, z7E, z7D, z7C, z7B, z5N, z5M, z5L, z5K, z5J, z5I, z5H, z5G, z5F, z5E, z5D, z5C, z5B, trivial⟩
theorem zz : xH Tryz.prog xr := by
 intro t i h
 unfold xr at h
 rw [Option.map_eq_some_iff] at h
 obtain ⟨p, h1, rfl⟩ := h
 have h2 := List.find?_some h1
 have h3 := z9u.mem p (List.mem_of_find?_eq_some h1)
 rw [beq_iff_eq.1 h2] at h3
 exact h3
theorem zf5 : xr 1 = some ⟨.other, 1, 8, some (.atom .nilFunc), false⟩ := rfl
theorem zf4 : xr 2 = some ⟨.int .i64, 1, 8, some (.atom (.int .i64 0)), false⟩ := rfl
theorem zf3 : xr 3 = some ⟨.int .i64, 1, 8, some (.atom (.int .i64 0)), false⟩ := rfl
theorem zf2 : xr 4 = some ⟨.bool, 1, 1, some (.atom (.bool false)), false⟩ := rfl
theorem zf1 : xr 5 = some ⟨.int .u8, 1, 1, some (.atom (.int .u8 0)), false⟩ := rfl
theorem zf0 : xr 9 = some ⟨.str, 1, 16, none, false⟩ := rfl
theorem zdn : xr 22 = some ⟨.slice 66, 1, 24, some (.osl 1 true []), false⟩ := rfl
theorem zdm : xr 24 = some ⟨.struct [(0, 1), (1, 1), (2, 1), (3, 1), (4, 1)], 5, 32, some (.agg [.atom (.int .u8 0), .atom (.int .u8 0), .atom (.int .u8 0), .atom (.bool false), .osl 1 true []]), false⟩ := rfl
theorem zdl : xr 25 = some ⟨.slice 65, 1, 24, some (.osl 1 true []), false⟩ := rfl
theorem zdk : xr 27 = some ⟨.struct [(0, 1), (1, 1), (2, 1)], 3, 40, some (.agg [.atom (.int .i64 0), .atom (.int .i64 0), .osl 1 true []]), false⟩ := rfl
theorem zdj : xr 29 = some ⟨.slice 77, 1, 24, some (.osl 1 true []), false⟩ := rfl
theorem zdi : xr 30 = some ⟨.int .i64, 1, 8, some (.atom (.int .i64 0)), false⟩ := rfl
theorem zdh : xr 40 = some ⟨.slice 60, 1, 24, some (.osl 1 true []), false⟩ := rfl
theorem zdg : xr 42 = some ⟨.struct [(0, 1), (1, 1)], 2, 32, some (.agg [.atom (.int .u8 0), .osl 1 true []]), false⟩ := rfl
theorem zdf : xr 45 = some ⟨.slice 4, 1, 24, some (.osl 1 true []), false⟩ := rfl
theorem zde : xr 46 = some ⟨.slice 45, 1, 24, some (.osl 1 true []), false⟩ := rfl
theorem zdd : xr 48 = some ⟨.struct [(0, 1), (1, 1)], 2, 48, some (.agg [.osl 1 true [], .osl 1 true []]), false⟩ := rfl
theorem zdc : xr 60 = some ⟨.slice 5, 1, 24, some (.osl 1 true []), false⟩ := rfl
theorem zdb : xr 65 = some ⟨.slice 68, 1, 24, some (.osl 2 true []), false⟩ := rfl
theorem zda : xr 66 = some ⟨.int .u16, 1, 2, some (.atom (.int .u16 0)), false⟩ := rfl
theorem zd9 : xr 68 = some ⟨.struct [(0, 1), (1, 1)], 2, 16, some (.agg [.atom (.int .i64 0), .atom (.int .i64 0)]), true⟩ := rfl
theorem zd8 : xr 77 = some ⟨.slice 3, 1, 24, some (.osl 1 true []), false⟩ := rfl
theorem zd7 : xr 82 = some ⟨.other, 1, 8, some (.atom .nilFunc), false⟩ := rfl
theorem zd6 : xr 83 = some ⟨.other, 1, 8, some (.atom .nilFunc), false⟩ := rfl
theorem zd5 : xr 84 = some ⟨.other, 1, 8, some (.atom .nilFunc), false⟩ := rfl
theorem zd4 : xr 85 = some ⟨.other, 1, 8, some (.atom .nilFunc), false⟩ := rfl
theorem zd3 : xr 86 = some ⟨.other, 1, 8, some (.atom .nilFunc), false⟩ := rfl
theorem zd2 : xr 87 = some ⟨.other, 1, 8, some (.atom .nilFunc), false⟩ := rfl
theorem zd1 : xr 98 = some ⟨.other, 1, 8, some (.atom .nilFunc), false⟩ := rfl
theorem zaT : xr 104 = some ⟨.other, 1, 8, some (.atom .nilFunc), false⟩ := rfl
theorem zaS : xr 109 = some ⟨.other, 1, 8, none, false⟩ := rfl
theorem zaR : xr 116 = some ⟨.other, 1, 8, some (.atom .nilFunc), false⟩ := rfl
theorem zaQ : xr 117 = some ⟨.other, 1, 8, some (.atom .nilFunc), false⟩ := rfl
theorem zaP : xr 125 = some ⟨.other, 1, 8, some (.atom .nilFunc), false⟩ := rfl
theorem zaO : xr 128 = some ⟨.other, 1, 8, some (.atom .nilFunc), false⟩ := rfl
theorem zaN : xr 130 = some ⟨.other, 1, 8, some (.atom .nilFunc), false⟩ := rfl
theorem zaM : xr 131 = some ⟨.other, 1, 8, some (.atom .nilFunc), false⟩ := rfl
theorem zaL : xr 134 = some ⟨.struct [(0, 1), (1, 1), (2, 1)], 3, 24, some (.agg [.atom (.int .i64 0), .atom (.int .i64 0), .atom (.int .i64 0)]), true⟩ := rfl
theorem zaK : xr 138 = some ⟨.other, 1, 8, some (.atom .nilFunc), false⟩ := rfl
theorem zaJ : xr 139 = some ⟨.slice 29, 1, 24, some (.osl 1 true []), false⟩ := rfl
theorem zaI : xr 148 = some ⟨.other, 1, 8, some (.atom .nilFunc), false⟩ := rfl
theorem zaH : xr 149 = some ⟨.slice 134, 1, 24, some (.osl 3 true []), false⟩ := rfl
attribute [go_sem] zf5 zf4 zf3 zf2 zf1 zf0 zdn zdm zdl zdk zdj zdi zdh zdg zdf zde zdd zdc zdb zda zd9 zd8 zd7 zd6 zd5 zd4 zd3 zd2 zd1 zaT zaS zaR zaQ zaP zaO zaN zaM zaL zaK zaJ zaI zaH
end Go.Own

namespace Go.Own
structure zY where
 States : Int
 Inputs : Int
 Outputs : Int
 Partial : Bool
 Edges : List Int
def jo (f0 : Int → A) (f1 : Int → A) (f2 : Int → A) (f3 : Bool → A) (f4 : List Int → A) (x : zY) : A := .agg [f0 x.States, f1 x.Inputs, f2 x.Outputs, f3 x.Partial, f4 x.Edges]
instance (f0 : Int → A) (f1 : Int → A) (f2 : Int → A) (f3 : Bool → A) (f4 : List Int → A) (g0 : Int → A) (g1 : Int → A) (g2 : Int → A) (g3 : Bool → A) (g4 : List Int → A) [h0 : WA f0 g0] [h1 : WA f1 g1] [h2 : WA f2 g2] [h3 : WA f3 g3] [h4 : WA f4 g4] : WA (jo f0 f1 f2 f3 f4) (jo g0 g1 g2 g3 g4) := ⟨fun x => by simp [jo, A.loose, A.looses, h0.lo, h1.lo, h2.lo, h3.lo, h4.lo]⟩
instance (f0 : Int → A) (f1 : Int → A) (f2 : Int → A) (f3 : Bool → A) (f4 : List Int → A) [h0 : uw f0] [h1 : uw f1] [h2 : uw f2] [h3 : uw f3] [h4 : uw f4] : uw (jo f0 f1 f2 f3 f4) := ⟨fun x y h => by
 simp only [jo, A.agg.injEq, List.cons.injEq, and_true] at h
 cases x; cases y
 simp only [zY.mk.injEq]
 exact ⟨h0.inj _ _ h.1, h1.inj _ _ h.2.1, h2.inj _ _ h.2.2.1, h3.inj _ _ h.2.2.2.1, h4.inj _ _ h.2.2.2.2⟩⟩
structure ye where
 Inputs : Int
 Words : List (List Int)
def jn (f0 : Int → A) (f1 : List (List Int) → A) (x : ye) : A := .agg [f0 x.Inputs, f1 x.Words]
instance (f0 : Int → A) (f1 : List (List Int) → A) (g0 : Int → A) (g1 : List (List Int) → A) [h0 : WA f0 g0] [h1 : WA f1 g1] : WA (jn f0 f1) (jn g0 g1) := ⟨fun x => by simp [jn, A.loose, A.looses, h0.lo, h1.lo]⟩
instance (f0 : Int → A) (f1 : List (List Int) → A) [h0 : uw f0] [h1 : uw f1] : uw (jn f0 f1) := ⟨fun x y h => by
 simp only [jn, A.agg.injEq, List.cons.injEq, and_true] at h
 cases x; cases y
 simp only [ye.mk.injEq]
 exact ⟨h0.inj _ _ h.1, h1.inj _ _ h.2⟩⟩
structure za where
 To : Int
 Out : Int
def wg (f0 : Int → A) (f1 : Int → A) (x : za) : A := .agg [f0 x.To, f1 x.Out]
instance (f0 : Int → A) (f1 : Int → A) [h0 : z1q f0] [h1 : z1q f1] : z1q (wg f0 f1) := ⟨fun x => by simp [wg, A.isD, A.areD, h0.isD, h1.isD]⟩
instance (f0 : Int → A) (f1 : Int → A) (g0 : Int → A) (g1 : Int → A) [h0 : WA f0 g0] [h1 : WA f1 g1] : WA (wg f0 f1) (wg g0 g1) := ⟨fun x => by simp [wg, A.loose, A.looses, h0.lo, h1.lo]⟩
instance (f0 : Int → A) (f1 : Int → A) (g0 : Int → A) (g1 : Int → A) [h0 : z5w f0 g0] [h1 : z5w f1 g1] : z5w (wg f0 f1) (wg g0 g1) := ⟨fun x => by simp [wg, A.live, A.lives, h0.live, h1.live], fun x => by simp [wg, A.shut, A.shuts, h0.sh, h1.sh]⟩
instance (f0 : Int → A) (f1 : Int → A) [h0 : uw f0] [h1 : uw f1] : uw (wg f0 f1) := ⟨fun x y h => by
 simp only [wg, A.agg.injEq, List.cons.injEq, and_true] at h
 cases x; cases y
 simp only [za.mk.injEq]
 exact ⟨h0.inj _ _ h.1, h1.inj _ _ h.2⟩⟩
structure z6 where
 Inputs : Int
 Outputs : Int
 Rows : List (List za)
def va (f0 : Int → A) (f1 : Int → A) (f2 : List (List za) → A) (x : z6) : A := .agg [f0 x.Inputs, f1 x.Outputs, f2 x.Rows]
instance (f0 : Int → A) (f1 : Int → A) (f2 : List (List za) → A) (g0 : Int → A) (g1 : Int → A) (g2 : List (List za) → A) [h0 : WA f0 g0] [h1 : WA f1 g1] [h2 : WA f2 g2] : WA (va f0 f1 f2) (va g0 g1 g2) := ⟨fun x => by simp [va, A.loose, A.looses, h0.lo, h1.lo, h2.lo]⟩
instance (f0 : Int → A) (f1 : Int → A) (f2 : List (List za) → A) [h0 : uw f0] [h1 : uw f1] [h2 : uw f2] : uw (va f0 f1 f2) := ⟨fun x y h => by
 simp only [va, A.agg.injEq, List.cons.injEq, and_true] at h
 cases x; cases y
 simp only [z6.mk.injEq]
 exact ⟨h0.inj _ _ h.1, h1.inj _ _ h.2.1, h2.inj _ _ h.2.2⟩⟩
structure z8 where
 States : List Bool
 Edges : List (List Bool)
def yC (f0 : List Bool → A) (f1 : List (List Bool) → A) (x : z8) : A := .agg [f0 x.States, f1 x.Edges]
instance (f0 : List Bool → A) (f1 : List (List Bool) → A) (g0 : List Bool → A) (g1 : List (List Bool) → A) [h0 : WA f0 g0] [h1 : WA f1 g1] : WA (yC f0 f1) (yC g0 g1) := ⟨fun x => by simp [yC, A.loose, A.looses, h0.lo, h1.lo]⟩
instance (f0 : List Bool → A) (f1 : List (List Bool) → A) [h0 : uw f0] [h1 : uw f1] : uw (yC f0 f1) := ⟨fun x y h => by
 simp only [yC, A.agg.injEq, List.cons.injEq, and_true] at h
 cases x; cases y
 simp only [z8.mk.injEq]
 exact ⟨h0.inj _ _ h.1, h1.inj _ _ h.2⟩⟩
structure zg where
 state_ : Int
 from_ : Int
 input_ : Int
def kT (f0 : Int → A) (f1 : Int → A) (f2 : Int → A) (x : zg) : A := .agg [f0 x.state_, f1 x.from_, f2 x.input_]
instance (f0 : Int → A) (f1 : Int → A) (f2 : Int → A) [h0 : z1q f0] [h1 : z1q f1] [h2 : z1q f2] : z1q (kT f0 f1 f2) := ⟨fun x => by simp [kT, A.isD, A.areD, h0.isD, h1.isD, h2.isD]⟩
def kh (x_ : zY) (m_Rows : List (List za)) : Option z6 :=
 some (z6.mk (w64 (1 + (w64 (Int.tmod x_.Inputs 3)))) (w64 (1 + (w64 (Int.tmod x_.Outputs 3)))) m_Rows)
def kg (s_ : Int) (m_Rows2 : List (List za)) : Option (LR (List (List za) × Int) (List (List za))) :=
 some (.next (m_Rows2, w64 (s_ + 1)))
def ke (m_Rows1 : List (List za)) (s_ : Int) (row : List za) : Option (LR (List (List za) × Int) (List (List za))) :=
 gd (m_Rows1.length + ([row] : List (List za)).length ≤ 4294967296) <|
 kg s_ (m_Rows1 ++ ([row] : List (List za)))
def q9 (i_ : Int) (row2 : List za) : Option (LR (List za × Int) (List za)) :=
 some (.next (row2, w64 (i_ + 1)))
def v8 (x_ : zY) (row1 : List za) (i_ : Int) (v_ : Int) : Option (LR (List za × Int) (List za)) :=
 bif x_.Partial then (
  gd ((4 : Int) ≠ 0) <|
  bif (Int.tmod v_ 4) == 3 then (
   gd (row1.length + ([(za.mk (-1) (-1))] : List za).length ≤ 4294967296) <|
   q9 i_ (row1 ++ ([(za.mk (-1) (-1))] : List za)))
  else (
   gd ((4 : Int) ≠ 0) <|
   gd (((w64 (1 + (w64 (Int.tmod x_.States 6)))) : Int) ≠ 0) <|
   gd ((4 : Int) ≠ 0) <|
   gd (((w64 (1 + (w64 (Int.tmod x_.States 6)))) : Int) ≠ 0) <|
   gd (((w64 (1 + (w64 (Int.tmod x_.Outputs 3)))) : Int) ≠ 0) <|
   gd (row1.length + ([(za.mk (Int.tmod (w64 (Int.tdiv v_ 4)) (w64 (1 + (w64 (Int.tmod x_.States 6))))) (Int.tmod (w64 (Int.tdiv (w64 (Int.tdiv v_ 4)) (w64 (1 + (w64 (Int.tmod x_.States 6)))))) (w64 (1 + (w64 (Int.tmod x_.Outputs 3))))))] : List za).length ≤ 4294967296) <|
   q9 i_ (row1 ++ ([(za.mk (Int.tmod (w64 (Int.tdiv v_ 4)) (w64 (1 + (w64 (Int.tmod x_.States 6))))) (Int.tmod (w64 (Int.tdiv (w64 (Int.tdiv v_ 4)) (w64 (1 + (w64 (Int.tmod x_.States 6)))))) (w64 (1 + (w64 (Int.tmod x_.Outputs 3))))))] : List za))))
 else (
  gd ((4 : Int) ≠ 0) <|
  gd (((w64 (1 + (w64 (Int.tmod x_.States 6)))) : Int) ≠ 0) <|
  gd ((4 : Int) ≠ 0) <|
  gd (((w64 (1 + (w64 (Int.tmod x_.States 6)))) : Int) ≠ 0) <|
  gd (((w64 (1 + (w64 (Int.tmod x_.Outputs 3)))) : Int) ≠ 0) <|
  gd (row1.length + ([(za.mk (Int.tmod (w64 (Int.tdiv v_ 4)) (w64 (1 + (w64 (Int.tmod x_.States 6))))) (Int.tmod (w64 (Int.tdiv (w64 (Int.tdiv v_ 4)) (w64 (1 + (w64 (Int.tmod x_.States 6)))))) (w64 (1 + (w64 (Int.tmod x_.Outputs 3))))))] : List za).length ≤ 4294967296) <|
  q9 i_ (row1 ++ ([(za.mk (Int.tmod (w64 (Int.tdiv v_ 4)) (w64 (1 + (w64 (Int.tmod x_.States 6))))) (Int.tmod (w64 (Int.tdiv (w64 (Int.tdiv v_ 4)) (w64 (1 + (w64 (Int.tmod x_.States 6)))))) (w64 (1 + (w64 (Int.tmod x_.Outputs 3))))))] : List za)))
def uZ (x_ : zY) (s_ : Int) (row1 : List za) (i_ : Int) : Option (LR (List za × Int) (List za)) :=
 bif decide (i_ < (w64 (1 + (w64 (Int.tmod x_.Inputs 3))))) then (
  bif decide ((w64 ((w64 (s_ * (w64 (1 + (w64 (Int.tmod x_.Inputs 3)))))) + i_)) < ((x_.Edges.length : Nat) : Int)) then (
   Option.bind (idx x_.Edges (w64 ((w64 (s_ * (w64 (1 + (w64 (Int.tmod x_.Inputs 3)))))) + i_))) fun Edge_e =>
   v8 x_ row1 i_ (w64 (Edge_e)))
  else (
   v8 x_ row1 i_ 0))
 else (
  some (.done row1))
def kc (x_ : zY) (m_Rows1 : List (List za)) (s_ : Int) : Option (LR (List (List za) × Int) (List (List za))) :=
 bif decide (s_ < (w64 (1 + (w64 (Int.tmod x_.States 6))))) then (
  Option.bind (loop (fun s => uZ x_ s_ s.1 s.2) (([] : List za), 0)) fun t5 =>
  ke m_Rows1 s_ t5)
 else (
  some (.done m_Rows1))
def kx (x_ : zY) : Option z6 :=
 gd ((6 : Int) ≠ 0) <|
 gd ((3 : Int) ≠ 0) <|
 gd ((3 : Int) ≠ 0) <|
 Option.bind (loop (fun s => kc x_ s.1 s.2) (([] : List (List za)), 0)) fun t2 =>
 kh x_ t2
def xE (x_ : ye) : Option Int :=
 gd ((3 : Int) ≠ 0) <|
 some (w64 (1 + (w64 (Int.tmod x_.Inputs 3))))
def ZF (out : List (List Int)) : Option (List (List Int)) :=
 some out
def je (i_ : Int) (out2 : List (List Int)) : Option (LR (List (List Int) × Int) (List (List Int))) :=
 some (.next (out2, w64 (i_ + 1)))
def jd (out1 : List (List Int)) (i_ : Int) (w_ : List Int) : Option (LR (List (List Int) × Int) (List (List Int))) :=
 gd (out1.length + ([w_] : List (List Int)).length ≤ 4294967296) <|
 je i_ (out1 ++ ([w_] : List (List Int)))
def vq (x_ : ye) (i_ : Int) (w_1 : List Int) (k_ : Int) : Option (LR (List Int × Int) (List Int)) :=
 Option.bind (idx x_.Words i_) fun Word_e =>
 bif decide (k_ < ((Word_e.length : Nat) : Int)) then (
  bif decide (k_ < 12) then (
   Option.bind (idx x_.Words i_) fun Word_e1 =>
   Option.bind (idx Word_e1 k_) fun Word_e_e =>
   Option.bind (xE x_) fun r_ =>
   gd ((r_ : Int) ≠ 0) <|
   gd (w_1.length + ([Int.tmod (w64 (Word_e_e)) r_] : List Int).length ≤ 4294967296) <|
   some (.next ((w_1 ++ ([Int.tmod (w64 (Word_e_e)) r_] : List Int)), w64 (k_ + 1))))
  else (
   some (.done w_1)))
 else (
  some (.done w_1))
def un (x_ : ye) (out1 : List (List Int)) (i_ : Int) : Option (LR (List (List Int) × Int) (List (List Int))) :=
 bif decide (i_ < ((x_.Words.length : Nat) : Int)) then (
  bif decide (i_ < 40) then (
   Option.bind (loop (fun s => vq x_ i_ s.1 s.2) (([] : List Int), 0)) fun t5 =>
   jd out1 i_ t5)
  else (
   some (.done out1)))
 else (
  some (.done out1))
def kQ (x_ : ye) : Option (List (List Int)) :=
 Option.bind (loop (fun s => un x_ s.1 s.2) (([] : List (List Int)), 0)) fun t2 =>
 ZF t2
def jF : Option Int :=
 some 0
def vj (a_ : List Int) (b_ : List Int) (i_ : Int) : Option (LR Int (Unit ⊕ Int)) :=
 bif decide (i_ < ((a_.length : Nat) : Int)) then (
  Option.bind (idx a_ i_) fun a__e =>
  Option.bind (idx b_ i_) fun b__e =>
  bif decide (a__e < b__e) then (
   some (.done (.inr (-1))))
  else (
   Option.bind (idx a_ i_) fun a__e1 =>
   Option.bind (idx b_ i_) fun b__e1 =>
   bif decide (a__e1 > b__e1) then (
    some (.done (.inr 1)))
   else (
    some (.next (w64 (i_ + 1))))))
 else (
  some (.done (.inl ())))
def wZ (a_ : List Int) (b_ : List Int) : Option Int :=
 bif ((a_.length : Nat) : Int) != ((b_.length : Nat) : Int) then (
  bif decide (((a_.length : Nat) : Int) < ((b_.length : Nat) : Int)) then (
   some (-1))
  else (
   some 1))
 else (
  Option.bind (loop (fun s => vj a_ b_ s) 0) fun t2 =>
  match t2 with
  | .inl p => jF
  | .inr p => some p)
def Zo (w_ : List Int) (low : Int) (l_1 : List (List Int)) : Option (List (List Int)) :=
 gd (([] : List Int).length + w_.length ≤ 4294967296) <|
 Option.bind (idx l_1 low) fun l__e =>
 some (l_1.set low.toNat w_)
def jj (low : Int) (l_2 : List (List Int)) (i_ : Int) : Option (LR (List (List Int) × Int) (List (List Int))) :=
 bif decide (i_ > low) then (
  Option.bind (idx l_2 (w64 (i_ - 1))) fun l__e1 =>
  Option.bind (idx l_2 i_) fun l__e2 =>
  some (.next ((l_2.set i_.toNat l__e1), w64 (i_ - 1))))
 else (
  some (.done l_2))
def uI (l_ : List (List Int)) (w_ : List Int) (low : Int) : Option (List (List Int)) :=
 gd (l_.length + ([[]] : List (List Int)).length ≤ 4294967296) <|
 Option.bind (loop (fun s => jj low s.1 s.2) ((l_ ++ ([[]] : List (List Int))), w64 ((((l_ ++ ([[]] : List (List Int))).length : Nat) : Int) - 1))) fun t4 =>
 Zo w_ low t4
def Zp (l_ : List (List Int)) (w_ : List Int) (low : Int) : Option (List (List Int)) :=
 bif decide (low < ((l_.length : Nat) : Int)) then (
  Option.bind (idx l_ low) fun l__e3 =>
  Option.bind (wZ l__e3 w_) fun r_ =>
  bif r_ == 0 then (
   some l_)
  else (
   uI l_ w_ low))
 else (
  uI l_ w_ low)
def ji (l_ : List (List Int)) (w_ : List Int) (low1 : Int) (high : Int) : Option (LR (Int × Int) Int) :=
 bif decide (low1 < high) then (
  gd ((2 : Int) ≠ 0) <|
  Option.bind (idx l_ (w64 (Int.tdiv (w64 (low1 + high)) 2))) fun l__e4 =>
  Option.bind (wZ l__e4 w_) fun r_1 =>
  bif decide (r_1 < 0) then (
   some (.next (w64 ((w64 (Int.tdiv (w64 (low1 + high)) 2)) + 1), high)))
  else (
   some (.next (low1, w64 (Int.tdiv (w64 (low1 + high)) 2)))))
 else (
  some (.done low1))
def Xo (l_ : List (List Int)) (w_ : List Int) : Option (List (List Int)) :=
 Option.bind (loop (fun s => ji l_ w_ s.1 s.2) (0, ((l_.length : Nat) : Int))) fun t5 =>
 Zp l_ w_ t5
def Yr (out : List (List Int)) : Option (List (List Int)) :=
 some out
def wm (l_ : List (List Int)) (out1 : List (List Int)) (i_ : Int) : Option (LR (List (List Int) × Int) (List (List Int))) :=
 bif decide (i_ < ((l_.length : Nat) : Int)) then (
  Option.bind (idx l_ i_) fun l__e =>
  Option.bind (Xo out1 l__e) fun r_ =>
  some (.next (r_, w64 (i_ + 1))))
 else (
  some (.done out1))
def ku (l_ : List (List Int)) : Option (List (List Int)) :=
 Option.bind (loop (fun s => wm l_ s.1 s.2) (([] : List (List Int)), 0)) fun t2 =>
 Yr t2
def ZV (x_ : ye) : Option (List (List Int)) :=
 Option.bind (kQ x_) fun r_ =>
 Option.bind (ku r_) fun r_1 =>
 some r_1
def uY (out : List (List Int)) : Option (List (List Int)) :=
 Option.bind (ku out) fun r_ =>
 some r_
def uX (i_ : Int) (out2 : List (List Int)) : Option (LR (List (List Int) × Int) (List (List Int))) :=
 some (.next (out2, w64 (i_ + 1)))
def uW (out1 : List (List Int)) (i_ : Int) (w_ : List Int) : Option (LR (List (List Int) × Int) (List (List Int))) :=
 gd (out1.length + ([w_] : List (List Int)).length ≤ 4294967296) <|
 uX i_ (out1 ++ ([w_] : List (List Int)))
def wN (l_ : List (List Int)) (inputs : Int) (i_ : Int) (w_1 : List Int) (k_ : Int) : Option (LR (List Int × Int) (List Int)) :=
 Option.bind (idx l_ i_) fun l__e =>
 bif decide (k_ < ((l__e.length : Nat) : Int)) then (
  Option.bind (idx l_ i_) fun l__e1 =>
  Option.bind (idx l__e1 k_) fun l__e_e =>
  gd ((inputs : Int) ≠ 0) <|
  gd (w_1.length + ([Int.tmod l__e_e inputs] : List Int).length ≤ 4294967296) <|
  some (.next ((w_1 ++ ([Int.tmod l__e_e inputs] : List Int)), w64 (k_ + 1))))
 else (
  some (.done w_1))
def wO (l_ : List (List Int)) (inputs : Int) (out1 : List (List Int)) (i_ : Int) : Option (LR (List (List Int) × Int) (List (List Int))) :=
 bif decide (i_ < ((l_.length : Nat) : Int)) then (
  Option.bind (loop (fun s => wN l_ inputs i_ s.1 s.2) (([] : List Int), 0)) fun t5 =>
  uW out1 i_ t5)
 else (
  some (.done out1))
def jl (l_ : List (List Int)) (inputs : Int) : Option (List (List Int)) :=
 Option.bind (loop (fun s => wO l_ inputs s.1 s.2) (([] : List (List Int)), 0)) fun t2 =>
 uY t2
def kb : Option za :=
 some (za.mk (-1) (-1))
def uU (m_ : z6) (x_ : za) : Option Bool :=
 Option.bind (kb) fun r_ =>
 bif (x_.To == r_.To) && ((x_.Out == r_.Out) && true) then (
  some true)
 else (
  bif decide (x_.To ≥ 0) then (
   bif decide (x_.To < ((m_.Rows.length : Nat) : Int)) then (
    bif decide (x_.Out ≥ 0) then (
     some (decide (x_.Out < m_.Outputs)))
    else (
     some false))
   else (
    some false))
  else (
   some false))
def uu (x_ : za) (x1 : z6) : Option Bool :=
 Option.bind (uU x1 x_) fun r_ =>
 some (!r_)
def yg : Option Int :=
 some (-1)
def zB (s_ : List za) (f_ : z6) (x8 : Int) : Option (LR Int (Unit ⊕ Int)) :=
 bif decide (x8 < ((s_.length : Nat) : Int)) then (
  Option.bind (idx s_ x8) fun s__e =>
  Option.bind (uu s__e f_) fun r_ =>
  bif r_ then (
   some (.done (.inr x8)))
  else (
   some (.next (w64 (x8 + 1)))))
 else (
  some (.done (.inl ())))
def y7 (s_ : List za) (f_ : z6) : Option Int :=
 Option.bind (loop (fun s => zB s_ f_ s) 0) fun t2 =>
 match t2 with
 | .inl p => yg
 | .inr p => some p
def zK (s_ : List za) (f_ : z6) : Option Bool :=
 Option.bind (y7 s_ f_) fun r_ =>
 some (decide (r_ ≥ 0))
def qO : Option Int :=
 some 0
def xO (m_ : z6) (x36 : Int) : Option (LR Int (Unit ⊕ Int)) :=
 bif decide (x36 < ((m_.Rows.length : Nat) : Int)) then (
  Option.bind (idx m_.Rows x36) fun Row_e =>
  bif ((Row_e.length : Nat) : Int) != m_.Inputs then (
   some (.done (.inr 1)))
  else (
   Option.bind (zK Row_e m_) fun r_ =>
   bif r_ then (
    some (.done (.inr 1)))
   else (
    some (.next (w64 (x36 + 1))))))
 else (
  some (.done (.inl ())))
def wy (m_ : z6) : Option Int :=
 bif decide (m_.Inputs > 16) then (
  some 3)
 else (
  bif decide (m_.Outputs > 16) then (
   some 3)
  else (
   bif decide (((m_.Rows.length : Nat) : Int) > 64) then (
    some 3)
   else (
    bif decide (m_.Inputs < 1) then (
     some 1)
    else (
     bif decide (m_.Outputs < 1) then (
      some 1)
     else (
      bif decide (((m_.Rows.length : Nat) : Int) < 1) then (
       some 1)
      else (
       Option.bind (loop (fun s => xO m_ s) 0) fun t2 =>
       match t2 with
       | .inl p => qO
       | .inr p => some p))))))
def jU (c_ : Int) (x1 : Int) : Option Bool :=
 bif decide (c_ < 0) then (
  some true)
 else (
  some (decide (c_ ≥ x1)))
def xV : Option Int :=
 some (-1)
def zV (s_ : List Int) (f_ : Int) (x8 : Int) : Option (LR Int (Unit ⊕ Int)) :=
 bif decide (x8 < ((s_.length : Nat) : Int)) then (
  Option.bind (idx s_ x8) fun s__e =>
  Option.bind (jU s__e f_) fun r_ =>
  bif r_ then (
   some (.done (.inr x8)))
  else (
   some (.next (w64 (x8 + 1)))))
 else (
  some (.done (.inl ())))
def xv (s_ : List Int) (f_ : Int) : Option Int :=
 Option.bind (loop (fun s => zV s_ f_ s) 0) fun t2 =>
 match t2 with
 | .inl p => xV
 | .inr p => some p
def yI (s_ : List Int) (f_ : Int) : Option Bool :=
 Option.bind (xv s_ f_) fun r_ =>
 some (decide (r_ ≥ 0))
def qD (w_ : List Int) (inputs : Int) : Option Int :=
 bif decide (inputs > 16) then (
  some 3)
 else (
  bif decide (((w_.length : Nat) : Int) > 256) then (
   some 3)
  else (
   bif decide (inputs < 1) then (
    some 1)
   else (
    Option.bind (yI w_ inputs) fun r_ =>
    bif r_ then (
     some 1)
    else (
     some 0))))
def Zw : Option Int :=
 some 0
def vn (l_ : List (List Int)) (inputs : Int) (x19 : Int) : Option (LR Int (Unit ⊕ Int)) :=
 bif decide (x19 < ((l_.length : Nat) : Int)) then (
  Option.bind (idx l_ x19) fun l__e =>
  Option.bind (qD l__e inputs) fun r_ =>
  bif r_ != 0 then (
   some (.done (.inr r_)))
  else (
   some (.next (w64 (x19 + 1)))))
 else (
  some (.done (.inl ())))
def qI (l_ : List (List Int)) (inputs : Int) : Option Int :=
 bif decide (inputs > 16) then (
  some 3)
 else (
  bif decide (((l_.length : Nat) : Int) > 4096) then (
   some 3)
  else (
   bif decide (inputs < 1) then (
    some 1)
   else (
    Option.bind (loop (fun s => vn l_ inputs s) 0) fun t2 =>
    match t2 with
    | .inl p => Zw
    | .inr p => some p)))
def qb (x_ : Int) : Option Bool :=
 some (x_ != x_)
def wR (x_ : Int) (y_ : Int) : Option Int :=
 Option.bind (qb x_) fun r_ =>
 Option.bind (qb y_) fun r_1 =>
 bif r_ then (
  bif r_1 then (
   some 0)
  else (
   some (-1)))
 else (
  bif r_1 then (
   some 1)
  else (
   bif decide (x_ < y_) then (
    some (-1))
   else (
    bif decide (x_ > y_) then (
     some 1)
    else (
     some 0))))
def x6 (s1 : List Int) (s2 : List Int) : Option Int :=
 bif decide (((s1.length : Nat) : Int) < ((s2.length : Nat) : Int)) then (
  some (-1))
 else (
  some 0)
def y8 (s1 : List Int) (s2 : List Int) (x11 : Int) : Option (LR Int (Unit ⊕ Int)) :=
 bif decide (x11 < ((s1.length : Nat) : Int)) then (
  Option.bind (idx s1 x11) fun s_e =>
  bif decide (x11 ≥ ((s2.length : Nat) : Int)) then (
   some (.done (.inr 1)))
  else (
   Option.bind (idx s2 x11) fun s_e1 =>
   Option.bind (wR s_e s_e1) fun r_ =>
   bif r_ != 0 then (
    some (.done (.inr r_)))
   else (
    some (.next (w64 (x11 + 1))))))
 else (
  some (.done (.inl ())))
def x3 (s1 : List Int) (s2 : List Int) : Option Int :=
 Option.bind (loop (fun s => y8 s1 s2 s) 0) fun t2 =>
 match t2 with
 | .inl p => x6 s1 s2
 | .inr p => some p
def kj : Option Int :=
 some 0
def ue (vals : List Int) (x8 : Int) : Option (LR Int (Unit ⊕ Int)) :=
 bif decide (x8 < ((vals.length : Nat) : Int)) then (
  Option.bind (idx vals x8) fun val_e =>
  bif val_e != 0 then (
   some (.done (.inr val_e)))
  else (
   some (.next (w64 (x8 + 1)))))
 else (
  some (.done (.inl ())))
def ZY (vals : List Int) : Option Int :=
 Option.bind (loop (fun s => ue vals s) 0) fun t2 =>
 match t2 with
 | .inl p => kj
 | .inr p => some p
def wX (a_ : List Int) (b_ : List Int) : Option Int :=
 Option.bind (wR ((a_.length : Nat) : Int) ((b_.length : Nat) : Int)) fun r_ =>
 Option.bind (x3 a_ b_) fun r_1 =>
 Option.bind (ZY ([r_, r_1])) fun r_2 =>
 some r_2
def j5 : Option Bool :=
 some true
def vo (l_ : List (List Int)) (i_ : Int) : Option (LR Int (Unit ⊕ Bool)) :=
 bif decide (i_ < ((l_.length : Nat) : Int)) then (
  Option.bind (idx l_ (w64 (i_ - 1))) fun l__e =>
  Option.bind (idx l_ i_) fun l__e1 =>
  Option.bind (wX l__e l__e1) fun r_ =>
  bif decide (r_ ≥ 0) then (
   some (.done (.inr false)))
  else (
   some (.next (w64 (i_ + 1)))))
 else (
  some (.done (.inl ())))
def kC (l_ : List (List Int)) : Option Bool :=
 Option.bind (loop (fun s => vo l_ s) 1) fun t2 =>
 match t2 with
 | .inl p => j5
 | .inr p => some p
def Zv (n_ : Int) : Option Int :=
 some n_
def vm (l_ : List (List Int)) (n_1 : Int) (x7 : Int) : Option (LR (Int × Int) Int) :=
 bif decide (x7 < ((l_.length : Nat) : Int)) then (
  Option.bind (idx l_ x7) fun l__e =>
  some (.next (w64 (n_1 + ((l__e.length : Nat) : Int)), w64 (x7 + 1))))
 else (
  some (.done n_1))
def qH (l_ : List (List Int)) : Option Int :=
 Option.bind (loop (fun s => vm l_ s.1 s.2) (0, 0)) fun t2 =>
 Zv t2
def qJ (l_ : List (List Int)) (inputs : Int) : Option Int :=
 Option.bind (qI l_ inputs) fun r_ =>
 bif r_ != 0 then (
  some r_)
 else (
  Option.bind (kC l_) fun r_1 =>
  bif !r_1 then (
   some 1)
  else (
   Option.bind (qH l_) fun r_2 =>
   bif decide (r_2 > 65536) then (
    some 3)
   else (
    some 0)))
def xm (m_ : z6) (l_ : List (List Int)) : Option Int :=
 Option.bind (wy m_) fun r_ =>
 bif r_ != 0 then (
  some r_)
 else (
  Option.bind (qJ l_ m_.Inputs) fun r_1 =>
  some r_1)
def kU (m_ : z6) (c_Edges : List (List Bool)) : Option z8 :=
 some (z8.mk (List.replicate ((m_.Rows.length : Nat) : Int).toNat false) c_Edges)
def xX (m_ : z6) (c_Edges1 : List (List Bool)) (x17 : Int) : Option (LR (List (List Bool) × Int) (List (List Bool))) :=
 bif decide (x17 < ((m_.Rows.length : Nat) : Int)) then (
  gd ((0 : Int) ≤ m_.Inputs ∧ (m_.Inputs : Int) ≤ 4294967296) <|
  Option.bind (idx c_Edges1 x17) fun c_Edge_e =>
  some (.next ((c_Edges1.set x17.toNat (List.replicate m_.Inputs.toNat false)), w64 (x17 + 1))))
 else (
  some (.done c_Edges1))
def uJ (m_ : z6) : Option z8 :=
 gd ((0 : Int) ≤ ((m_.Rows.length : Nat) : Int) ∧ (((m_.Rows.length : Nat) : Int) : Int) ≤ 4294967296) <|
 gd ((0 : Int) ≤ ((m_.Rows.length : Nat) : Int) ∧ (((m_.Rows.length : Nat) : Int) : Int) ≤ 4294967296) <|
 Option.bind (loop (fun s => xX m_ s.1 s.2) ((List.replicate ((m_.Rows.length : Nat) : Int).toNat ([] : List Bool)), 0)) fun t2 =>
 kU m_ t2
def wz {σ : Type} (yy : σ → (Int × Int) → Option σ) (m_ : z6) (w_ : List Int) (sg2 : σ) (s_ : Int) (x14 : Int) : Option (LR (σ × Int × Int) σ) :=
 bif decide (x14 < ((w_.length : Nat) : Int)) then (
  Option.bind (idx w_ x14) fun w__e =>
  Option.bind (idx m_.Rows s_) fun Row_e =>
  Option.bind (idx Row_e w__e) fun Row_e_e =>
  bif Row_e_e.To == (-1) then (
   some (.done sg2))
  else (
   Option.bind (yy sg2 (Row_e_e.To, w64 (x14 + 1))) fun sg3 =>
   some (.next (sg3, Row_e_e.To, w64 (x14 + 1)))))
 else (
  some (.done sg2))
def wB (m_ : z6) (w_ : List Int) {σ : Type} (yy : σ → (Int × Int) → Option σ) (sg : σ) : Option σ :=
 Option.bind (yy sg (0, 0)) fun sg1 =>
 Option.bind (loop (fun s => wz yy m_ w_ s.1 s.2.1 s.2.2) (sg1, 0, 0)) fun t1 =>
 some t1
def xF (x1 : List Int) (x2 : z6) (s_ : Int) (k_ : Int) (y0 : z8) : Option z8 :=
 Option.bind (idx y0.States s_) fun State_e =>
 bif decide (k_ < ((x1.length : Nat) : Int)) then (
  Option.bind (idx x2.Rows s_) fun Row_e =>
  Option.bind (idx x1 k_) fun x_e =>
  Option.bind (idx Row_e x_e) fun Row_e_e =>
  bif Row_e_e.To != (-1) then (
   Option.bind (idx y0.Edges s_) fun Edge_e =>
   Option.bind (idx x1 k_) fun x_e1 =>
   Option.bind (idx Edge_e x_e1) fun Edge_e_e =>
   some (z8.mk (y0.States.set s_.toNat true) (y0.Edges.set s_.toNat (Edge_e.set x_e1.toNat true))))
  else (
   some (z8.mk (y0.States.set s_.toNat true) y0.Edges)))
 else (
  some (z8.mk (y0.States.set s_.toNat true) y0.Edges))
def qU (c_States : List Bool) (c_Edges : List (List Bool)) : Option (z8 × Int) :=
 some ((z8.mk c_States c_Edges), 0)
def xP (m_ : z6) (l_ : List (List Int)) (c_States1 : List Bool) (c_Edges1 : List (List Bool)) (x21 : Int) : Option (LR (List Bool × List (List Bool) × Int) ((List Bool × List (List Bool)))) :=
 bif decide (x21 < ((l_.length : Nat) : Int)) then (
  Option.bind (idx l_ x21) fun l__e =>
  Option.bind (wB m_ l__e (fun s x => xF l__e m_ x.1 x.2 s) (z8.mk c_States1 c_Edges1)) fun r_2 =>
  some (.next (r_2.States, r_2.Edges, w64 (x21 + 1))))
 else (
  some (.done (c_States1, c_Edges1)))
def vu (m_ : z6) (l_ : List (List Int)) : Option (z8 × Int) :=
 Option.bind (xm m_ l_) fun r_ =>
 bif r_ != 0 then (
  some ((z8.mk [] []), r_))
 else (
  Option.bind (uJ m_) fun r_1 =>
  Option.bind (loop (fun s => xP m_ l_ s.1 s.2.1 s.2.2) (r_1.States, r_1.Edges, 0)) fun t2 =>
  qU t2.1 t2.2)
def ud (x0 : List Int) (s_ : Int) (k_ : Int) (y1 : z8) : Option z8 :=
 bif k_ == ((x0.length : Nat) : Int) then (
  Option.bind (idx y1.States s_) fun State_e =>
  some (z8.mk (y1.States.set s_.toNat true) y1.Edges))
 else (
  bif k_ == (w64 (((x0.length : Nat) : Int) - 1)) then (
   Option.bind (idx y1.Edges s_) fun Edge_e =>
   Option.bind (idx x0 k_) fun x_e =>
   Option.bind (idx Edge_e x_e) fun Edge_e_e =>
   some (z8.mk y1.States (y1.Edges.set s_.toNat (Edge_e.set x_e.toNat true))))
  else (
   some y1))
def ZH (c_States : List Bool) (c_Edges : List (List Bool)) : Option z8 :=
 some (z8.mk c_States c_Edges)
def vt (m_ : z6) (l_ : List (List Int)) (c_States1 : List Bool) (c_Edges1 : List (List Bool)) (x12 : Int) : Option (LR (List Bool × List (List Bool) × Int) ((List Bool × List (List Bool)))) :=
 bif decide (x12 < ((l_.length : Nat) : Int)) then (
  Option.bind (idx l_ x12) fun l__e =>
  Option.bind (wB m_ l__e (fun s x => ud l__e x.1 x.2 s) (z8.mk c_States1 c_Edges1)) fun r_1 =>
  some (.next (r_1.States, r_1.Edges, w64 (x12 + 1))))
 else (
  some (.done (c_States1, c_Edges1)))
def qS (m_ : z6) (l_ : List (List Int)) : Option z8 :=
 Option.bind (uJ m_) fun r_ =>
 Option.bind (loop (fun s => vt m_ l_ s.1 s.2.1 s.2.2) (r_.States, r_.Edges, 0)) fun t2 =>
 ZH t2.1 t2.2
def wo (is : Bool) : Option Bool :=
 some is
def vb (x_ : Bool) (x1 : Unit) : Option Bool :=
 Option.bind (wo x_) fun r_ =>
 some (!r_)
def xz : Option Int :=
 some (-1)
def zQ (s_ : List Bool) (x8 : Int) : Option (LR Int (Unit ⊕ Int)) :=
 bif decide (x8 < ((s_.length : Nat) : Int)) then (
  Option.bind (idx s_ x8) fun s__e =>
  Option.bind (vb s__e ()) fun r_ =>
  bif r_ then (
   some (.done (.inr x8)))
  else (
   some (.next (w64 (x8 + 1)))))
 else (
  some (.done (.inl ())))
def yV (s_ : List Bool) (f_ : Unit) : Option Int :=
 Option.bind (loop (fun s => zQ s_ s) 0) fun t2 =>
 match t2 with
 | .inl p => xz
 | .inr p => some p
def yn (s_ : List Bool) (f_ : Unit) : Option Bool :=
 Option.bind (yV s_ ()) fun r_ =>
 some (decide (r_ ≥ 0))
def wQ (l_ : List Bool) (is : Unit) : Option Bool :=
 Option.bind (yn l_ ()) fun r_ =>
 some (!r_)
def yp (m_ : z6) (l_ : List (List Int)) : Option (Bool × Int) :=
 Option.bind (xm m_ l_) fun r_ =>
 bif r_ != 0 then (
  some (false, r_))
 else (
  Option.bind (qS m_ l_) fun r_1 =>
  Option.bind (wQ r_1.States ()) fun r_2 =>
  some (r_2, 0))
def yz (is : Bool) : Option Bool :=
 some is
def w8 (x_ : Bool) (x1 : Unit) : Option Bool :=
 Option.bind (yz x_) fun r_ =>
 some (!r_)
def yS : Option Int :=
 some (-1)
def zL (s_ : List Bool) (x8 : Int) : Option (LR Int (Unit ⊕ Int)) :=
 bif decide (x8 < ((s_.length : Nat) : Int)) then (
  Option.bind (idx s_ x8) fun s__e =>
  Option.bind (w8 s__e ()) fun r_ =>
  bif r_ then (
   some (.done (.inr x8)))
  else (
   some (.next (w64 (x8 + 1)))))
 else (
  some (.done (.inl ())))
def ym (s_ : List Bool) (f_ : Unit) : Option Int :=
 Option.bind (loop (fun s => zL s_ s) 0) fun t2 =>
 match t2 with
 | .inl p => yS
 | .inr p => some p
def yb (s_ : List Bool) (f_ : Unit) : Option Bool :=
 Option.bind (ym s_ ()) fun r_ =>
 some (decide (r_ ≥ 0))
def xJ (l_ : List Bool) (is : Unit) : Option Bool :=
 Option.bind (yb l_ ()) fun r_ =>
 some (!r_)
def yZ (r_ : List Bool) : Option Bool :=
 Option.bind (xJ r_ ()) fun r_1 =>
 some r_1
def wI (x_ : List Bool) (x1 : Unit) : Option Bool :=
 Option.bind (yZ x_) fun r_ =>
 some (!r_)
def xe : Option Int :=
 some (-1)
def zN (s_ : List (List Bool)) (x8 : Int) : Option (LR Int (Unit ⊕ Int)) :=
 bif decide (x8 < ((s_.length : Nat) : Int)) then (
  Option.bind (idx s_ x8) fun s__e =>
  Option.bind (wI s__e ()) fun r_ =>
  bif r_ then (
   some (.done (.inr x8)))
  else (
   some (.next (w64 (x8 + 1)))))
 else (
  some (.done (.inl ())))
def yH (s_ : List (List Bool)) (f_ : Unit) : Option Int :=
 Option.bind (loop (fun s => zN s_ s) 0) fun t2 =>
 match t2 with
 | .inl p => xe
 | .inr p => some p
def yi (s_ : List (List Bool)) (f_ : Unit) : Option Bool :=
 Option.bind (yH s_ ()) fun r_ =>
 some (decide (r_ ≥ 0))
def wn (l_ : List (List Bool)) (is : Unit) : Option Bool :=
 Option.bind (yi l_ ()) fun r_ =>
 some (!r_)
def zX (m_ : z6) (l_ : List (List Int)) : Option (Bool × Int) :=
 Option.bind (xm m_ l_) fun r_ =>
 bif r_ != 0 then (
  some (false, r_))
 else (
  Option.bind (qS m_ l_) fun r_1 =>
  Option.bind (wn r_1.Edges ()) fun r_2 =>
  some (r_2, 0))
def ZQ (m_ : z6) (s_ : Int) (i_ : Int) : Option za :=
 bif decide (s_ < 0) then (
  some (za.mk (-1) (-1)))
 else (
  Option.bind (idx m_.Rows s_) fun Row_e =>
  Option.bind (idx Row_e i_) fun Row_e_e =>
  some Row_e_e)
def ub (rc_ : z6 → Int → (List Int) → Option Int) (m_ : z6) (s_ : Int) (w_ : List Int) : Option Int :=
 bif ((w_.length : Nat) : Int) == 0 then (
  some s_)
 else (
  Option.bind (idx w_ 0) fun w__e =>
  Option.bind (ZQ m_ s_ w__e) fun r_ =>
  gd ((0 : Int) ≤ 1 ∧ (1 : Int) ≤ ((w_.length : Nat) : Int) ∧ (((w_.length : Nat) : Int) : Int) ≤ ((w_.length : Nat) : Int)) <|
  Option.bind (rc_ m_ r_.To (w_.drop (1 : Int).toNat)) fun r_1 =>
  some r_1)
def uS (fu : Nat) : z6 → Int → (List Int) → Option Int := Nat.rec (motive := fun _ => z6 → Int → (List Int) → Option Int) (fun _ _ _ => none) (fun _ ih => ub ih) fu
def uB (m_ : z6) (s_ : Int) (w_ : List Int) : Option Int := uS (w_.length + 1) m_ s_ w_
def jE (c_States : List Bool) (c_Edges1 : List (List Bool)) : Option z8 :=
 some (z8.mk c_States c_Edges1)
def ur (i_ : Int) (c_States2 : List Bool) (c_Edges3 : List (List Bool)) : Option (LR (List Bool × List (List Bool) × Int) ((List Bool × List (List Bool)))) :=
 some (.next (c_States2, c_Edges3, w64 (i_ + 1)))
def xD (k_ : Int) (c_States4 : List Bool) (c_Edges5 : List (List Bool)) : Option (LR (List Bool × List (List Bool) × Int) ((List Bool × List (List Bool)))) :=
 some (.next (c_States4, c_Edges5, w64 (k_ + 1)))
def wd (m_ : z6) (l_ : List (List Int)) (i_ : Int) (c_States3 : List Bool) (c_Edges4 : List (List Bool)) (k_ : Int) : Option (LR (List Bool × List (List Bool) × Int) ((List Bool × List (List Bool)))) :=
 Option.bind (idx l_ i_) fun l__e =>
 bif decide (k_ ≤ ((l__e.length : Nat) : Int)) then (
  Option.bind (idx l_ i_) fun l__e1 =>
  gd ((0 : Int) ≤ 0 ∧ (0 : Int) ≤ k_ ∧ (k_ : Int) ≤ ((l__e1.length : Nat) : Int)) <|
  Option.bind (uB m_ 0 ((l__e1.drop 0).take (k_.toNat - 0))) fun r_ =>
  bif r_ == (-1) then (
   xD k_ c_States3 c_Edges4)
  else (
   Option.bind (idx c_States3 r_) fun c_State_e =>
   Option.bind (idx l_ i_) fun l__e2 =>
   bif decide (k_ < ((l__e2.length : Nat) : Int)) then (
    Option.bind (idx m_.Rows r_) fun Row_e =>
    Option.bind (idx l_ i_) fun l__e3 =>
    Option.bind (idx l__e3 k_) fun l__e_e =>
    Option.bind (idx Row_e l__e_e) fun Row_e_e =>
    bif Row_e_e.To != (-1) then (
     Option.bind (idx c_Edges4 r_) fun c_Edge_e =>
     Option.bind (idx l_ i_) fun l__e4 =>
     Option.bind (idx l__e4 k_) fun l__e_e1 =>
     Option.bind (idx c_Edge_e l__e_e1) fun c_Edge_e_e =>
     xD k_ (c_States3.set r_.toNat true) (c_Edges4.set r_.toNat (c_Edge_e.set l__e_e1.toNat true)))
    else (
     xD k_ (c_States3.set r_.toNat true) c_Edges4))
   else (
    xD k_ (c_States3.set r_.toNat true) c_Edges4)))
 else (
  some (.done (c_States3, c_Edges4)))
def we (m_ : z6) (l_ : List (List Int)) (c_States1 : List Bool) (c_Edges2 : List (List Bool)) (i_ : Int) : Option (LR (List Bool × List (List Bool) × Int) ((List Bool × List (List Bool)))) :=
 bif decide (i_ < ((l_.length : Nat) : Int)) then (
  Option.bind (loop (fun s => wd m_ l_ i_ s.1 s.2.1 s.2.2) (c_States1, c_Edges2, 0)) fun t5 =>
  ur i_ t5.1 t5.2)
 else (
  some (.done (c_States1, c_Edges2)))
def ut (m_ : z6) (l_ : List (List Int)) (c_Edges : List (List Bool)) : Option z8 :=
 Option.bind (loop (fun s => we m_ l_ s.1 s.2.1 s.2.2) ((List.replicate ((m_.Rows.length : Nat) : Int).toNat false), c_Edges, 0)) fun t3 =>
 jE t3.1 t3.2
def xC (m_ : z6) (c_Edges6 : List (List Bool)) (s_ : Int) : Option (LR (List (List Bool) × Int) (List (List Bool))) :=
 bif decide (s_ < ((m_.Rows.length : Nat) : Int)) then (
  gd ((0 : Int) ≤ m_.Inputs ∧ (m_.Inputs : Int) ≤ 4294967296) <|
  gd (c_Edges6.length + ([(List.replicate m_.Inputs.toNat false)] : List (List Bool)).length ≤ 4294967296) <|
  some (.next ((c_Edges6 ++ ([(List.replicate m_.Inputs.toNat false)] : List (List Bool))), w64 (s_ + 1))))
 else (
  some (.done c_Edges6))
def uR (m_ : z6) (l_ : List (List Int)) : Option z8 :=
 gd ((0 : Int) ≤ ((m_.Rows.length : Nat) : Int) ∧ (((m_.Rows.length : Nat) : Int) : Int) ≤ 4294967296) <|
 Option.bind (loop (fun s => xC m_ s.1 s.2) (([] : List (List Bool)), 0)) fun t7 =>
 ut m_ l_ t7
def Yq : Option Bool :=
 some true
def Yp (s_ : Int) : Option (LR Int (Unit ⊕ Bool)) :=
 some (.next (w64 (s_ + 1)))
def u9 (a_ : z8) (b_ : z8) (s_ : Int) (i_ : Int) : Option (LR Int (Unit ⊕ Bool)) :=
 Option.bind (idx a_.Edges s_) fun Edge_e2 =>
 bif decide (i_ < ((Edge_e2.length : Nat) : Int)) then (
  Option.bind (idx a_.Edges s_) fun Edge_e3 =>
  Option.bind (idx Edge_e3 i_) fun Edge_e_e =>
  Option.bind (idx b_.Edges s_) fun Edge_e4 =>
  Option.bind (idx Edge_e4 i_) fun Edge_e_e1 =>
  bif !(Edge_e_e == Edge_e_e1) then (
   some (.done (.inr false)))
  else (
   some (.next (w64 (i_ + 1)))))
 else (
  some (.done (.inl ())))
def ua (a_ : z8) (b_ : z8) (s_ : Int) : Option (LR Int (Unit ⊕ Bool)) :=
 bif decide (s_ < ((a_.Edges.length : Nat) : Int)) then (
  Option.bind (idx a_.Edges s_) fun Edge_e =>
  Option.bind (idx b_.Edges s_) fun Edge_e1 =>
  bif ((Edge_e.length : Nat) : Int) != ((Edge_e1.length : Nat) : Int) then (
   some (.done (.inr false)))
  else (
   Option.bind (loop (fun s => u9 a_ b_ s_ s) 0) fun t5 =>
   match t5 with
   | .inl p => Yp s_
   | .inr p => some (.done (.inr p))))
 else (
  some (.done (.inl ())))
def k9 (a_ : z8) (b_ : z8) : Option Bool :=
 Option.bind (loop (fun s => ua a_ b_ s) 0) fun t3 =>
 match t3 with
 | .inl p => Yq
 | .inr p => some p
def u7 (a_ : z8) (b_ : z8) (s_1 : Int) : Option (LR Int (Unit ⊕ Bool)) :=
 bif decide (s_1 < ((a_.States.length : Nat) : Int)) then (
  Option.bind (idx a_.States s_1) fun State_e =>
  Option.bind (idx b_.States s_1) fun State_e1 =>
  bif !(State_e == State_e1) then (
   some (.done (.inr false)))
  else (
   some (.next (w64 (s_1 + 1)))))
 else (
  some (.done (.inl ())))
def kr (a_ : z8) (b_ : z8) : Option Bool :=
 bif ((a_.States.length : Nat) : Int) != ((b_.States.length : Nat) : Int) then (
  some false)
 else (
  bif ((a_.Edges.length : Nat) : Int) != ((b_.Edges.length : Nat) : Int) then (
   some false)
  else (
   Option.bind (loop (fun s => u7 a_ b_ s) 0) fun t6 =>
   match t6 with
   | .inl p => k9 a_ b_
   | .inr p => some p))
def vZ : Option Bool :=
 some true
def wj (s_ : Int) : Option (LR Int (Unit ⊕ Bool)) :=
 some (.next (w64 (s_ + 1)))
def wi (s_ : Int) (is : Bool) : Option (LR Int (Unit ⊕ Bool)) :=
 bif !is then (
  some (.done (.inr false)))
 else (
  wj s_)
def yu (m_ : z6) (l_ : List (List Int)) (s_ : Int) (is1 : Bool) (i_ : Int) : Option (LR (Bool × Int) Bool) :=
 bif decide (i_ < ((l_.length : Nat) : Int)) then (
  bif is1 then (
   some (.next (true, w64 (i_ + 1))))
  else (
   Option.bind (idx l_ i_) fun l__e =>
   Option.bind (uB m_ 0 l__e) fun r_ =>
   some (.next (r_ == s_, w64 (i_ + 1)))))
 else (
  some (.done is1))
def yw (m_ : z6) (l_ : List (List Int)) (s_ : Int) : Option (LR Int (Unit ⊕ Bool)) :=
 bif decide (s_ < ((m_.Rows.length : Nat) : Int)) then (
  Option.bind (loop (fun s => yu m_ l_ s_ s.1 s.2) (false, 0)) fun t5 =>
  wi s_ t5)
 else (
  some (.done (.inl ())))
def wk (m_ : z6) (l_ : List (List Int)) : Option Bool :=
 Option.bind (loop (fun s => yw m_ l_ s) 0) fun t2 =>
 match t2 with
 | .inl p => vZ
 | .inr p => some p
def wb : Option Bool :=
 some true
def yY (s_ : Int) : Option (LR Int (Unit ⊕ Bool)) :=
 some (.next (w64 (s_ + 1)))
def yX (a_ : Int) : Option (LR Int (Unit ⊕ Bool)) :=
 some (.next (w64 (a_ + 1)))
def yW (a_ : Int) (is : Bool) : Option (LR Int (Unit ⊕ Bool)) :=
 bif !is then (
  some (.done (.inr false)))
 else (
  yX a_)
def zZ (m_ : z6) (l_ : List (List Int)) (s_ : Int) (a_ : Int) (is1 : Bool) (i_ : Int) : Option (LR (Bool × Int) Bool) :=
 bif decide (i_ < ((l_.length : Nat) : Int)) then (
  Option.bind (idx l_ i_) fun l__e =>
  bif is1 then (
   some (.next (true, w64 (i_ + 1))))
  else (
   bif decide ((w64 (((l__e.length : Nat) : Int) - 1)) ≥ 0) then (
    Option.bind (idx l_ i_) fun l__e1 =>
    Option.bind (idx l__e1 (w64 (((l__e.length : Nat) : Int) - 1))) fun l__e_e =>
    bif l__e_e == a_ then (
     Option.bind (idx l_ i_) fun l__e2 =>
     gd ((0 : Int) ≤ 0 ∧ (0 : Int) ≤ w64 (((l__e.length : Nat) : Int) - 1) ∧ (w64 (((l__e.length : Nat) : Int) - 1) : Int) ≤ ((l__e2.length : Nat) : Int)) <|
     Option.bind (uB m_ 0 ((l__e2.drop 0).take ((w64 (((l__e.length : Nat) : Int) - 1)).toNat - 0))) fun r_ =>
     some (.next (r_ == s_, w64 (i_ + 1))))
    else (
     some (.next (false, w64 (i_ + 1)))))
   else (
    some (.next (false, w64 (i_ + 1))))))
 else (
  some (.done is1))
def zP (m_ : z6) (l_ : List (List Int)) (s_ : Int) (a_ : Int) : Option (LR Int (Unit ⊕ Bool)) :=
 bif decide (a_ < m_.Inputs) then (
  Option.bind (loop (fun s => zZ m_ l_ s_ a_ s.1 s.2) (false, 0)) fun t7 =>
  yW a_ t7)
 else (
  some (.done (.inl ())))
def y3 (m_ : z6) (l_ : List (List Int)) (s_ : Int) : Option (LR Int (Unit ⊕ Bool)) :=
 bif decide (s_ < ((m_.Rows.length : Nat) : Int)) then (
  Option.bind (loop (fun s => zP m_ l_ s_ s) 0) fun t4 =>
  match t4 with
  | .inl p => yY s_
  | .inr p => some (.done (.inr p)))
 else (
  some (.done (.inl ())))
def yK (m_ : z6) (l_ : List (List Int)) : Option Bool :=
 Option.bind (loop (fun s => y3 m_ l_ s) 0) fun t2 =>
 match t2 with
 | .inl p => wb
 | .inr p => some p
def Yw : Option z6 :=
 some (z6.mk 2 2 ([[(za.mk 1 0), (za.mk 0 0)], [(za.mk 2 1), (za.mk (-1) (-1))], [(za.mk 0 0), (za.mk 2 1)]]))
def qP (l_ : List (List Int)) : Option (List (List Int)) :=
 some l_
def v6 (rc_ : Int → (List Bool) → z6 → Option (List Bool × z6)) (Row_e : List za) (x1 : List Bool) (x2_Inputs : Int) (x2_Outputs : Int) (x2_Rows : List (List za)) (x24 : Int) : Option (LR (List Bool × Int × Int × List (List za) × Int) ((List Bool × z6))) :=
 bif decide (x24 < ((Row_e.length : Nat) : Int)) then (
  Option.bind (idx Row_e x24) fun Row_e_e =>
  Option.bind (rc_ Row_e_e.To x1 (z6.mk x2_Inputs x2_Outputs x2_Rows)) fun r_ =>
  some (.next (r_.1, r_.2.Inputs, r_.2.Outputs, r_.2.Rows, w64 (x24 + 1))))
 else (
  some (.done (x1, (z6.mk x2_Inputs x2_Outputs x2_Rows))))
def vD (rc_ : Int → (List Bool) → z6 → Option (List Bool × z6)) (s_ : Int) (y0 : List Bool) (y1 : z6) : Option (List Bool × z6) :=
 bif s_ == (-1) then (
  some (y0, y1))
 else (
  Option.bind (idx y0 s_) fun y_e =>
  bif y_e then (
   some (y0, y1))
  else (
   Option.bind (idx y0 s_) fun y_e1 =>
   Option.bind (idx y1.Rows s_) fun Row_e =>
   Option.bind (loop (fun s => v6 rc_ Row_e s.1 s.2.1 s.2.2.1 s.2.2.2.1 s.2.2.2.2) ((y0.set s_.toNat true), y1.Inputs, y1.Outputs, y1.Rows, 0)) fun t1 =>
   some t1))
def wH (fu : Nat) : Int → (List Bool) → z6 → Option (List Bool × z6) := Nat.rec (motive := fun _ => Int → (List Bool) → z6 → Option (List Bool × z6)) (fun _ _ _ => none) (fun _ ih => vD ih) fu
def ww : Option Int :=
 some (-1)
def wv (s_ : List Bool) (v_ : Bool) (x8 : Int) : Option (LR Int (Unit ⊕ Int)) :=
 bif decide (x8 < ((s_.length : Nat) : Int)) then (
  Option.bind (idx s_ x8) fun s__e =>
  bif v_ == s__e then (
   some (.done (.inr x8)))
  else (
   some (.next (w64 (x8 + 1)))))
 else (
  some (.done (.inl ())))
def vC (s_ : List Bool) (v_ : Bool) : Option Int :=
 Option.bind (loop (fun s => wv s_ v_ s) 0) fun t2 =>
 match t2 with
 | .inl p => ww
 | .inr p => some p
def wx (s_ : List Bool) (v_ : Bool) : Option Bool :=
 Option.bind (vC s_ v_) fun r_ =>
 some (decide (r_ ≥ 0))
def uV (m_ : z6) : Option (Bool × Int) :=
 Option.bind (wy m_) fun r_ =>
 bif r_ != 0 then (
  some (false, r_))
 else (
  gd ((0 : Int) ≤ ((m_.Rows.length : Nat) : Int) ∧ (((m_.Rows.length : Nat) : Int) : Int) ≤ 4294967296) <|
  Option.bind (wH Y7 0 (List.replicate ((m_.Rows.length : Nat) : Int).toNat false) m_) fun r_1 =>
  Option.bind (wx r_1.1 false) fun r_2 =>
  some (!r_2, 0))
def Zt (m_ : z6) (from_ : Int) : Option (z6 × Int) :=
 some (m_, from_)
def xS {σ : Type} (x38 : Int) (seen2 : List Bool) (queue2 : List zg) : Option (LR (List Bool × List zg × Int) ((σ × List Bool × List zg))) :=
 some (.next (seen2, queue2, w64 (x38 + 1)))
def ux {σ : Type} (queue_e : zg) (yr : σ × Bool) (Row_e : List za) (seen1 : List Bool) (queue1 : List zg) (x38 : Int) : Option (LR (List Bool × List zg × Int) ((σ × List Bool × List zg))) :=
 bif decide (x38 < ((Row_e.length : Nat) : Int)) then (
  Option.bind (idx Row_e x38) fun Row_e_e =>
  bif Row_e_e.To != (-1) then (
   Option.bind (idx seen1 Row_e_e.To) fun seen_e =>
   bif !seen_e then (
    Option.bind (idx seen1 Row_e_e.To) fun seen_e1 =>
    gd (queue1.length + ([(zg.mk Row_e_e.To queue_e.state_ x38)] : List zg).length ≤ 4294967296) <|
    xS x38 (seen1.set Row_e_e.To.toNat true) (queue1 ++ ([(zg.mk Row_e_e.To queue_e.state_ x38)] : List zg)))
   else (
    xS x38 seen1 queue1))
  else (
   xS x38 seen1 queue1))
 else (
  some (.done (yr.1, seen1, queue1)))
def uy {σ : Type} (x0 : z6) (yy : σ → zg → Option (σ × Bool)) (sg1 : σ) (seen : List Bool) (queue : List zg) : Option (LR (σ × List Bool × List zg) σ) :=
 bif decide (((queue.length : Nat) : Int) > 0) then (
  Option.bind (idx queue 0) fun queue_e =>
  gd ((0 : Int) ≤ 1 ∧ (1 : Int) ≤ ((queue.length : Nat) : Int)) <|
  Option.bind (yy sg1 queue_e) fun yr =>
  bif !yr.2 then (
   some (.done yr.1))
  else (
   Option.bind (idx x0.Rows queue_e.state_) fun Row_e =>
   Option.bind (loop (fun s => ux queue_e yr Row_e s.1 s.2.1 s.2.2) (seen, (queue.drop (1 : Int).toNat), 0)) fun t2 =>
   some (.next t2)))
 else (
  some (.done sg1))
def uo (x0 : z6) (x1 : Int) {σ : Type} (yy : σ → zg → Option (σ × Bool)) (sg : σ) : Option σ :=
 gd ((0 : Int) ≤ ((x0.Rows.length : Nat) : Int) ∧ (((x0.Rows.length : Nat) : Int) : Int) ≤ 4294967296) <|
 Option.bind (idx (List.replicate ((x0.Rows.length : Nat) : Int).toNat false) x1) fun u_e =>
 Option.bind (loop (fun s => uy x0 yy s.1 s.2.1 s.2.2) (sg, ((List.replicate ((x0.Rows.length : Nat) : Int).toNat false).set x1.toNat true), ([(zg.mk x1 (-1) (-1))] : List zg))) fun t1 =>
 some t1
def wG (s_ : List Int) : Option (List Int) :=
 gd (([] : List Int).length + s_.length ≤ 4294967296) <|
 some s_
def x5 (s_ : List Int) : Option (List Int) :=
 gd ((0 : Int) ≤ 0 ∧ (0 : Int) ≤ ((s_.length : Nat) : Int) ∧ (((s_.length : Nat) : Int) : Int) ≤ ((s_.length : Nat) : Int) ∧ (((s_.length : Nat) : Int) : Int) ≤ ((s_.length : Nat) : Int)) <|
 some ((s_.drop 0).take (((s_.length : Nat) : Int).toNat - 0))
def Zs (l_ : List (List Int)) (is : List Bool) : Option (List (List Int) × List Bool) :=
 some (l_, is)
def qZ (l_1 : List (List Int)) (is1 : List Bool) (x20 : zg) : Option (LR (List (List Int) × List Bool) Empty) :=
 Option.bind (idx is1 x20.state_) fun is_e =>
 bif x20.from_ != (-1) then (
  Option.bind (idx l_1 x20.from_) fun l__e =>
  Option.bind (wG l__e) fun r_1 =>
  gd (r_1.length + ([x20.input_] : List Int).length ≤ 4294967296) <|
  Option.bind (x5 (r_1 ++ ([x20.input_] : List Int))) fun r_2 =>
  Option.bind (idx l_1 x20.state_) fun l__e1 =>
  some (.next ((l_1.set x20.state_.toNat r_2), (is1.set x20.state_.toNat true))))
 else (
  some (.next (l_1, (is1.set x20.state_.toNat true))))
def W7 (m_ : z6) (from_ : Int) : Option (List (List Int) × List Bool) :=
 gd ((0 : Int) ≤ ((m_.Rows.length : Nat) : Int) ∧ (((m_.Rows.length : Nat) : Int) : Int) ≤ 4294967296) <|
 gd ((0 : Int) ≤ ((m_.Rows.length : Nat) : Int) ∧ (((m_.Rows.length : Nat) : Int) : Int) ≤ 4294967296) <|
 Option.bind (Zt m_ from_) fun r_ =>
 Option.bind (uo r_.1 r_.2 (yOf (fun s x => qZ s.1 s.2 x)) (.next ((List.replicate ((m_.Rows.length : Nat) : Int).toNat ([] : List Int)), (List.replicate ((m_.Rows.length : Nat) : Int).toNat false)))) fun t2 =>
 match t2 with
 | .next (l_1, is1) => (
  Zs l_1 is1)
 | .done z => nomatch z
def X4 (m_ : z6) : Option (List (List Int) × List Bool × Int) :=
 Option.bind (wy m_) fun r_ =>
 bif r_ != 0 then (
  some (([] : List (List Int)), ([] : List Bool), r_))
 else (
  Option.bind (W7 m_ 0) fun r_1 =>
  some (r_1.1, r_1.2, 0))
def vW (s_ : List (List Int)) : Option (List (List Int)) :=
 gd (([] : List (List Int)).length + s_.length ≤ 4294967296) <|
 some s_
def j4 (a_ : List Int) (b_ : List Int) : Option Bool :=
 Option.bind (wX a_ b_) fun r_ =>
 some (r_ == 0)
def xk (s_ : List (List Int)) : Option (List (List Int)) :=
 some s_
def xj (k_ : Int) : Option (LR Int (Unit ⊕ List (List Int))) :=
 some (.next (w64 (k_ + 1)))
def xi (s_1 : List (List Int)) (k_1 : Int) : Option (LR Int (Unit ⊕ List (List Int))) :=
 gd ((0 : Int) ≤ k_1 ∧ (k_1 : Int) ≤ ((s_1.length : Nat) : Int)) <|
 gd ((0 : Int) ≤ k_1 ∧ (k_1 : Int) ≤ ((s_1.length : Nat) : Int)) <|
 gd ((0 : Int) ≤ k_1 ∧ (k_1 : Int) ≤ (((s_1.take k_1.toNat ++ List.replicate (s_1.length - k_1.toNat) []).length : Nat) : Int)) <|
 some (.done (.inr ((s_1.take k_1.toNat ++ List.replicate (s_1.length - k_1.toNat) []).take k_1.toNat)))
def yj (k2 : Int) (s_3 : List (List Int)) (k_3 : Int) : Option (LR (List (List Int) × Int × Int) ((List (List Int) × Int))) :=
 some (.next (s_3, k_3, w64 (k2 + 1)))
def xg (k_ : Int) (s_2 : List (List Int)) (k_2 : Int) (k2 : Int) : Option (LR (List (List Int) × Int × Int) ((List (List Int) × Int))) :=
 bif decide (k2 < ((s_2.length - k_.toNat : Nat) : Int)) then (
  gd ((0 : Int) ≤ k_ ∧ (0 : Int) ≤ k2) <|
  Option.bind (idx s_2 (k_ + k2)) fun s__e2 =>
  gd ((0 : Int) ≤ k_ ∧ (0 : Int) ≤ w64 (k2 - 1)) <|
  Option.bind (idx s_2 (k_ + (w64 (k2 - 1)))) fun s__e3 =>
  Option.bind (j4 s__e2 s__e3) fun r_1 =>
  bif !r_1 then (
   gd ((0 : Int) ≤ k_ ∧ (0 : Int) ≤ k2) <|
   Option.bind (idx s_2 (k_ + k2)) fun s__e4 =>
   Option.bind (idx s_2 k_2) fun s__e5 =>
   yj k2 (s_2.set k_2.toNat s__e4) (w64 (k_2 + 1)))
  else (
   yj k2 s_2 k_2))
 else (
  some (.done (s_2, k_2)))
def xh (s_ : List (List Int)) (k_ : Int) : Option (LR Int (Unit ⊕ List (List Int))) :=
 bif decide (k_ < ((s_.length : Nat) : Int)) then (
  Option.bind (idx s_ k_) fun s__e =>
  Option.bind (idx s_ (w64 (k_ - 1))) fun s__e1 =>
  Option.bind (j4 s__e s__e1) fun r_ =>
  bif r_ then (
   gd ((0 : Int) ≤ k_ ∧ (k_ : Int) ≤ ((s_.length : Nat) : Int)) <|
   Option.bind (loop (fun s => xg k_ s.1 s.2.1 s.2.2) (s_, k_, 1)) fun t5 =>
   xi t5.1 t5.2)
  else (
   xj k_))
 else (
  some (.done (.inl ())))
def xW (s_ : List (List Int)) (eq : Unit) : Option (List (List Int)) :=
 bif decide (((s_.length : Nat) : Int) < 2) then (
  some s_)
 else (
  Option.bind (loop (fun s => xh s_ s) 1) fun t2 =>
  match t2 with
  | .inl p => xk s_
  | .inr p => some p)
def xM (s_ : List (List Int)) : Option (List (List Int)) :=
 some s_
def kB (out : List (List Int × Bool)) : Option (List (List Int) × Int) :=
 gd (∀ q ∈ out, q.2 = true) <|
 some ((out.map (·.1)), 0)
def kA (r_2 : List (List Int)) (out2 : List (List Int × Bool)) (x24 : Int) : Option (LR ((List (List Int × Bool)) × Int) ((List (List Int × Bool)))) :=
 bif decide (x24 < ((r_2.length - (0 : Int).toNat : Nat) : Int)) then (
  gd ((0 : Int) ≤ 0 ∧ (0 : Int) ≤ x24) <|
  Option.bind (idx out2 (0 + x24)) fun out_e =>
  Option.bind (wG out_e.1) fun r_4 =>
  Option.bind (x5 r_4) fun r_5 =>
  Option.bind (idx out2 x24) fun out_e1 =>
  some (.next ((out2.set x24.toNat (r_5, true)), w64 (x24 + 1))))
 else (
  some (.done out2))
def jh (l_ : List (List Int)) : Option (List (List Int) × Int) :=
 Option.bind (vW l_) fun r_ =>
 Option.bind (z86 (fun x y => wX x y) r_) fun sorted =>
 Option.bind (xW sorted ()) fun r_1 =>
 Option.bind (xM r_1) fun r_2 =>
 bif decide (((r_2.length : Nat) : Int) > 4096) then (
  some (([] : List (List Int)), 3))
 else (
  Option.bind (qH r_2) fun r_3 =>
  bif decide (r_3 > 65536) then (
   some (([] : List (List Int)), 3))
  else (
   Option.bind (loop (fun s => kA r_2 s.1 s.2) ((r_2.map fun q => (q, false)), 0)) fun t2 =>
   kB t2))
def Vm (l_ : List (List Int)) (inputs : Int) : Option (List (List Int) × Int) :=
 Option.bind (qI l_ inputs) fun r_ =>
 bif r_ != 0 then (
  some (([] : List (List Int)), r_))
 else (
  Option.bind (jh l_) fun r_1 =>
  some (r_1.1, r_1.2))
def ki (m_ : z6) : Option (List (List Int) × Int) :=
 Option.bind (uV m_) fun r_ =>
 bif r_.2 != 0 then (
  some (([] : List (List Int)), r_.2))
 else (
  bif !r_.1 then (
   some (([] : List (List Int)), 11))
  else (
   Option.bind (X4 m_) fun r_1 =>
   bif r_1.2.2 != 0 then (
    some (([] : List (List Int)), r_1.2.2))
   else (
    Option.bind (Vm r_1.1 m_.Inputs) fun r_2 =>
    some (r_2.1, r_2.2))))
def Xg (k_ : Int) (out1 : List (List Int)) (level1 : List (List Int)) (n_1 : Int) (x45 : Int) (x46 : Bool) (x58 : Bool) : Option (LR (List (List Int) × List (List Int) × Int × Int) ((List (List Int) × Int))) :=
 some (.next (out1, level1, n_1, w64 (k_ + 1)))
def Xf (k_ : Int) (out2 : List (List Int)) (n_2 : Int) (x581 : Bool) (next : List (List Int)) : Option (LR (List (List Int) × List (List Int) × Int × Int) ((List (List Int) × Int))) :=
 Xg k_ out2 next n_2 n_2 (decide (n_2 > 65536)) x581
def Xe (x69 : Int) (next2 : List (List Int)) : Option (LR (List (List Int) × Int) (List (List Int))) :=
 some (.next (next2, w64 (x69 + 1)))
def Xb (inputs : Int) (level_e : List Int) (next3 : List (List Int)) (x74 : Int) : Option (LR (List (List Int) × Int) (List (List Int))) :=
 bif decide (x74 < inputs) then (
  Option.bind (x5 level_e) fun r_1 =>
  gd (r_1.length + ([x74] : List Int).length ≤ 4294967296) <|
  gd (next3.length + ([(r_1 ++ ([x74] : List Int))] : List (List Int)).length ≤ 4294967296) <|
  some (.next ((next3 ++ ([(r_1 ++ ([x74] : List Int))] : List (List Int))), w64 (x74 + 1))))
 else (
  some (.done next3))
def Xc (inputs : Int) (level : List (List Int)) (next1 : List (List Int)) (x69 : Int) : Option (LR (List (List Int) × Int) (List (List Int))) :=
 bif decide (x69 < ((level.length : Nat) : Int)) then (
  Option.bind (idx level x69) fun level_e =>
  Option.bind (loop (fun s => Xb inputs level_e s.1 s.2) (next1, 0)) fun t8 =>
  Xe x69 t8)
 else (
  some (.done next1))
def Zm (inputs : Int) (to : Int) (level : List (List Int)) (k_ : Int) (out2 : List (List Int)) (n_2 : Int) (x581 : Bool) : Option (LR (List (List Int) × List (List Int) × Int × Int) ((List (List Int) × Int))) :=
 bif k_ == to then (
  Option.bind (jh out2) fun r_ =>
  some (.done (r_.1, r_.2)))
 else (
  Option.bind (loop (fun s => Xc inputs level s.1 s.2) (([] : List (List Int)), 0)) fun t6 =>
  Xf k_ out2 n_2 x581 t6)
def Zn (inputs : Int) (to : Int) (level : List (List Int)) (k_ : Int) (out2 : List (List Int)) (n_2 : Int) : Option (LR (List (List Int) × List (List Int) × Int × Int) ((List (List Int) × Int))) :=
 bif decide (((out2.length : Nat) : Int) > 4096) then (
  some (.done (([] : List (List Int)), 3)))
 else (
  bif decide (n_2 > 65536) then (
   some (.done (([] : List (List Int)), 3)))
  else (
   bif decide (k_ < to) then (
    bif decide ((w64 (((level.length : Nat) : Int) * inputs)) > 4096) then (
     some (.done (([] : List (List Int)), 3)))
    else (
     Zm inputs to level k_ out2 n_2 (decide ((w64 (((level.length : Nat) : Int) * inputs)) > 4096))))
   else (
    Zm inputs to level k_ out2 n_2 false)))
def Xd (inputs : Int) (from_ : Int) (to : Int) (out : List (List Int)) (level : List (List Int)) (n_ : Int) (k_ : Int) : Option (LR (List (List Int) × List (List Int) × Int × Int) ((List (List Int) × Int))) :=
 bif decide (k_ ≥ from_) then (
  gd (out.length + level.length ≤ 4294967296) <|
  Zn inputs to level k_ (out ++ level) (w64 (n_ + (w64 (k_ * ((level.length : Nat) : Int))))))
 else (
  Zn inputs to level k_ out n_)
def Qr (inputs : Int) (from_ : Int) (to : Int) : Option (List (List Int) × Int) :=
 bif decide (inputs > 16) then (
  some (([] : List (List Int)), 3))
 else (
  bif decide (inputs < 1) then (
   some (([] : List (List Int)), 1))
  else (
   bif decide (to < 0) then (
    some (([] : List (List Int)), 1))
   else (
    bif decide (to > 256) then (
     some (([] : List (List Int)), 3))
    else (
     Option.bind (loop (fun s => Xd inputs from_ to s.1 s.2.1 s.2.2.1 s.2.2.2) (([] : List (List Int)), ([[]] : List (List Int)), 0, 0)) fun t1 =>
     some t1))))
def Vl (inputs : Int) (k_ : Int) : Option (List (List Int) × Int) :=
 Option.bind (Qr inputs 0 k_) fun r_ =>
 some (r_.1, r_.2)
def Yb : Option Int :=
 some 0
def Ya (inputs : Int) (l_ : List (List (List Int))) (x10 : Int) : Option (LR Int (Unit ⊕ Int)) :=
 bif decide (x10 < ((l_.length : Nat) : Int)) then (
  Option.bind (idx l_ x10) fun l__e =>
  Option.bind (qJ l__e inputs) fun r_ =>
  bif r_ != 0 then (
   some (.done (.inr r_)))
  else (
   some (.next (w64 (x10 + 1)))))
 else (
  some (.done (.inl ())))
def Vk (inputs : Int) (l_ : List (List (List Int))) : Option Int :=
 Option.bind (loop (fun s => Ya inputs l_ s) 0) fun t2 =>
 match t2 with
 | .inl p => Yb
 | .inr p => some p
def Xa (b_ : List Int) : Option (List UInt8) :=
 some (u8s b_)
def X9 (w_ : List Int) (b_1 : List Int) (x11 : Int) : Option (LR (List Int × Int) (List Int)) :=
 bif decide (x11 < ((w_.length : Nat) : Int)) then (
  Option.bind (idx w_ x11) fun w__e =>
  Option.bind (idx b_1 x11) fun b__e =>
  some (.next ((b_1.set x11.toNat (IntKind.u8.wrap (w__e))), w64 (x11 + 1))))
 else (
  some (.done b_1))
def Qq (w_ : List Int) : Option (List UInt8) :=
 gd ((0 : Int) ≤ ((w_.length : Nat) : Int) ∧ (((w_.length : Nat) : Int) : Int) ≤ 4294967296) <|
 Option.bind (loop (fun s => X9 w_ s.1 s.2) ((List.replicate ((w_.length : Nat) : Int).toNat (0 : Int)), 0)) fun t2 =>
 Xa t2
def kG (out : List (List Int)) : Option (List (List Int) × Int) :=
 Option.bind (jh out) fun r_1 =>
 some (r_1.1, r_1.2)
def kF (x29 : Int) (seen1 : List ((List UInt8) × Bool)) (n_1 : Int) (out2 : List (List Int)) : Option (LR ((List ((List UInt8) × Bool)) × Int × List (List Int) × Int) (List (List Int) ⊕ (List (List Int) × Int))) :=
 some (.next (seen1, n_1, out2, w64 (x29 + 1)))
def uO (x35 : Int) (seen3 : List ((List UInt8) × Bool)) (n_3 : Int) (out4 : List (List Int)) : Option (LR ((List ((List UInt8) × Bool)) × Int × List (List Int) × Int) (((List ((List UInt8) × Bool)) × Int × List (List Int)) ⊕ (List (List Int) × Int))) :=
 bif decide (((out4.length : Nat) : Int) > 4096) then (
  some (.done (.inr (([] : List (List Int)), 3))))
 else (
  bif decide (n_3 > 65536) then (
   some (.done (.inr (([] : List (List Int)), 3))))
  else (
   some (.next (seen3, n_3, out4, w64 (x35 + 1)))))
def kD (b_ : List (List Int)) (a__e : List Int) (seen2 : List ((List UInt8) × Bool)) (n_2 : Int) (out3 : List (List Int)) (x35 : Int) : Option (LR ((List ((List UInt8) × Bool)) × Int × List (List Int) × Int) (((List ((List UInt8) × Bool)) × Int × List (List Int)) ⊕ (List (List Int) × Int))) :=
 bif decide (x35 < ((b_.length : Nat) : Int)) then (
  Option.bind (idx b_ x35) fun b__e =>
  Option.bind (x5 a__e) fun r_2 =>
  gd (r_2.length + b__e.length ≤ 4294967296) <|
  bif decide ((((r_2 ++ b__e).length : Nat) : Int) > 256) then (
   some (.done (.inr (([] : List (List Int)), 3))))
  else (
   Option.bind (Qq (r_2 ++ b__e)) fun r_3 =>
   Option.bind (some ((z8E seen2 r_3).getD false)) fun val =>
   bif !val then (
    gd (out3.length + ([(r_2 ++ b__e)] : List (List Int)).length ≤ 4294967296) <|
    uO x35 (z8B seen2 r_3 true) (w64 (n_2 + (((r_2 ++ b__e).length : Nat) : Int))) (out3 ++ ([(r_2 ++ b__e)] : List (List Int))))
   else (
    uO x35 seen2 n_2 out3)))
 else (
  some (.done (.inl (seen2, n_2, out3))))
def kE (a_ : List (List Int)) (b_ : List (List Int)) (seen : List ((List UInt8) × Bool)) (n_ : Int) (out1 : List (List Int)) (x29 : Int) : Option (LR ((List ((List UInt8) × Bool)) × Int × List (List Int) × Int) (List (List Int) ⊕ (List (List Int) × Int))) :=
 bif decide (x29 < ((a_.length : Nat) : Int)) then (
  Option.bind (idx a_ x29) fun a__e =>
  Option.bind (loop (fun s => kD b_ a__e s.1 s.2.1 s.2.2.1 s.2.2.2) (seen, n_, out1, 0)) fun t4 =>
  match t4 with
  | .inl p => kF x29 p.1 p.2.1 p.2.2
  | .inr p => some (.done (.inr p)))
 else (
  some (.done (.inl out1)))
def Xh (a_ : List (List Int)) (b_ : List (List Int)) (inputs : Int) : Option (List (List Int) × Int) :=
 Option.bind (Vk inputs ([a_, b_])) fun r_ =>
 bif r_ != 0 then (
  some (([] : List (List Int)), r_))
 else (
  Option.bind (loop (fun s => kE a_ b_ s.1 s.2.1 s.2.2.1 s.2.2.2) (([] : List ((List UInt8) × Bool)), 0, ([] : List (List Int)), 0)) fun t2 =>
  match t2 with
  | .inl p => kG p
  | .inr p => some p)
def u2 (m_ : z6) (k_ : Int) : Option (List (List Int) × Int) :=
 Option.bind (ki m_) fun r_ =>
 bif r_.2 != 0 then (
  some (([] : List (List Int)), r_.2))
 else (
  bif decide (k_ < 0) then (
   some (([] : List (List Int)), 1))
  else (
   Option.bind (Vl m_.Inputs k_) fun r_1 =>
   bif r_1.2 != 0 then (
    some (([] : List (List Int)), r_1.2))
   else (
    Option.bind (Xh r_.1 r_1.1 m_.Inputs) fun r_2 =>
    some (r_2.1, r_2.2))))
def qa (m_ : z6) : Option (List (List Int) × Int) :=
 Option.bind (u2 m_ 1) fun r_ =>
 some (r_.1, r_.2)
def Yt : Option Bool :=
 some true
def Ys (a_ : List (List Int)) (b_ : List (List Int)) (i_ : Int) : Option (LR Int (Unit ⊕ Bool)) :=
 bif decide (i_ < ((a_.length : Nat) : Int)) then (
  Option.bind (idx a_ i_) fun a__e =>
  Option.bind (idx b_ i_) fun b__e =>
  Option.bind (wZ a__e b__e) fun r_ =>
  bif r_ != 0 then (
   some (.done (.inr false)))
  else (
   some (.next (w64 (i_ + 1)))))
 else (
  some (.done (.inl ())))
def Vu (a_ : List (List Int)) (b_ : List (List Int)) : Option Bool :=
 bif ((a_.length : Nat) : Int) != ((b_.length : Nat) : Int) then (
  some false)
 else (
  Option.bind (loop (fun s => Ys a_ b_ s) 0) fun t2 =>
  match t2 with
  | .inl p => Yt
  | .inr p => some p)
def ZU (a_ : List (List Int)) (b_ : List (List Int)) : Option Bool :=
 Option.bind (Vu a_ b_) fun r_ =>
 bif r_ then (
  some (((a_.length : Nat) : Int) == ((a_.length : Nat) : Int)))
 else (
  some false)
def Yv : Option Bool :=
 Option.bind (Yw) fun r_ =>
 Option.bind (qP ([[], [0], [1], [0, 0], [0, 1], [0, 0, 0], [0, 0, 1]])) fun r_1 =>
 Option.bind (qP ([[], [0], [0, 0]])) fun r_2 =>
 Option.bind (ki r_) fun r_3 =>
 Option.bind (qa r_) fun r_4 =>
 Option.bind (u2 r_ 0) fun r_5 =>
 Option.bind (u2 r_ (-1)) fun r_6 =>
 Option.bind (qP ([[1], [0, 1, 0]])) fun r_7 =>
 Option.bind (vu r_ r_7) fun r_8 =>
 bif r_3.2 != 0 then (
  some false)
 else (
  bif r_4.2 != 0 then (
   some false)
  else (
   bif r_5.2 != 0 then (
    some false)
   else (
    bif r_6.2 != 1 then (
     some false)
    else (
     bif r_8.2 != 0 then (
      some false)
     else (
      Option.bind (ZU r_3.1 r_2) fun r_9 =>
      bif !r_9 then (
       some false)
      else (
       Option.bind (ZU r_4.1 r_1) fun r_10 =>
       bif !r_10 then (
        some false)
       else (
        Option.bind (ZU r_5.1 r_2) fun r_11 =>
        bif !r_11 then (
         some false)
        else (
         Option.bind (kr r_8.1 (z8.mk ([true, true, false]) ([[true, true], [false, false], [false, false]]))) fun r_12 =>
         bif !r_12 then (
          some false)
         else (
          Option.bind (yp r_ r_2) fun r_13 =>
          Option.bind (qP ([[0, 0]])) fun r_14 =>
          Option.bind (yp r_ r_14) fun r_15 =>
          Option.bind (zX r_ r_1) fun r_16 =>
          Option.bind (qP ([[0], [1]])) fun r_17 =>
          Option.bind (zX r_ r_17) fun r_18 =>
          bif r_13.2 == 0 then (
           bif r_15.2 == 0 then (
            bif r_16.2 == 0 then (
             bif r_18.2 == 0 then (
              bif r_13.1 then (
               bif !r_15.1 then (
                bif r_16.1 then (
                 some (!r_18.1))
                else (
                 some false))
               else (
                some false))
              else (
               some false))
             else (
              some false))
            else (
             some false))
           else (
            some false))
          else (
           some false))))))))))
def v7 (x_ : zY) (y_ : ye) : Option Bool :=
 Option.bind (kx (zY.mk x_.States x_.Inputs x_.Outputs x_.Partial x_.Edges)) fun r_ =>
 Option.bind (ZV y_) fun r_1 =>
 Option.bind (jl r_1 r_.Inputs) fun r_2 =>
 Option.bind (vu r_ r_2) fun r_3 =>
 Option.bind (yp r_ r_2) fun r_4 =>
 Option.bind (zX r_ r_2) fun r_5 =>
 bif r_3.2 == 0 then (
  bif r_4.2 == 0 then (
   bif r_5.2 == 0 then (
    Option.bind (uR r_ r_2) fun r_6 =>
    Option.bind (kr r_3.1 r_6) fun r_7 =>
    bif r_7 then (
     Option.bind (wk r_ r_2) fun r_8 =>
     bif r_4.1 == r_8 then (
      Option.bind (yK r_ r_2) fun r_9 =>
      bif r_5.1 == r_9 then (
       Option.bind (Yv) fun r_10 =>
       some r_10)
      else (
       some false))
     else (
      some false))
    else (
     some false))
   else (
    some false))
  else (
   some false))
 else (
  some false)
abbrev F0_ := eSl 1 false (eI .u8)
abbrev F1_ := eSl 1 true (eI .i64)
abbrev F2_ := eOs 1 true (eI .i64)
abbrev F3_ := eSl 1 false (eI .u16)
abbrev F4_ := eOs 1 false (eI .i64)
abbrev F5_ := eSl 1 false (eI .i64)
abbrev F6_ := eOs 1 true (eOs 1 true eB)
abbrev F7_ := eSl 1 true (eSl 1 true eB)
abbrev F8_ := eSl 1 false (eSl 1 false eB)
abbrev F9_ := wg (eI .i64) (eI .i64)
abbrev W6 := eSl 1 true F1_
abbrev zf8 := eSl 1 false F0_
abbrev z3t := eOs 1 false F5_
abbrev vJ := eSl 1 false F5_
abbrev zep := eSl 2 true F9_
abbrev vN := eSl 2 false F9_
abbrev z0h := eOs 2 false F9_
abbrev uM := kT (eI .i64) (eI .i64) (eI .i64)
abbrev z1p := jn (eI .u8) zf8
abbrev zf7 := eSl 1 true zep
abbrev zf6 := eSl 1 false vN
abbrev zc2 := yC (eOs 1 true eB) F6_
abbrev z9p := yC (eSl 1 true eB) F7_
abbrev z0g := yC (eSl 1 false eB) F8_
abbrev z1o := jo (eI .u8) (eI .u8) (eI .u8) eB F3_
abbrev z5q := va (eI .i64) (eI .i64) zf7
abbrev x4 := va (eI .i64) (eI .i64) zf6
abbrev z75 := eSp x4
def rpN {α : Type _} (n : Nat) (a : α) (l : List α) : List α := Nat.rec l (fun _ r => a :: r) n
end Go.Own

namespace Go.Proofs
open Go.Shelf
def Tryz.so104_ren : Go.Shelf.Ren := ⟨fun | 6 => 104 | 15 => 119 | 14 => 118 | 28 => 131 | 29 => 132 | 20 => 123 | 21 => 124 | 22 => 125 | 23 => 126 | 24 => 127 | 25 => 128 | 26 => 129 | 27 => 130 | 46 => 134 | 47 => 135 | 48 => 136 | 49 => 137 | 50 => 138 | 57 => 139 | n => n, fun | 22 => 29 | 24 => 77 | 25 => 90 | 3 => 3 | 39 => 152 | 0 => 0 | 53 => 164 | 55 => 166 | 4 => 4 | 46 => 157 | 45 => 156 | 50 => 161 | 5 => 5 | 9 => 9 | 66 => 167 | 70 => 171 | 76 => 173 | 77 => 174 | n => n, fun | n => n⟩
theorem Tryz.so104 : Go.Proofs.SlLaysF0.n6 Tryz.prog Tryz.so104_ren := {
 mixed := by kernel_rfl
 f6 := ⟨Tryz.f104.name, by decide, Tryz.func104.trans (congrArg some (by kernel_rfl))⟩
 f14 := ⟨Tryz.f118.name, by decide, Tryz.func118.trans (congrArg some (by kernel_rfl))⟩
 f15 := Tryz.func119.trans (congrArg some (by kernel_rfl))
 f20 := ⟨Tryz.f123.name, by decide, Tryz.func123.trans (congrArg some (by kernel_rfl))⟩
 f21 := ⟨Tryz.f124.name, by decide, Tryz.func124.trans (congrArg some (by kernel_rfl))⟩
 f22 := ⟨Tryz.f125.name, by decide, Tryz.func125.trans (congrArg some (by kernel_rfl))⟩
 f23 := ⟨Tryz.f126.name, by decide, Tryz.func126.trans (congrArg some (by kernel_rfl))⟩
 f24 := ⟨Tryz.f127.name, by decide, Tryz.func127.trans (congrArg some (by kernel_rfl))⟩
 f25 := ⟨Tryz.f128.name, by decide, Tryz.func128.trans (congrArg some (by kernel_rfl))⟩
 f26 := ⟨Tryz.f129.name, by decide, Tryz.func129.trans (congrArg some (by kernel_rfl))⟩
 f27 := ⟨Tryz.f130.name, by decide, Tryz.func130.trans (congrArg some (by kernel_rfl))⟩
 f28 := Tryz.func131.trans (congrArg some (by kernel_rfl))
 f29 := Tryz.func132.trans (congrArg some (by kernel_rfl))
 f46 := ⟨Tryz.f134.name, by decide, Tryz.func134.trans (congrArg some (by kernel_rfl))⟩
 f47 := Tryz.func135.trans (congrArg some (by kernel_rfl))
 f48 := Tryz.func136.trans (congrArg some (by kernel_rfl))
 f49 := ⟨Tryz.f137.name, by decide, Tryz.func137.trans (congrArg some (by kernel_rfl))⟩
 f50 := ⟨Tryz.f138.name, by decide, Tryz.func138.trans (congrArg some (by kernel_rfl))⟩
 f57 := ⟨Tryz.f139.name, by decide, Tryz.func139.trans (congrArg some (by kernel_rfl))⟩
 t0 := Tryz.underlying0
 a0 := Tryz.isAgg0
 z0 := Tryz.sizeOf0
 v0 := Tryz.zeroValue0
 t3 := Tryz.underlying3
 a3 := Tryz.isAgg3
 z3 := Tryz.sizeOf3
 v3 := Tryz.zeroValue3
 t4 := Tryz.underlying4
 a4 := Tryz.isAgg4
 z4 := Tryz.sizeOf4
 v4 := Tryz.zeroValue4
 t5 := Tryz.underlying5
 a5 := Tryz.isAgg5
 z5 := Tryz.sizeOf5
 v5 := Tryz.zeroValue5
 t9 := Tryz.underlying9
 a9 := Tryz.isAgg9
 z9 := Tryz.sizeOf9
 v9 := Tryz.zeroValue9
 t22 := Tryz.underlying29
 a22 := Tryz.isAgg29
 z22 := Tryz.sizeOf29
 v22 := Tryz.zeroValue29
 t25 := Tryz.underlying90
 a25 := Tryz.isAgg90
 z25 := Tryz.sizeOf90
 v25 := Tryz.zeroValue90
 t39 := Tryz.underlying152
 a39 := Tryz.isAgg152
 z39 := Tryz.sizeOf152
 v39 := Tryz.zeroValue152
 t45 := Tryz.underlying156
 a45 := Tryz.isAgg156
 z45 := Tryz.sizeOf156
 v45 := Tryz.zeroValue156
 t46 := Tryz.underlying157
 a46 := Tryz.isAgg157
 z46 := Tryz.sizeOf157
 v46 := Tryz.zeroValue157
 t50 := Tryz.underlying161
 a50 := Tryz.isAgg161
 z50 := Tryz.sizeOf161
 v50 := Tryz.zeroValue161
 t53 := Tryz.underlying164
 a53 := Tryz.isAgg164
 z53 := Tryz.sizeOf164
 v53 := Tryz.zeroValue164
 t55 := Tryz.underlying166
 a55 := Tryz.isAgg166
 z55 := Tryz.sizeOf166
 v55 := Tryz.zeroValue166
 t66 := Tryz.underlying167
 a66 := Tryz.isAgg167
 z66 := Tryz.sizeOf167
 v66 := Tryz.zeroValue167
 t70 := Tryz.underlying171
 a70 := Tryz.isAgg171
 z70 := Tryz.sizeOf171
 v70 := Tryz.zeroValue171
 t76 := Tryz.underlying173
 a76 := Tryz.isAgg173
 z76 := Tryz.sizeOf173
 v76 := Tryz.zeroValue173
 t77 := Tryz.underlying174
 a77 := Tryz.isAgg174
 z77 := Tryz.sizeOf174
 v77 := Tryz.zeroValue174 }
end Go.Proofs
