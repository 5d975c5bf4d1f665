/- -/
import Derived.Test.YthnpknbgpmlbhaaGreatPartB
import Derived.Test.YthnpknbgpmlbhaaGreatProg
import Derived.Test.YthnpknbgpmlbhaaGreatPartC
import Derived.Test.YthnpknbgpmlbhaaGreatPartD
import Derived.Shelf.SlSortCmp.NoneTotal
import Derived.Ground.SlsfProg
set_option linter.unusedVariables false
set_option linter.unusedSimpArgs false
namespace Go.Ex
open Go.Proofs
def i64 : EI := ⟨.func, 1, 8, some [.nilFunc], false⟩
theorem q3 : EqP Tryz.prog 3 [.int .i64 0] false 1 := z7D (k := .int .i64) Tryz.underlying3 ⟨_, (by kernel_rfl : Tryz.prog.info? 3 = some Tryz.t3), rfl⟩ rfl
theorem q67 : EqP Tryz.prog 67 (Xa [([.int .i64 0], false), ([.int .i64 0], false)]) true 2 := XP Tryz.underlying67 (by kernel_rfl) ⟨_, (by kernel_rfl : Tryz.prog.info? 67 = some Tryz.t67), rfl⟩ (by decide) (ya.cons (by decide) rfl (q3.mono (by decide)) (ya.cons (by decide) rfl (q3.mono (by decide)) (ya.nil)))
def i67 : EI := ⟨.struct [(0, 3), (1, 3)], 2, 16, some [.int .i64 0, .int .i64 0], true⟩
theorem zfh : zdo Tryz.prog 67 i67 := ⟨⟨Tryz.t67, by kernel_rfl, rfl, rfl, fun z h => by cases h; exact ⟨_, rfl, rfl, z3T rfl, rfl, ⟨_, rfl⟩⟩⟩, ⟨_, Tryz.underlying67, by kernel_rfl, by
  intro f hf
  simp only [List.mem_cons, List.not_mem_nil, or_false] at hf
  rcases hf with rfl | rfl
  ·exact ⟨Tryz.t3, by kernel_rfl⟩
  ·exact ⟨Tryz.t3, by kernel_rfl⟩⟩, fun _ => z0t q67 rfl rfl (Nat.le_of_ble_eq_true (by kernel_rfl)) (by decide)⟩
theorem q68 : EqP Tryz.prog 68 (Xa [([.int .i64 0], false), ([.int .i64 0], false)]) true 2 := XP Tryz.underlying68 (by kernel_rfl) ⟨_, (by kernel_rfl : Tryz.prog.info? 68 = some Tryz.t68), rfl⟩ (by decide) (ya.cons (by decide) rfl (q3.mono (by decide)) (ya.cons (by decide) rfl (q3.mono (by decide)) (ya.nil)))
def i68 : EI := ⟨.struct [(0, 3), (1, 3)], 2, 16, some [.int .i64 0, .int .i64 0], true⟩
theorem zbl : zdo Tryz.prog 68 i68 := ⟨⟨Tryz.t68, by kernel_rfl, rfl, rfl, fun z h => by cases h; exact ⟨_, rfl, rfl, z3T rfl, rfl, ⟨_, rfl⟩⟩⟩, ⟨_, Tryz.underlying68, by kernel_rfl, by
  intro f hf
  simp only [List.mem_cons, List.not_mem_nil, or_false] at hf
  rcases hf with rfl | rfl
  ·exact ⟨Tryz.t3, by kernel_rfl⟩
  ·exact ⟨Tryz.t3, by kernel_rfl⟩⟩, fun _ => z0t q68 rfl rfl (Nat.le_of_ble_eq_true (by kernel_rfl)) (by decide)⟩
theorem zfN : EqP Tryz.prog 133 (Xa [([.int .i64 0], false), ([.int .i64 0], false), ([.int .i64 0], false)]) true 2 := XP Tryz.underlying133 (by kernel_rfl) ⟨_, (by kernel_rfl : Tryz.prog.info? 133 = some Tryz.t133), rfl⟩ (by decide) (ya.cons (by decide) rfl (q3.mono (by decide)) (ya.cons (by decide) rfl (q3.mono (by decide)) (ya.cons (by decide) rfl (q3.mono (by decide)) (ya.nil))))
def zfS : EI := ⟨.struct [(0, 3), (1, 3), (2, 3)], 3, 24, some [.int .i64 0, .int .i64 0, .int .i64 0], true⟩
theorem zdU : zdo Tryz.prog 133 zfS := ⟨⟨Tryz.t133, by kernel_rfl, rfl, rfl, fun z h => by cases h; exact ⟨_, rfl, rfl, z3T rfl, rfl, ⟨_, rfl⟩⟩⟩, ⟨_, Tryz.underlying133, by kernel_rfl, by
  intro f hf
  simp only [List.mem_cons, List.not_mem_nil, or_false] at hf
  rcases hf with rfl | rfl | rfl
  ·exact ⟨Tryz.t3, by kernel_rfl⟩
  ·exact ⟨Tryz.t3, by kernel_rfl⟩
  ·exact ⟨Tryz.t3, by kernel_rfl⟩⟩, fun _ => z0t zfN rfl rfl (Nat.le_of_ble_eq_true (by kernel_rfl)) (by decide)⟩
theorem zfM : EqP Tryz.prog 134 (Xa [([.int .i64 0], false), ([.int .i64 0], false), ([.int .i64 0], false)]) true 2 := XP Tryz.underlying134 (by kernel_rfl) ⟨_, (by kernel_rfl : Tryz.prog.info? 134 = some Tryz.t134), rfl⟩ (by decide) (ya.cons (by decide) rfl (q3.mono (by decide)) (ya.cons (by decide) rfl (q3.mono (by decide)) (ya.cons (by decide) rfl (q3.mono (by decide)) (ya.nil))))
def zfR : EI := ⟨.struct [(0, 3), (1, 3), (2, 3)], 3, 24, some [.int .i64 0, .int .i64 0, .int .i64 0], true⟩
theorem z9H : zdo Tryz.prog 134 zfR := ⟨⟨Tryz.t134, by kernel_rfl, rfl, rfl, fun z h => by cases h; exact ⟨_, rfl, rfl, z3T rfl, rfl, ⟨_, rfl⟩⟩⟩, ⟨_, Tryz.underlying134, by kernel_rfl, by
  intro f hf
  simp only [List.mem_cons, List.not_mem_nil, or_false] at hf
  rcases hf with rfl | rfl | rfl
  ·exact ⟨Tryz.t3, by kernel_rfl⟩
  ·exact ⟨Tryz.t3, by kernel_rfl⟩
  ·exact ⟨Tryz.t3, by kernel_rfl⟩⟩, fun _ => z0t zfM rfl rfl (Nat.le_of_ble_eq_true (by kernel_rfl)) (by decide)⟩
end Go.Ex

namespace Go.Own
open Go.Proofs
def zdT : Value → Bool
 | .int _ _ => true
 | _ => false
theorem z1V : ∀ {z vs us : List Value} {r : Bool}, z.all zdT = true → z.length = vs.length → yD vs us = some r → Go.Ex.z1W z vs = true ∧ Go.Ex.yD vs us = some r
 | [], [], us, r, _, _, h => by
  cases us with
  | nil => simp only [yD, Option.some.injEq] at h; subst h; exact ⟨rfl, rfl⟩
  | cons u us => simp [yD] at h
 | a :: z, v :: vs, us, r, hz, hl, h => by
  have q : ∃ k x u' k' y, v = .int k x ∧ us = .int k' y :: u' ∧ k = k' := by
   cases us with
   | nil => cases v <;> simp [yD] at h
   | cons u us =>
    cases v <;> cases u <;> simp [yD] at h
    exact ⟨_, _, _, _, _, rfl, rfl, h.1⟩
  obtain ⟨k, x, u', k', y, rfl, rfl, hk⟩ := q
  simp only [yD, hk, if_true, Option.map_eq_some_iff] at h
  obtain ⟨r', e1, rfl⟩ := h
  simp only [List.all_cons, Bool.and_eq_true] at hz
  obtain ⟨q1, q2⟩ := z1V hz.2 (by simpa using hl) e1
  refine ⟨?_, by simp [Go.Ex.yD, hk, q2]⟩
  cases a <;> first | (simp [zdT] at hz; done) | simpa [Go.Ex.z1W] using q1
 | [], _ :: _, _, _, _, hl, _ => by simp at hl
 | _ :: _, [], _, _, _, hl, _ => by simp at hl
theorem z5O {P : Program} {t n : Nat} {i : Go.Ex.EI} (h : Go.Ex.zah P t i) {z : List Value} (hz : i.zero = some z) (hi : z.all zdT = true) (hs : i.size = n) (hn : z.length = n) : zah P t n := {
 guard := h.guard
 run := fun vs us r w hv hu he => by
  obtain ⟨q1, q2⟩ := z1V hi (by rw [hn, hv]) he
  exact h.run vs us r w (by rw [hs]; exact hv) (by rw [hs]; exact hu) (by simpa only [Go.Ex.zdW, hz] using q1) q2 }
theorem zJ {S : zh} {h : Array Obj} {v : Value} (hv : v.oneCell' = true) : zA S h (.atom v) [v] [] := by simp only [zA, Rep]; exact ⟨⟨trivial, hv⟩, trivial⟩
theorem vF {S : zh} {h : Array Obj} (sz : Nat) : zA S h (.osl sz true []) [.slice none 0 0] [] := by
 simp only [zA]
 exact ⟨none, 0, rfl, (fun _ => rfl), Nat.le_refl _, Nat.zero_le _, by simp, .inl ⟨trivial, rfl, rfl, trivial⟩⟩
theorem WY {S : zh} {h : Array Obj} {fs : List A} {cs : List Value} (q : zC S h fs cs []) : zA S h (.agg fs) cs [] := by simpa only [zA] using q
theorem XA {S : zh} {h : Array Obj} : zC S h [] [] [] := by simp [zC]
theorem xW {S : zh} {h : Array Obj} {a : A} {fs : List A} {c1 c2 : List Value} (q1 : zA S h a c1 []) (q2 : zC S h fs c2 []) : zC S h (a :: fs) (c1 ++ c2) [] := by simp only [zC]; exact ⟨c1, c2, [], [], rfl, rfl, q1, q2⟩
def ti1 : TI := ⟨.other, 1, 8, some (.atom .nilFunc), false⟩
theorem zau : Zn Tryz.prog 1 ti1 := ⟨⟨Tryz.t1, by kernel_rfl, rfl, rfl, fun z h => by cases h; exact ⟨_, rfl, rfl, fun S h => zJ rfl⟩⟩, ⟨_, Tryz.underlying1, rfl⟩, by intro h; cases h⟩
def ti2 : TI := ⟨.int .i64, 1, 8, some (.atom (.int .i64 0)), false⟩
theorem zat : Zn Tryz.prog 2 ti2 := ⟨⟨Tryz.t2, by kernel_rfl, rfl, rfl, fun z h => by cases h; exact ⟨_, rfl, rfl, fun S h => zJ rfl⟩⟩, Tryz.underlying2, by intro h; cases h⟩
def ti3 : TI := ⟨.int .i64, 1, 8, some (.atom (.int .i64 0)), false⟩
theorem zas : Zn Tryz.prog 3 ti3 := ⟨⟨Tryz.t3, by kernel_rfl, rfl, rfl, fun z h => by cases h; exact ⟨_, rfl, rfl, fun S h => zJ rfl⟩⟩, Tryz.underlying3, by intro h; cases h⟩
def ti4 : TI := ⟨.bool, 1, 1, some (.atom (.bool false)), false⟩
theorem zar : Zn Tryz.prog 4 ti4 := ⟨⟨Tryz.t4, by kernel_rfl, rfl, rfl, fun z h => by cases h; exact ⟨_, rfl, rfl, fun S h => zJ rfl⟩⟩, Tryz.underlying4, by intro h; cases h⟩
def ti5 : TI := ⟨.int .u8, 1, 1, some (.atom (.int .u8 0)), false⟩
theorem zaq : Zn Tryz.prog 5 ti5 := ⟨⟨Tryz.t5, by kernel_rfl, rfl, rfl, fun z h => by cases h; exact ⟨_, rfl, rfl, fun S h => zJ rfl⟩⟩, Tryz.underlying5, by intro h; cases h⟩
def ti9 : TI := ⟨.str, 1, 16, none, false⟩
theorem zap : Zn Tryz.prog 9 ti9 := ⟨⟨Tryz.t9, by kernel_rfl, rfl, rfl, fun z h => by cases h⟩, Tryz.underlying9, by intro h; cases h⟩
def zeZ : TI := ⟨.slice 66, 1, 24, some (.osl 1 true []), false⟩
theorem z8V : Zn Tryz.prog 22 zeZ := ⟨⟨Tryz.t22, by kernel_rfl, rfl, rfl, fun z h => by cases h; exact ⟨_, rfl, rfl, fun S h => vF _⟩⟩, Tryz.underlying22, by intro h; cases h⟩
def zeY : TI := ⟨.struct [(0, 1), (1, 1), (2, 1), (3, 1), (4, 1)], 5, 32, some (.agg [.atom (.int .u8 0), .atom (.int .u8 0), .atom (.int .u8 0), .atom (.bool false), .osl 1 true []]), false⟩
theorem z8U : Zn Tryz.prog 24 zeY := ⟨⟨Tryz.t24, by kernel_rfl, rfl, rfl, fun z h => by cases h; exact ⟨_, rfl, rfl, fun S h => WY (xW (zJ rfl) (xW (zJ rfl) (xW (zJ rfl) (xW (zJ rfl) (xW (vF _) (XA))))))⟩⟩, ⟨_, Tryz.underlying24, by kernel_rfl, by
  intro f hf
  simp only [List.mem_cons, List.not_mem_nil, or_false] at hf
  rcases hf with rfl | rfl | rfl | rfl | rfl
  ·exact ⟨Tryz.t5, by kernel_rfl⟩
  ·exact ⟨Tryz.t5, by kernel_rfl⟩
  ·exact ⟨Tryz.t5, by kernel_rfl⟩
  ·exact ⟨Tryz.t4, by kernel_rfl⟩
  ·exact ⟨Tryz.t22, by kernel_rfl⟩⟩, by intro h; cases h⟩
def zeX : TI := ⟨.slice 65, 1, 24, some (.osl 1 true []), false⟩
theorem z8T : Zn Tryz.prog 25 zeX := ⟨⟨Tryz.t25, by kernel_rfl, rfl, rfl, fun z h => by cases h; exact ⟨_, rfl, rfl, fun S h => vF _⟩⟩, Tryz.underlying25, by intro h; cases h⟩
def zeW : TI := ⟨.struct [(0, 1), (1, 1), (2, 1)], 3, 40, some (.agg [.atom (.int .i64 0), .atom (.int .i64 0), .osl 1 true []]), false⟩
theorem z8S : Zn Tryz.prog 27 zeW := ⟨⟨Tryz.t27, by kernel_rfl, rfl, rfl, fun z h => by cases h; exact ⟨_, rfl, rfl, fun S h => WY (xW (zJ rfl) (xW (zJ rfl) (xW (vF _) (XA))))⟩⟩, ⟨_, Tryz.underlying27, by kernel_rfl, by
  intro f hf
  simp only [List.mem_cons, List.not_mem_nil, or_false] at hf
  rcases hf with rfl | rfl | rfl
  ·exact ⟨Tryz.t3, by kernel_rfl⟩
  ·exact ⟨Tryz.t3, by kernel_rfl⟩
  ·exact ⟨Tryz.t25, by kernel_rfl⟩⟩, by intro h; cases h⟩
def zeV : TI := ⟨.slice 77, 1, 24, some (.osl 1 true []), false⟩
theorem z8R : Zn Tryz.prog 29 zeV := ⟨⟨Tryz.t29, by kernel_rfl, rfl, rfl, fun z h => by cases h; exact ⟨_, rfl, rfl, fun S h => vF _⟩⟩, Tryz.underlying29, by intro h; cases h⟩
def zeU : TI := ⟨.int .i64, 1, 8, some (.atom (.int .i64 0)), false⟩
theorem z8Q : Zn Tryz.prog 30 zeU := ⟨⟨Tryz.t30, by kernel_rfl, rfl, rfl, fun z h => by cases h; exact ⟨_, rfl, rfl, fun S h => zJ rfl⟩⟩, Tryz.underlying30, by intro h; cases h⟩
def zeT : TI := ⟨.slice 4, 1, 24, some (.osl 1 true []), false⟩
theorem z8P : Zn Tryz.prog 45 zeT := ⟨⟨Tryz.t45, by kernel_rfl, rfl, rfl, fun z h => by cases h; exact ⟨_, rfl, rfl, fun S h => vF _⟩⟩, Tryz.underlying45, by intro h; cases h⟩
def zeS : TI := ⟨.slice 45, 1, 24, some (.osl 1 true []), false⟩
theorem z8O : Zn Tryz.prog 46 zeS := ⟨⟨Tryz.t46, by kernel_rfl, rfl, rfl, fun z h => by cases h; exact ⟨_, rfl, rfl, fun S h => vF _⟩⟩, Tryz.underlying46, by intro h; cases h⟩
def zeR : TI := ⟨.struct [(0, 1), (1, 1)], 2, 48, some (.agg [.osl 1 true [], .osl 1 true []]), false⟩
theorem z8N : Zn Tryz.prog 48 zeR := ⟨⟨Tryz.t48, by kernel_rfl, rfl, rfl, fun z h => by cases h; exact ⟨_, rfl, rfl, fun S h => WY (xW (vF _) (xW (vF _) (XA)))⟩⟩, ⟨_, Tryz.underlying48, by kernel_rfl, by
  intro f hf
  simp only [List.mem_cons, List.not_mem_nil, or_false] at hf
  rcases hf with rfl | rfl
  ·exact ⟨Tryz.t45, by kernel_rfl⟩
  ·exact ⟨Tryz.t46, by kernel_rfl⟩⟩, by intro h; cases h⟩
def zeQ : TI := ⟨.slice 5, 1, 24, some (.osl 1 true []), false⟩
theorem z8M : Zn Tryz.prog 60 zeQ := ⟨⟨Tryz.t60, by kernel_rfl, rfl, rfl, fun z h => by cases h; exact ⟨_, rfl, rfl, fun S h => vF _⟩⟩, Tryz.underlying60, by intro h; cases h⟩
def zeP : TI := ⟨.slice 68, 1, 24, some (.osl 2 true []), false⟩
theorem z8L : Zn Tryz.prog 65 zeP := ⟨⟨Tryz.t65, by kernel_rfl, rfl, rfl, fun z h => by cases h; exact ⟨_, rfl, rfl, fun S h => vF _⟩⟩, Tryz.underlying65, by intro h; cases h⟩
def zeO : TI := ⟨.int .u16, 1, 2, some (.atom (.int .u16 0)), false⟩
theorem z8K : Zn Tryz.prog 66 zeO := ⟨⟨Tryz.t66, by kernel_rfl, rfl, rfl, fun z h => by cases h; exact ⟨_, rfl, rfl, fun S h => zJ rfl⟩⟩, Tryz.underlying66, by intro h; cases h⟩
def zeN : TI := ⟨.struct [(0, 1), (1, 1)], 2, 16, some (.agg [.atom (.int .i64 0), .atom (.int .i64 0)]), true⟩
theorem z8J : Zn Tryz.prog 68 zeN := ⟨⟨Tryz.t68, by kernel_rfl, rfl, rfl, fun z h => by cases h; exact ⟨_, rfl, rfl, fun S h => WY (xW (zJ rfl) (xW (zJ rfl) (XA)))⟩⟩, ⟨_, Tryz.underlying68, by kernel_rfl, by
  intro f hf
  simp only [List.mem_cons, List.not_mem_nil, or_false] at hf
  rcases hf with rfl | rfl
  ·exact ⟨Tryz.t3, by kernel_rfl⟩
  ·exact ⟨Tryz.t3, by kernel_rfl⟩⟩, fun _ => z5O (Go.Ex.zbl.eqn rfl) rfl rfl rfl rfl⟩
def zeM : TI := ⟨.slice 3, 1, 24, some (.osl 1 true []), false⟩
theorem z8I : Zn Tryz.prog 77 zeM := ⟨⟨Tryz.t77, by kernel_rfl, rfl, rfl, fun z h => by cases h; exact ⟨_, rfl, rfl, fun S h => vF _⟩⟩, Tryz.underlying77, by intro h; cases h⟩
def zeL : TI := ⟨.other, 1, 8, some (.atom .nilFunc), false⟩
theorem z8H : Zn Tryz.prog 82 zeL := ⟨⟨Tryz.t82, by kernel_rfl, rfl, rfl, fun z h => by cases h; exact ⟨_, rfl, rfl, fun S h => zJ rfl⟩⟩, ⟨_, Tryz.underlying82, rfl⟩, by intro h; cases h⟩
def zeK : TI := ⟨.other, 1, 8, some (.atom .nilFunc), false⟩
theorem z8G : Zn Tryz.prog 83 zeK := ⟨⟨Tryz.t83, by kernel_rfl, rfl, rfl, fun z h => by cases h; exact ⟨_, rfl, rfl, fun S h => zJ rfl⟩⟩, ⟨_, Tryz.underlying83, rfl⟩, by intro h; cases h⟩
def zeJ : TI := ⟨.other, 1, 8, some (.atom .nilFunc), false⟩
theorem z8F : Zn Tryz.prog 84 zeJ := ⟨⟨Tryz.t84, by kernel_rfl, rfl, rfl, fun z h => by cases h; exact ⟨_, rfl, rfl, fun S h => zJ rfl⟩⟩, ⟨_, Tryz.underlying84, rfl⟩, by intro h; cases h⟩
def zeI : TI := ⟨.other, 1, 8, some (.atom .nilFunc), false⟩
theorem z8E : Zn Tryz.prog 85 zeI := ⟨⟨Tryz.t85, by kernel_rfl, rfl, rfl, fun z h => by cases h; exact ⟨_, rfl, rfl, fun S h => zJ rfl⟩⟩, ⟨_, Tryz.underlying85, rfl⟩, by intro h; cases h⟩
def zeH : TI := ⟨.other, 1, 8, some (.atom .nilFunc), false⟩
theorem z8D : Zn Tryz.prog 86 zeH := ⟨⟨Tryz.t86, by kernel_rfl, rfl, rfl, fun z h => by cases h; exact ⟨_, rfl, rfl, fun S h => zJ rfl⟩⟩, ⟨_, Tryz.underlying86, rfl⟩, by intro h; cases h⟩
def zeG : TI := ⟨.other, 1, 8, some (.atom .nilFunc), false⟩
theorem z8C : Zn Tryz.prog 87 zeG := ⟨⟨Tryz.t87, by kernel_rfl, rfl, rfl, fun z h => by cases h; exact ⟨_, rfl, rfl, fun S h => zJ rfl⟩⟩, ⟨_, Tryz.underlying87, rfl⟩, by intro h; cases h⟩
def zeF : TI := ⟨.other, 1, 8, some (.atom .nilFunc), false⟩
theorem z8B : Zn Tryz.prog 98 zeF := ⟨⟨Tryz.t98, by kernel_rfl, rfl, rfl, fun z h => by cases h; exact ⟨_, rfl, rfl, fun S h => zJ rfl⟩⟩, ⟨_, Tryz.underlying98, rfl⟩, by intro h; cases h⟩
def zaH : TI := ⟨.other, 1, 8, some (.atom .nilFunc), false⟩
theorem z6G : Zn Tryz.prog 104 zaH := ⟨⟨Tryz.t104, by kernel_rfl, rfl, rfl, fun z h => by cases h; exact ⟨_, rfl, rfl, fun S h => zJ rfl⟩⟩, ⟨_, Tryz.underlying104, rfl⟩, by intro h; cases h⟩
def zaG : TI := ⟨.other, 1, 8, none, false⟩
theorem z6F : Zn Tryz.prog 109 zaG := ⟨⟨Tryz.t109, by kernel_rfl, rfl, rfl, fun z h => by cases h⟩, ⟨_, Tryz.underlying109, rfl⟩, by intro h; cases h⟩
def zaF : TI := ⟨.other, 1, 8, some (.atom .nilFunc), false⟩
theorem z6E : Zn Tryz.prog 116 zaF := ⟨⟨Tryz.t116, by kernel_rfl, rfl, rfl, fun z h => by cases h; exact ⟨_, rfl, rfl, fun S h => zJ rfl⟩⟩, ⟨_, Tryz.underlying116, rfl⟩, by intro h; cases h⟩
def zaE : TI := ⟨.other, 1, 8, some (.atom .nilFunc), false⟩
theorem z6D : Zn Tryz.prog 117 zaE := ⟨⟨Tryz.t117, by kernel_rfl, rfl, rfl, fun z h => by cases h; exact ⟨_, rfl, rfl, fun S h => zJ rfl⟩⟩, ⟨_, Tryz.underlying117, rfl⟩, by intro h; cases h⟩
def zaD : TI := ⟨.other, 1, 8, some (.atom .nilFunc), false⟩
theorem z6C : Zn Tryz.prog 125 zaD := ⟨⟨Tryz.t125, by kernel_rfl, rfl, rfl, fun z h => by cases h; exact ⟨_, rfl, rfl, fun S h => zJ rfl⟩⟩, ⟨_, Tryz.underlying125, rfl⟩, by intro h; cases h⟩
def zaC : TI := ⟨.other, 1, 8, some (.atom .nilFunc), false⟩
theorem z6B : Zn Tryz.prog 128 zaC := ⟨⟨Tryz.t128, by kernel_rfl, rfl, rfl, fun z h => by cases h; exact ⟨_, rfl, rfl, fun S h => zJ rfl⟩⟩, ⟨_, Tryz.underlying128, rfl⟩, by intro h; cases h⟩
def zaB : TI := ⟨.other, 1, 8, some (.atom .nilFunc), false⟩
theorem z6A : Zn Tryz.prog 130 zaB := ⟨⟨Tryz.t130, by kernel_rfl, rfl, rfl, fun z h => by cases h; exact ⟨_, rfl, rfl, fun S h => zJ rfl⟩⟩, ⟨_, Tryz.underlying130, rfl⟩, by intro h; cases h⟩
def zaA : TI := ⟨.other, 1, 8, some (.atom .nilFunc), false⟩
theorem z6z : Zn Tryz.prog 131 zaA := ⟨⟨Tryz.t131, by kernel_rfl, rfl, rfl, fun z h => by cases h; exact ⟨_, rfl, rfl, fun S h => zJ rfl⟩⟩, ⟨_, Tryz.underlying131, rfl⟩, by intro h; cases h⟩
def zaz : TI := ⟨.struct [(0, 1), (1, 1), (2, 1)], 3, 24, some (.agg [.atom (.int .i64 0), .atom (.int .i64 0), .atom (.int .i64 0)]), true⟩
theorem z6y : Zn Tryz.prog 134 zaz := ⟨⟨Tryz.t134, by kernel_rfl, rfl, rfl, fun z h => by cases h; exact ⟨_, rfl, rfl, fun S h => WY (xW (zJ rfl) (xW (zJ rfl) (xW (zJ rfl) (XA))))⟩⟩, ⟨_, Tryz.underlying134, by kernel_rfl, by
  intro f hf
  simp only [List.mem_cons, List.not_mem_nil, or_false] at hf
  rcases hf with rfl | rfl | rfl
  ·exact ⟨Tryz.t3, by kernel_rfl⟩
  ·exact ⟨Tryz.t3, by kernel_rfl⟩
  ·exact ⟨Tryz.t3, by kernel_rfl⟩⟩, fun _ => z5O (Go.Ex.z9H.eqn rfl) rfl rfl rfl rfl⟩
def zay : TI := ⟨.other, 1, 8, some (.atom .nilFunc), false⟩
theorem z6x : Zn Tryz.prog 138 zay := ⟨⟨Tryz.t138, by kernel_rfl, rfl, rfl, fun z h => by cases h; exact ⟨_, rfl, rfl, fun S h => zJ rfl⟩⟩, ⟨_, Tryz.underlying138, rfl⟩, by intro h; cases h⟩
def zax : TI := ⟨.slice 29, 1, 24, some (.osl 1 true []), false⟩
theorem z6w : Zn Tryz.prog 139 zax := ⟨⟨Tryz.t139, by kernel_rfl, rfl, rfl, fun z h => by cases h; exact ⟨_, rfl, rfl, fun S h => vF _⟩⟩, Tryz.underlying139, by intro h; cases h⟩
def zaw : TI := ⟨.other, 1, 8, some (.atom .nilFunc), false⟩
theorem z6v : Zn Tryz.prog 148 zaw := ⟨⟨Tryz.t148, by kernel_rfl, rfl, rfl, fun z h => by cases h; exact ⟨_, rfl, rfl, fun S h => zJ rfl⟩⟩, ⟨_, Tryz.underlying148, rfl⟩, by intro h; cases h⟩
def zav : TI := ⟨.slice 134, 1, 24, some (.osl 3 true []), false⟩
theorem z6u : Zn Tryz.prog 149 zav := ⟨⟨Tryz.t149, by kernel_rfl, rfl, rfl, fun z h => by cases h; exact ⟨_, rfl, rfl, fun S h => vF _⟩⟩, Tryz.underlying149, by intro h; cases h⟩
def tiL : List (Nat × TI) := [(1, ti1), (2, ti2), (3, ti3), (4, ti4), (5, ti5), (9, ti9), (22, zeZ), (24, zeY), (25, zeX), (27, zeW), (29, zeV), (30, zeU), (45, zeT), (46, zeS), (48, zeR), (60, zeQ), (65, zeP), (66, zeO), (68, zeN), (77, zeM), (82, zeL), (83, zeK), (84, zeJ), (85, zeI), (86, zeH), (87, zeG), (98, zeF), (104, zaH), (109, zaG), (116, zaF), (117, zaE), (125, zaD), (128, zaC), (130, zaB), (131, zaA), (134, zaz), (138, zay), (139, zax), (148, zaw), (149, zav)]
def yw : TT := fun t => (tiL.find? fun p => p.1 == t).map (·.2)
def z6m (P : Program) : List (Nat × TI) → Prop
 | [] => True
 | p :: l => Zn P p.1 p.2 ∧ z6m P l
theorem z6m.mem {P : Program} : ∀ {l : List (Nat × TI)}, z6m P l → ∀ p ∈ l, Zn P p.1 p.2
 | p :: _, h, q, hq => by
  rcases List.mem_cons.1 hq with rfl | hq
  ·exact h.1
  ·exact z6m.mem h.2 q hq
 | [], _, _, hq => by cases hq
theorem zao : z6m Tryz.prog tiL := ⟨zau, zat, zas, zar, zaq, zap, z8V, z8U, z8T, z8S, z8R, z8Q, z8P, z8O, z8N, z8M, z8L, z8K, z8J, z8I, z8H, z8G, z8F, z8E, z8D, z8C, z8B, z6G, z6F, z6E, z6D, z6C, z6B, z6A, z6z, z6y, z6x, z6w, z6v, z6u, trivial⟩
theorem zz : xC Tryz.prog yw := by
 intro t i h
 unfold yw at h
 rw [Option.map_eq_some_iff] at h
 obtain ⟨p, h1, rfl⟩ := h
 have h2 := List.find?_some h1
 have h3 := zao.mem p (List.mem_of_find?_eq_some h1)
 rw [beq_iff_eq.1 h2] at h3
 exact h3
theorem zg1 : yw 1 = some ⟨.other, 1, 8, some (.atom .nilFunc), false⟩ := rfl
theorem zg0 : yw 2 = some ⟨.int .i64, 1, 8, some (.atom (.int .i64 0)), false⟩ := rfl
theorem zfZ : yw 3 = some ⟨.int .i64, 1, 8, some (.atom (.int .i64 0)), false⟩ := rfl
theorem zfY : yw 4 = some ⟨.bool, 1, 1, some (.atom (.bool false)), false⟩ := rfl
theorem zfX : yw 5 = some ⟨.int .u8, 1, 1, some (.atom (.int .u8 0)), false⟩ := rfl
theorem zfW : yw 9 = some ⟨.str, 1, 16, none, false⟩ := rfl
theorem zeq : yw 22 = some ⟨.slice 66, 1, 24, some (.osl 1 true []), false⟩ := rfl
theorem zep : yw 24 = some ⟨.struct [(0, 1), (1, 1), (2, 1), (3, 1), (4, 1)], 5, 32, some (.agg [.atom (.int .u8 0), .atom (.int .u8 0), .atom (.int .u8 0), .atom (.bool false), .osl 1 true []]), false⟩ := rfl
theorem zeo : yw 25 = some ⟨.slice 65, 1, 24, some (.osl 1 true []), false⟩ := rfl
theorem zen : yw 27 = some ⟨.struct [(0, 1), (1, 1), (2, 1)], 3, 40, some (.agg [.atom (.int .i64 0), .atom (.int .i64 0), .osl 1 true []]), false⟩ := rfl
theorem zem : yw 29 = some ⟨.slice 77, 1, 24, some (.osl 1 true []), false⟩ := rfl
theorem zel : yw 30 = some ⟨.int .i64, 1, 8, some (.atom (.int .i64 0)), false⟩ := rfl
theorem zek : yw 45 = some ⟨.slice 4, 1, 24, some (.osl 1 true []), false⟩ := rfl
theorem zej : yw 46 = some ⟨.slice 45, 1, 24, some (.osl 1 true []), false⟩ := rfl
theorem zei : yw 48 = some ⟨.struct [(0, 1), (1, 1)], 2, 48, some (.agg [.osl 1 true [], .osl 1 true []]), false⟩ := rfl
theorem zeh : yw 60 = some ⟨.slice 5, 1, 24, some (.osl 1 true []), false⟩ := rfl
theorem zeg : yw 65 = some ⟨.slice 68, 1, 24, some (.osl 2 true []), false⟩ := rfl
theorem zef : yw 66 = some ⟨.int .u16, 1, 2, some (.atom (.int .u16 0)), false⟩ := rfl
theorem zee : yw 68 = some ⟨.struct [(0, 1), (1, 1)], 2, 16, some (.agg [.atom (.int .i64 0), .atom (.int .i64 0)]), true⟩ := rfl
theorem zed : yw 77 = some ⟨.slice 3, 1, 24, some (.osl 1 true []), false⟩ := rfl
theorem zec : yw 82 = some ⟨.other, 1, 8, some (.atom .nilFunc), false⟩ := rfl
theorem zeb : yw 83 = some ⟨.other, 1, 8, some (.atom .nilFunc), false⟩ := rfl
theorem zea : yw 84 = some ⟨.other, 1, 8, some (.atom .nilFunc), false⟩ := rfl
theorem ze9 : yw 85 = some ⟨.other, 1, 8, some (.atom .nilFunc), false⟩ := rfl
theorem ze8 : yw 86 = some ⟨.other, 1, 8, some (.atom .nilFunc), false⟩ := rfl
theorem ze7 : yw 87 = some ⟨.other, 1, 8, some (.atom .nilFunc), false⟩ := rfl
theorem ze6 : yw 98 = some ⟨.other, 1, 8, some (.atom .nilFunc), false⟩ := rfl
theorem zbR : yw 104 = some ⟨.other, 1, 8, some (.atom .nilFunc), false⟩ := rfl
theorem zbQ : yw 109 = some ⟨.other, 1, 8, none, false⟩ := rfl
theorem zbP : yw 116 = some ⟨.other, 1, 8, some (.atom .nilFunc), false⟩ := rfl
theorem zbO : yw 117 = some ⟨.other, 1, 8, some (.atom .nilFunc), false⟩ := rfl
theorem zbN : yw 125 = some ⟨.other, 1, 8, some (.atom .nilFunc), false⟩ := rfl
theorem zbM : yw 128 = some ⟨.other, 1, 8, some (.atom .nilFunc), false⟩ := rfl
theorem zbL : yw 130 = some ⟨.other, 1, 8, some (.atom .nilFunc), false⟩ := rfl
theorem zbK : yw 131 = some ⟨.other, 1, 8, some (.atom .nilFunc), false⟩ := rfl
theorem zbJ : yw 134 = some ⟨.struct [(0, 1), (1, 1), (2, 1)], 3, 24, some (.agg [.atom (.int .i64 0), .atom (.int .i64 0), .atom (.int .i64 0)]), true⟩ := rfl
theorem zbI : yw 138 = some ⟨.other, 1, 8, some (.atom .nilFunc), false⟩ := rfl
theorem zbH : yw 139 = some ⟨.slice 29, 1, 24, some (.osl 1 true []), false⟩ := rfl
theorem zbG : yw 148 = some ⟨.other, 1, 8, some (.atom .nilFunc), false⟩ := rfl
theorem zbF : yw 149 = some ⟨.slice 134, 1, 24, some (.osl 3 true []), false⟩ := rfl
attribute [go_sem] zg1 zg0 zfZ zfY zfX zfW zeq zep zeo zen zem zel zek zej zei zeh zeg zef zee zed zec zeb zea ze9 ze8 ze7 ze6 zbR zbQ zbP zbO zbN zbM zbL zbK zbJ zbI zbH zbG zbF
end Go.Own

namespace Go.Own
structure zY where
 States : Int
 Inputs : Int
 Outputs : Int
 Partial : Bool
 Edges : List Int
def jw (f0 : Int → A) (f1 : Int → A) (f2 : Int → A) (f3 : Bool → A) (f4 : List Int → A) (x : zY) : A := .agg [f0 x.States, f1 x.Inputs, f2 x.Outputs, f3 x.Partial, f4 x.Edges]
instance (f0 : Int → A) (f1 : Int → A) (f2 : Int → A) (f3 : Bool → A) (f4 : List Int → A) (g0 : Int → A) (g1 : Int → A) (g2 : Int → A) (g3 : Bool → A) (g4 : List Int → A) [h0 : Vh f0 g0] [h1 : Vh f1 g1] [h2 : Vh f2 g2] [h3 : Vh f3 g3] [h4 : Vh f4 g4] : Vh (jw f0 f1 f2 f3 f4) (jw g0 g1 g2 g3 g4) := ⟨fun x => by simp [jw, A.loose, A.looses, h0.lo, h1.lo, h2.lo, h3.lo, h4.lo]⟩
instance (f0 : Int → A) (f1 : Int → A) (f2 : Int → A) (f3 : Bool → A) (f4 : List Int → A) [h0 : uJ f0] [h1 : uJ f1] [h2 : uJ f2] [h3 : uJ f3] [h4 : uJ f4] : uJ (jw f0 f1 f2 f3 f4) := ⟨fun x y h => by
 simp only [jw, A.agg.injEq, List.cons.injEq, and_true] at h
 cases x; cases y
 simp only [zY.mk.injEq]
 exact ⟨h0.inj _ _ h.1, h1.inj _ _ h.2.1, h2.inj _ _ h.2.2.1, h3.inj _ _ h.2.2.2.1, h4.inj _ _ h.2.2.2.2⟩⟩
structure z8 where
 To : Int
 Out : Int
def wh (f0 : Int → A) (f1 : Int → A) (x : z8) : A := .agg [f0 x.To, f1 x.Out]
instance (f0 : Int → A) (f1 : Int → A) [h0 : z2f f0] [h1 : z2f f1] : z2f (wh f0 f1) := ⟨fun x => by simp [wh, A.isD, A.areD, h0.isD, h1.isD]⟩
instance (f0 : Int → A) (f1 : Int → A) (g0 : Int → A) (g1 : Int → A) [h0 : Vh f0 g0] [h1 : Vh f1 g1] : Vh (wh f0 f1) (wh g0 g1) := ⟨fun x => by simp [wh, A.loose, A.looses, h0.lo, h1.lo]⟩
instance (f0 : Int → A) (f1 : Int → A) (g0 : Int → A) (g1 : Int → A) [h0 : z6r f0 g0] [h1 : z6r f1 g1] : z6r (wh f0 f1) (wh g0 g1) := ⟨fun x => by simp [wh, A.live, A.lives, h0.live, h1.live], fun x => by simp [wh, A.shut, A.shuts, h0.sh, h1.sh]⟩
instance (f0 : Int → A) (f1 : Int → A) [h0 : uJ f0] [h1 : uJ f1] : uJ (wh f0 f1) := ⟨fun x y h => by
 simp only [wh, A.agg.injEq, List.cons.injEq, and_true] at h
 cases x; cases y
 simp only [z8.mk.injEq]
 exact ⟨h0.inj _ _ h.1, h1.inj _ _ h.2⟩⟩
structure z7 where
 Inputs : Int
 Outputs : Int
 Rows : List (List z8)
def v7 (f0 : Int → A) (f1 : Int → A) (f2 : List (List z8) → A) (x : z7) : A := .agg [f0 x.Inputs, f1 x.Outputs, f2 x.Rows]
instance (f0 : Int → A) (f1 : Int → A) (f2 : List (List z8) → A) (g0 : Int → A) (g1 : Int → A) (g2 : List (List z8) → A) [h0 : Vh f0 g0] [h1 : Vh f1 g1] [h2 : Vh f2 g2] : Vh (v7 f0 f1 f2) (v7 g0 g1 g2) := ⟨fun x => by simp [v7, A.loose, A.looses, h0.lo, h1.lo, h2.lo]⟩
instance (f0 : Int → A) (f1 : Int → A) (f2 : List (List z8) → A) [h0 : uJ f0] [h1 : uJ f1] [h2 : uJ f2] : uJ (v7 f0 f1 f2) := ⟨fun x y h => by
 simp only [v7, A.agg.injEq, List.cons.injEq, and_true] at h
 cases x; cases y
 simp only [z7.mk.injEq]
 exact ⟨h0.inj _ _ h.1, h1.inj _ _ h.2.1, h2.inj _ _ h.2.2⟩⟩
structure zf where
 state_ : Int
 from_ : Int
 input_ : Int
def kV (f0 : Int → A) (f1 : Int → A) (f2 : Int → A) (x : zf) : A := .agg [f0 x.state_, f1 x.from_, f2 x.input_]
instance (f0 : Int → A) (f1 : Int → A) (f2 : Int → A) [h0 : z2f f0] [h1 : z2f f1] [h2 : z2f f2] : z2f (kV f0 f1 f2) := ⟨fun x => by simp [kV, A.isD, A.areD, h0.isD, h1.isD, h2.isD]⟩
structure zc where
 States : List Bool
 Edges : List (List Bool)
def xK (f0 : List Bool → A) (f1 : List (List Bool) → A) (x : zc) : A := .agg [f0 x.States, f1 x.Edges]
instance (f0 : List Bool → A) (f1 : List (List Bool) → A) (g0 : List Bool → A) (g1 : List (List Bool) → A) [h0 : Vh f0 g0] [h1 : Vh f1 g1] : Vh (xK f0 f1) (xK g0 g1) := ⟨fun x => by simp [xK, A.loose, A.looses, h0.lo, h1.lo]⟩
instance (f0 : List Bool → A) (f1 : List (List Bool) → A) [h0 : uJ f0] [h1 : uJ f1] : uJ (xK f0 f1) := ⟨fun x y h => by
 simp only [xK, A.agg.injEq, List.cons.injEq, and_true] at h
 cases x; cases y
 simp only [zc.mk.injEq]
 exact ⟨h0.inj _ _ h.1, h1.inj _ _ h.2⟩⟩
def kn (x_ : zY) (m_Rows : List (List z8)) : Option z7 :=
 some (z7.mk (w64 (1 + (w64 (Int.tmod x_.Inputs 3)))) (w64 (1 + (w64 (Int.tmod x_.Outputs 3)))) m_Rows)
def km (s_ : Int) (m_Rows2 : List (List z8)) : Option (LR (List (List z8) × Int) (List (List z8))) :=
 some (.next (m_Rows2, w64 (s_ + 1)))
def kl (m_Rows1 : List (List z8)) (s_ : Int) (row : List z8) : Option (LR (List (List z8) × Int) (List (List z8))) :=
 gd (m_Rows1.length + ([row] : List (List z8)).length ≤ 4294967296) <|
 km s_ (m_Rows1 ++ ([row] : List (List z8)))
def q9 (i_ : Int) (row2 : List z8) : Option (LR (List z8 × Int) (List z8)) :=
 some (.next (row2, w64 (i_ + 1)))
def v6 (x_ : zY) (row1 : List z8) (i_ : Int) (v_ : Int) : Option (LR (List z8 × Int) (List z8)) :=
 bif x_.Partial then (
  gd ((4 : Int) ≠ 0) <|
  bif (Int.tmod v_ 4) == 3 then (
   gd (row1.length + ([(z8.mk (-1) (-1))] : List z8).length ≤ 4294967296) <|
   q9 i_ (row1 ++ ([(z8.mk (-1) (-1))] : List z8)))
  else (
   gd ((4 : Int) ≠ 0) <|
   gd (((w64 (1 + (w64 (Int.tmod x_.States 6)))) : Int) ≠ 0) <|
   gd ((4 : Int) ≠ 0) <|
   gd (((w64 (1 + (w64 (Int.tmod x_.States 6)))) : Int) ≠ 0) <|
   gd (((w64 (1 + (w64 (Int.tmod x_.Outputs 3)))) : Int) ≠ 0) <|
   gd (row1.length + ([(z8.mk (Int.tmod (w64 (Int.tdiv v_ 4)) (w64 (1 + (w64 (Int.tmod x_.States 6))))) (Int.tmod (w64 (Int.tdiv (w64 (Int.tdiv v_ 4)) (w64 (1 + (w64 (Int.tmod x_.States 6)))))) (w64 (1 + (w64 (Int.tmod x_.Outputs 3))))))] : List z8).length ≤ 4294967296) <|
   q9 i_ (row1 ++ ([(z8.mk (Int.tmod (w64 (Int.tdiv v_ 4)) (w64 (1 + (w64 (Int.tmod x_.States 6))))) (Int.tmod (w64 (Int.tdiv (w64 (Int.tdiv v_ 4)) (w64 (1 + (w64 (Int.tmod x_.States 6)))))) (w64 (1 + (w64 (Int.tmod x_.Outputs 3))))))] : List z8))))
 else (
  gd ((4 : Int) ≠ 0) <|
  gd (((w64 (1 + (w64 (Int.tmod x_.States 6)))) : Int) ≠ 0) <|
  gd ((4 : Int) ≠ 0) <|
  gd (((w64 (1 + (w64 (Int.tmod x_.States 6)))) : Int) ≠ 0) <|
  gd (((w64 (1 + (w64 (Int.tmod x_.Outputs 3)))) : Int) ≠ 0) <|
  gd (row1.length + ([(z8.mk (Int.tmod (w64 (Int.tdiv v_ 4)) (w64 (1 + (w64 (Int.tmod x_.States 6))))) (Int.tmod (w64 (Int.tdiv (w64 (Int.tdiv v_ 4)) (w64 (1 + (w64 (Int.tmod x_.States 6)))))) (w64 (1 + (w64 (Int.tmod x_.Outputs 3))))))] : List z8).length ≤ 4294967296) <|
  q9 i_ (row1 ++ ([(z8.mk (Int.tmod (w64 (Int.tdiv v_ 4)) (w64 (1 + (w64 (Int.tmod x_.States 6))))) (Int.tmod (w64 (Int.tdiv (w64 (Int.tdiv v_ 4)) (w64 (1 + (w64 (Int.tmod x_.States 6)))))) (w64 (1 + (w64 (Int.tmod x_.Outputs 3))))))] : List z8)))
def uZ (x_ : zY) (s_ : Int) (row1 : List z8) (i_ : Int) : Option (LR (List z8 × Int) (List z8)) :=
 bif decide (i_ < (w64 (1 + (w64 (Int.tmod x_.Inputs 3))))) then (
  bif decide ((w64 ((w64 (s_ * (w64 (1 + (w64 (Int.tmod x_.Inputs 3)))))) + i_)) < ((x_.Edges.length : Nat) : Int)) then (
   Option.bind (idx x_.Edges (w64 ((w64 (s_ * (w64 (1 + (w64 (Int.tmod x_.Inputs 3)))))) + i_))) fun Edge_e =>
   v6 x_ row1 i_ (w64 (Edge_e)))
  else (
   v6 x_ row1 i_ 0))
 else (
  some (.done row1))
def kj (x_ : zY) (m_Rows1 : List (List z8)) (s_ : Int) : Option (LR (List (List z8) × Int) (List (List z8))) :=
 bif decide (s_ < (w64 (1 + (w64 (Int.tmod x_.States 6))))) then (
  Option.bind (loop (fun s => uZ x_ s_ s.1 s.2) (([] : List z8), 0)) fun t5 =>
  kl m_Rows1 s_ t5)
 else (
  some (.done m_Rows1))
def kE (x_ : zY) : Option z7 :=
 gd ((6 : Int) ≠ 0) <|
 gd ((3 : Int) ≠ 0) <|
 gd ((3 : Int) ≠ 0) <|
 Option.bind (loop (fun s => kj x_ s.1 s.2) (([] : List (List z8)), 0)) fun t2 =>
 kn x_ t2
def ki : Option z8 :=
 some (z8.mk (-1) (-1))
def uX (m_ : z7) (x_ : z8) : Option Bool :=
 Option.bind (ki) fun r_ =>
 bif (x_.To == r_.To) && ((x_.Out == r_.Out) && true) then (
  some true)
 else (
  bif decide (x_.To ≥ 0) then (
   bif decide (x_.To < ((m_.Rows.length : Nat) : Int)) then (
    bif decide (x_.Out ≥ 0) then (
     some (decide (x_.Out < m_.Outputs)))
    else (
     some false))
   else (
    some false))
  else (
   some false))
def uo (x_ : z8) (x1 : z7) : Option Bool :=
 Option.bind (uX x1 x_) fun r_ =>
 some (!r_)
def yi : Option Int :=
 some (-1)
def zB (s_ : List z8) (f_ : z7) (x8 : Int) : Option (LR Int (Unit ⊕ Int)) :=
 bif decide (x8 < ((s_.length : Nat) : Int)) then (
  Option.bind (idx s_ x8) fun s__e =>
  Option.bind (uo s__e f_) fun r_ =>
  bif r_ then (
   some (.done (.inr x8)))
  else (
   some (.next (w64 (x8 + 1)))))
 else (
  some (.done (.inl ())))
def y6 (s_ : List z8) (f_ : z7) : Option Int :=
 Option.bind (loop (fun s => zB s_ f_ s) 0) fun t2 =>
 match t2 with
 | .inl p => yi
 | .inr p => some p
def zL (s_ : List z8) (f_ : z7) : Option Bool :=
 Option.bind (y6 s_ f_) fun r_ =>
 some (decide (r_ ≥ 0))
def qR : Option Int :=
 some 0
def xM (m_ : z7) (x36 : Int) : Option (LR Int (Unit ⊕ Int)) :=
 bif decide (x36 < ((m_.Rows.length : Nat) : Int)) then (
  Option.bind (idx m_.Rows x36) fun Row_e =>
  bif ((Row_e.length : Nat) : Int) != m_.Inputs then (
   some (.done (.inr 1)))
  else (
   Option.bind (zL Row_e m_) fun r_ =>
   bif r_ then (
    some (.done (.inr 1)))
   else (
    some (.next (w64 (x36 + 1))))))
 else (
  some (.done (.inl ())))
def wD (m_ : z7) : Option Int :=
 bif decide (m_.Inputs > 16) then (
  some 3)
 else (
  bif decide (m_.Outputs > 16) then (
   some 3)
  else (
   bif decide (((m_.Rows.length : Nat) : Int) > 64) then (
    some 3)
   else (
    bif decide (m_.Inputs < 1) then (
     some 1)
    else (
     bif decide (m_.Outputs < 1) then (
      some 1)
     else (
      bif decide (((m_.Rows.length : Nat) : Int) < 1) then (
       some 1)
      else (
       Option.bind (loop (fun s => xM m_ s) 0) fun t2 =>
       match t2 with
       | .inl p => qR
       | .inr p => some p))))))
def yf (rc_ : Int → (List Bool) → z7 → Option (List Bool × z7)) (Row_e : List z8) (x1 : List Bool) (x2_Inputs : Int) (x2_Outputs : Int) (x2_Rows : List (List z8)) (x24 : Int) : Option (LR (List Bool × Int × Int × List (List z8) × Int) ((List Bool × z7))) :=
 bif decide (x24 < ((Row_e.length : Nat) : Int)) then (
  Option.bind (idx Row_e x24) fun Row_e_e =>
  Option.bind (rc_ Row_e_e.To x1 (z7.mk x2_Inputs x2_Outputs x2_Rows)) fun r_ =>
  some (.next (r_.1, r_.2.Inputs, r_.2.Outputs, r_.2.Rows, w64 (x24 + 1))))
 else (
  some (.done (x1, (z7.mk x2_Inputs x2_Outputs x2_Rows))))
def yU (rc_ : Int → (List Bool) → z7 → Option (List Bool × z7)) (s_ : Int) (y0 : List Bool) (y1 : z7) : Option (List Bool × z7) :=
 bif s_ == (-1) then (
  some (y0, y1))
 else (
  Option.bind (idx y0 s_) fun y_e =>
  bif y_e then (
   some (y0, y1))
  else (
   Option.bind (idx y0 s_) fun y_e1 =>
   Option.bind (idx y1.Rows s_) fun Row_e =>
   Option.bind (loop (fun s => yf rc_ Row_e s.1 s.2.1 s.2.2.1 s.2.2.2.1 s.2.2.2.2) ((y0.set s_.toNat true), y1.Inputs, y1.Outputs, y1.Rows, 0)) fun t1 =>
   some t1))
def zT (fu : Nat) : Int → (List Bool) → z7 → Option (List Bool × z7) := Nat.rec (motive := fun _ => Int → (List Bool) → z7 → Option (List Bool × z7)) (fun _ _ _ => none) (fun _ ih => yU ih) fu
def wz : Option Int :=
 some (-1)
def y7 (s_ : List Bool) (v_ : Bool) (x8 : Int) : Option (LR Int (Unit ⊕ Int)) :=
 bif decide (x8 < ((s_.length : Nat) : Int)) then (
  Option.bind (idx s_ x8) fun s__e =>
  bif v_ == s__e then (
   some (.done (.inr x8)))
  else (
   some (.next (w64 (x8 + 1)))))
 else (
  some (.done (.inl ())))
def w6 (s_ : List Bool) (v_ : Bool) : Option Int :=
 Option.bind (loop (fun s => y7 s_ v_ s) 0) fun t2 =>
 match t2 with
 | .inl p => wz
 | .inr p => some p
def yo (s_ : List Bool) (v_ : Bool) : Option Bool :=
 Option.bind (w6 s_ v_) fun r_ =>
 some (decide (r_ ≥ 0))
def wt (m_ : z7) : Option (Bool × Int) :=
 Option.bind (wD m_) fun r_ =>
 bif r_ != 0 then (
  some (false, r_))
 else (
  gd ((0 : Int) ≤ ((m_.Rows.length : Nat) : Int) ∧ (((m_.Rows.length : Nat) : Int) : Int) ≤ 4294967296) <|
  Option.bind (zT YF 0 (List.replicate ((m_.Rows.length : Nat) : Int).toNat false) m_) fun r_1 =>
  Option.bind (yo r_1.1 false) fun r_2 =>
  some (!r_2, 0))
def jd (m_ : z7) (from_ : Int) : Option (z7 × Int) :=
 some (m_, from_)
def yc {σ : Type} (x38 : Int) (seen2 : List Bool) (queue2 : List zf) : Option (LR (List Bool × List zf × Int) ((σ × List Bool × List zf))) :=
 some (.next (seen2, queue2, w64 (x38 + 1)))
def yV {σ : Type} (queue_e : zf) (yr : σ × Bool) (Row_e : List z8) (seen1 : List Bool) (queue1 : List zf) (x38 : Int) : Option (LR (List Bool × List zf × Int) ((σ × List Bool × List zf))) :=
 bif decide (x38 < ((Row_e.length : Nat) : Int)) then (
  Option.bind (idx Row_e x38) fun Row_e_e =>
  bif Row_e_e.To != (-1) then (
   Option.bind (idx seen1 Row_e_e.To) fun seen_e =>
   bif !seen_e then (
    Option.bind (idx seen1 Row_e_e.To) fun seen_e1 =>
    gd (queue1.length + ([(zf.mk Row_e_e.To queue_e.state_ x38)] : List zf).length ≤ 4294967296) <|
    yc x38 (seen1.set Row_e_e.To.toNat true) (queue1 ++ ([(zf.mk Row_e_e.To queue_e.state_ x38)] : List zf)))
   else (
    yc x38 seen1 queue1))
  else (
   yc x38 seen1 queue1))
 else (
  some (.done (yr.1, seen1, queue1)))
def xQ {σ : Type} (x0 : z7) (yy : σ → zf → Option (σ × Bool)) (sg1 : σ) (seen : List Bool) (queue : List zf) : Option (LR (σ × List Bool × List zf) σ) :=
 bif decide (((queue.length : Nat) : Int) > 0) then (
  Option.bind (idx queue 0) fun queue_e =>
  gd ((0 : Int) ≤ 1 ∧ (1 : Int) ≤ ((queue.length : Nat) : Int)) <|
  Option.bind (yy sg1 queue_e) fun yr =>
  bif !yr.2 then (
   some (.done yr.1))
  else (
   Option.bind (idx x0.Rows queue_e.state_) fun Row_e =>
   Option.bind (loop (fun s => yV queue_e yr Row_e s.1 s.2.1 s.2.2) (seen, (queue.drop (1 : Int).toNat), 0)) fun t2 =>
   some (.next t2)))
 else (
  some (.done sg1))
def vd (x0 : z7) (x1 : Int) {σ : Type} (yy : σ → zf → Option (σ × Bool)) (sg : σ) : Option σ :=
 gd ((0 : Int) ≤ ((x0.Rows.length : Nat) : Int) ∧ (((x0.Rows.length : Nat) : Int) : Int) ≤ 4294967296) <|
 Option.bind (idx (List.replicate ((x0.Rows.length : Nat) : Int).toNat false) x1) fun u_e =>
 Option.bind (loop (fun s => xQ x0 yy s.1 s.2.1 s.2.2) (sg, ((List.replicate ((x0.Rows.length : Nat) : Int).toNat false).set x1.toNat true), ([(zf.mk x1 (-1) (-1))] : List zf))) fun t1 =>
 some t1
def yj (s_ : List Int) : Option (List Int) :=
 gd (([] : List Int).length + s_.length ≤ 4294967296) <|
 some s_
def ye (s_ : List Int) : Option (List Int) :=
 gd ((0 : Int) ≤ 0 ∧ (0 : Int) ≤ ((s_.length : Nat) : Int) ∧ (((s_.length : Nat) : Int) : Int) ≤ ((s_.length : Nat) : Int) ∧ (((s_.length : Nat) : Int) : Int) ≤ ((s_.length : Nat) : Int)) <|
 some ((s_.drop 0).take (((s_.length : Nat) : Int).toNat - 0))
def jb (l_ : List (List Int)) (is : List Bool) : Option (List (List Int) × List Bool) :=
 some (l_, is)
def yW (l_1 : List (List Int)) (is1 : List Bool) (x20 : zf) : Option (LR (List (List Int) × List Bool) Empty) :=
 Option.bind (idx is1 x20.state_) fun is_e =>
 bif x20.from_ != (-1) then (
  Option.bind (idx l_1 x20.from_) fun l__e =>
  Option.bind (yj l__e) fun r_1 =>
  gd (r_1.length + ([x20.input_] : List Int).length ≤ 4294967296) <|
  Option.bind (ye (r_1 ++ ([x20.input_] : List Int))) fun r_2 =>
  Option.bind (idx l_1 x20.state_) fun l__e1 =>
  some (.next ((l_1.set x20.state_.toNat r_2), (is1.set x20.state_.toNat true))))
 else (
  some (.next (l_1, (is1.set x20.state_.toNat true))))
def kF (m_ : z7) (from_ : Int) : Option (List (List Int) × List Bool) :=
 gd ((0 : Int) ≤ ((m_.Rows.length : Nat) : Int) ∧ (((m_.Rows.length : Nat) : Int) : Int) ≤ 4294967296) <|
 gd ((0 : Int) ≤ ((m_.Rows.length : Nat) : Int) ∧ (((m_.Rows.length : Nat) : Int) : Int) ≤ 4294967296) <|
 Option.bind (jd m_ from_) fun r_ =>
 Option.bind (vd r_.1 r_.2 (yOf (fun s x => yW s.1 s.2 x)) (.next ((List.replicate ((m_.Rows.length : Nat) : Int).toNat ([] : List Int)), (List.replicate ((m_.Rows.length : Nat) : Int).toNat false)))) fun t2 =>
 match t2 with
 | .next (l_1, is1) => (
  jb l_1 is1)
 | .done z => nomatch z
def jq (m_ : z7) : Option (List (List Int) × List Bool × Int) :=
 Option.bind (wD m_) fun r_ =>
 bif r_ != 0 then (
  some (([] : List (List Int)), ([] : List Bool), r_))
 else (
  Option.bind (kF m_ 0) fun r_1 =>
  some (r_1.1, r_1.2, 0))
def jY (c_ : Int) (x1 : Int) : Option Bool :=
 bif decide (c_ < 0) then (
  some true)
 else (
  some (decide (c_ ≥ x1)))
def xU : Option Int :=
 some (-1)
def zW (s_ : List Int) (f_ : Int) (x8 : Int) : Option (LR Int (Unit ⊕ Int)) :=
 bif decide (x8 < ((s_.length : Nat) : Int)) then (
  Option.bind (idx s_ x8) fun s__e =>
  Option.bind (jY s__e f_) fun r_ =>
  bif r_ then (
   some (.done (.inr x8)))
  else (
   some (.next (w64 (x8 + 1)))))
 else (
  some (.done (.inl ())))
def xm (s_ : List Int) (f_ : Int) : Option Int :=
 Option.bind (loop (fun s => zW s_ f_ s) 0) fun t2 =>
 match t2 with
 | .inl p => xU
 | .inr p => some p
def yz (s_ : List Int) (f_ : Int) : Option Bool :=
 Option.bind (xm s_ f_) fun r_ =>
 some (decide (r_ ≥ 0))
def qE (w_ : List Int) (inputs : Int) : Option Int :=
 bif decide (inputs > 16) then (
  some 3)
 else (
  bif decide (((w_.length : Nat) : Int) > 256) then (
   some 3)
  else (
   bif decide (inputs < 1) then (
    some 1)
   else (
    Option.bind (yz w_ inputs) fun r_ =>
    bif r_ then (
     some 1)
    else (
     some 0))))
def Zz : Option Int :=
 some 0
def vt (l_ : List (List Int)) (inputs : Int) (x19 : Int) : Option (LR Int (Unit ⊕ Int)) :=
 bif decide (x19 < ((l_.length : Nat) : Int)) then (
  Option.bind (idx l_ x19) fun l__e =>
  Option.bind (qE l__e inputs) fun r_ =>
  bif r_ != 0 then (
   some (.done (.inr r_)))
  else (
   some (.next (w64 (x19 + 1)))))
 else (
  some (.done (.inl ())))
def qJ (l_ : List (List Int)) (inputs : Int) : Option Int :=
 bif decide (inputs > 16) then (
  some 3)
 else (
  bif decide (((l_.length : Nat) : Int) > 4096) then (
   some 3)
  else (
   bif decide (inputs < 1) then (
    some 1)
   else (
    Option.bind (loop (fun s => vt l_ inputs s) 0) fun t2 =>
    match t2 with
    | .inl p => Zz
    | .inr p => some p)))
def wo (s_ : List (List Int)) : Option (List (List Int)) :=
 gd (([] : List (List Int)).length + s_.length ≤ 4294967296) <|
 some s_
def qb (x_ : Int) : Option Bool :=
 some (x_ != x_)
def wS (x_ : Int) (y_ : Int) : Option Int :=
 Option.bind (qb x_) fun r_ =>
 Option.bind (qb y_) fun r_1 =>
 bif r_ then (
  bif r_1 then (
   some 0)
  else (
   some (-1)))
 else (
  bif r_1 then (
   some 1)
  else (
   bif decide (x_ < y_) then (
    some (-1))
   else (
    bif decide (x_ > y_) then (
     some 1)
    else (
     some 0))))
def yX (s1 : List Int) (s2 : List Int) : Option Int :=
 bif decide (((s1.length : Nat) : Int) < ((s2.length : Nat) : Int)) then (
  some (-1))
 else (
  some 0)
def y8 (s1 : List Int) (s2 : List Int) (x11 : Int) : Option (LR Int (Unit ⊕ Int)) :=
 bif decide (x11 < ((s1.length : Nat) : Int)) then (
  Option.bind (idx s1 x11) fun s_e =>
  bif decide (x11 ≥ ((s2.length : Nat) : Int)) then (
   some (.done (.inr 1)))
  else (
   Option.bind (idx s2 x11) fun s_e1 =>
   Option.bind (wS s_e s_e1) fun r_ =>
   bif r_ != 0 then (
    some (.done (.inr r_)))
   else (
    some (.next (w64 (x11 + 1))))))
 else (
  some (.done (.inl ())))
def yT (s1 : List Int) (s2 : List Int) : Option Int :=
 Option.bind (loop (fun s => y8 s1 s2 s) 0) fun t2 =>
 match t2 with
 | .inl p => yX s1 s2
 | .inr p => some p
def kq : Option Int :=
 some 0
def ua (vals : List Int) (x8 : Int) : Option (LR Int (Unit ⊕ Int)) :=
 bif decide (x8 < ((vals.length : Nat) : Int)) then (
  Option.bind (idx vals x8) fun val_e =>
  bif val_e != 0 then (
   some (.done (.inr val_e)))
  else (
   some (.next (w64 (x8 + 1)))))
 else (
  some (.done (.inl ())))
def Y8 (vals : List Int) : Option Int :=
 Option.bind (loop (fun s => ua vals s) 0) fun t2 =>
 match t2 with
 | .inl p => kq
 | .inr p => some p
def yq (a_ : List Int) (b_ : List Int) : Option Int :=
 Option.bind (wS ((a_.length : Nat) : Int) ((b_.length : Nat) : Int)) fun r_ =>
 Option.bind (yT a_ b_) fun r_1 =>
 Option.bind (Y8 ([r_, r_1])) fun r_2 =>
 some r_2
def vq (a_ : List Int) (b_ : List Int) : Option Bool :=
 Option.bind (yq a_ b_) fun r_ =>
 some (r_ == 0)
def xe (s_ : List (List Int)) : Option (List (List Int)) :=
 some s_
def yl (k_ : Int) : Option (LR Int (Unit ⊕ List (List Int))) :=
 some (.next (w64 (k_ + 1)))
def zP (s_1 : List (List Int)) (k_1 : Int) : Option (LR Int (Unit ⊕ List (List Int))) :=
 gd ((0 : Int) ≤ k_1 ∧ (k_1 : Int) ≤ ((s_1.length : Nat) : Int)) <|
 gd ((0 : Int) ≤ k_1 ∧ (k_1 : Int) ≤ ((s_1.length : Nat) : Int)) <|
 gd ((0 : Int) ≤ k_1 ∧ (k_1 : Int) ≤ (((s_1.take k_1.toNat ++ List.replicate (s_1.length - k_1.toNat) []).length : Nat) : Int)) <|
 some (.done (.inr ((s_1.take k_1.toNat ++ List.replicate (s_1.length - k_1.toNat) []).take k_1.toNat)))
def zO (k2 : Int) (s_3 : List (List Int)) (k_3 : Int) : Option (LR (List (List Int) × Int × Int) ((List (List Int) × Int))) :=
 some (.next (s_3, k_3, w64 (k2 + 1)))
def zN (k_ : Int) (s_2 : List (List Int)) (k_2 : Int) (k2 : Int) : Option (LR (List (List Int) × Int × Int) ((List (List Int) × Int))) :=
 bif decide (k2 < ((s_2.length - k_.toNat : Nat) : Int)) then (
  gd ((0 : Int) ≤ k_ ∧ (0 : Int) ≤ k2) <|
  Option.bind (idx s_2 (k_ + k2)) fun s__e2 =>
  gd ((0 : Int) ≤ k_ ∧ (0 : Int) ≤ w64 (k2 - 1)) <|
  Option.bind (idx s_2 (k_ + (w64 (k2 - 1)))) fun s__e3 =>
  Option.bind (vq s__e2 s__e3) fun r_1 =>
  bif !r_1 then (
   gd ((0 : Int) ≤ k_ ∧ (0 : Int) ≤ k2) <|
   Option.bind (idx s_2 (k_ + k2)) fun s__e4 =>
   Option.bind (idx s_2 k_2) fun s__e5 =>
   zO k2 (s_2.set k_2.toNat s__e4) (w64 (k_2 + 1)))
  else (
   zO k2 s_2 k_2))
 else (
  some (.done (s_2, k_2)))
def zZ (s_ : List (List Int)) (k_ : Int) : Option (LR Int (Unit ⊕ List (List Int))) :=
 bif decide (k_ < ((s_.length : Nat) : Int)) then (
  Option.bind (idx s_ k_) fun s__e =>
  Option.bind (idx s_ (w64 (k_ - 1))) fun s__e1 =>
  Option.bind (vq s__e s__e1) fun r_ =>
  bif r_ then (
   gd ((0 : Int) ≤ k_ ∧ (k_ : Int) ≤ ((s_.length : Nat) : Int)) <|
   Option.bind (loop (fun s => zN k_ s.1 s.2.1 s.2.2) (s_, k_, 1)) fun t5 =>
   zP t5.1 t5.2)
  else (
   yl k_))
 else (
  some (.done (.inl ())))
def yd (s_ : List (List Int)) (eq : Unit) : Option (List (List Int)) :=
 bif decide (((s_.length : Nat) : Int) < 2) then (
  some s_)
 else (
  Option.bind (loop (fun s => zZ s_ s) 1) fun t2 =>
  match t2 with
  | .inl p => xe s_
  | .inr p => some p)
def yC (s_ : List (List Int)) : Option (List (List Int)) :=
 some s_
def Zy (n_ : Int) : Option Int :=
 some n_
def vp (l_ : List (List Int)) (n_1 : Int) (x7 : Int) : Option (LR (Int × Int) Int) :=
 bif decide (x7 < ((l_.length : Nat) : Int)) then (
  Option.bind (idx l_ x7) fun l__e =>
  some (.next (w64 (n_1 + ((l__e.length : Nat) : Int)), w64 (x7 + 1))))
 else (
  some (.done n_1))
def qI (l_ : List (List Int)) : Option Int :=
 Option.bind (loop (fun s => vp l_ s.1 s.2) (0, 0)) fun t2 =>
 Zy t2
def uM (out : List (List Int × Bool)) : Option (List (List Int) × Int) :=
 gd (∀ q ∈ out, q.2 = true) <|
 some ((out.map (·.1)), 0)
def x3 (r_2 : List (List Int)) (out2 : List (List Int × Bool)) (x24 : Int) : Option (LR ((List (List Int × Bool)) × Int) ((List (List Int × Bool)))) :=
 bif decide (x24 < ((r_2.length - (0 : Int).toNat : Nat) : Int)) then (
  gd ((0 : Int) ≤ 0 ∧ (0 : Int) ≤ x24) <|
  Option.bind (idx out2 (0 + x24)) fun out_e =>
  Option.bind (yj out_e.1) fun r_4 =>
  Option.bind (ye r_4) fun r_5 =>
  Option.bind (idx out2 x24) fun out_e1 =>
  some (.next ((out2.set x24.toNat (r_5, true)), w64 (x24 + 1))))
 else (
  some (.done out2))
def yI (l_ : List (List Int)) : Option (List (List Int) × Int) :=
 Option.bind (wo l_) fun r_ =>
 Option.bind (z4K (fun x y => yq x y) r_) fun sorted =>
 Option.bind (yd sorted ()) fun r_1 =>
 Option.bind (yC r_1) fun r_2 =>
 bif decide (((r_2.length : Nat) : Int) > 4096) then (
  some (([] : List (List Int)), 3))
 else (
  Option.bind (qI r_2) fun r_3 =>
  bif decide (r_3 > 65536) then (
   some (([] : List (List Int)), 3))
  else (
   Option.bind (loop (fun s => x3 r_2 s.1 s.2) ((r_2.map fun q => (q, false)), 0)) fun t2 =>
   uM t2))
def XG (l_ : List (List Int)) (inputs : Int) : Option (List (List Int) × Int) :=
 Option.bind (qJ l_ inputs) fun r_ =>
 bif r_ != 0 then (
  some (([] : List (List Int)), r_))
 else (
  Option.bind (yI l_) fun r_1 =>
  some (r_1.1, r_1.2))
def v8 (m_ : z7) : Option (List (List Int) × Int) :=
 Option.bind (wt m_) fun r_ =>
 bif r_.2 != 0 then (
  some (([] : List (List Int)), r_.2))
 else (
  bif !r_.1 then (
   some (([] : List (List Int)), 11))
  else (
   Option.bind (jq m_) fun r_1 =>
   bif r_1.2.2 != 0 then (
    some (([] : List (List Int)), r_1.2.2))
   else (
    Option.bind (XG r_1.1 m_.Inputs) fun r_2 =>
    some (r_2.1, r_2.2))))
def Zr (k_ : Int) (out1 : List (List Int)) (level1 : List (List Int)) (n_1 : Int) (x45 : Int) (x46 : Bool) (x58 : Bool) : Option (LR (List (List Int) × List (List Int) × Int × Int) ((List (List Int) × Int))) :=
 some (.next (out1, level1, n_1, w64 (k_ + 1)))
def Zq (k_ : Int) (out2 : List (List Int)) (n_2 : Int) (x581 : Bool) (next : List (List Int)) : Option (LR (List (List Int) × List (List Int) × Int × Int) ((List (List Int) × Int))) :=
 Zr k_ out2 next n_2 n_2 (decide (n_2 > 65536)) x581
def Zp (x69 : Int) (next2 : List (List Int)) : Option (LR (List (List Int) × Int) (List (List Int))) :=
 some (.next (next2, w64 (x69 + 1)))
def wk (inputs : Int) (level_e : List Int) (next3 : List (List Int)) (x74 : Int) : Option (LR (List (List Int) × Int) (List (List Int))) :=
 bif decide (x74 < inputs) then (
  Option.bind (ye level_e) fun r_1 =>
  gd (r_1.length + ([x74] : List Int).length ≤ 4294967296) <|
  gd (next3.length + ([(r_1 ++ ([x74] : List Int))] : List (List Int)).length ≤ 4294967296) <|
  some (.next ((next3 ++ ([(r_1 ++ ([x74] : List Int))] : List (List Int))), w64 (x74 + 1))))
 else (
  some (.done next3))
def wl (inputs : Int) (level : List (List Int)) (next1 : List (List Int)) (x69 : Int) : Option (LR (List (List Int) × Int) (List (List Int))) :=
 bif decide (x69 < ((level.length : Nat) : Int)) then (
  Option.bind (idx level x69) fun level_e =>
  Option.bind (loop (fun s => wk inputs level_e s.1 s.2) (next1, 0)) fun t8 =>
  Zp x69 t8)
 else (
  some (.done next1))
def uB (inputs : Int) (to : Int) (level : List (List Int)) (k_ : Int) (out2 : List (List Int)) (n_2 : Int) (x581 : Bool) : Option (LR (List (List Int) × List (List Int) × Int × Int) ((List (List Int) × Int))) :=
 bif k_ == to then (
  Option.bind (yI out2) fun r_ =>
  some (.done (r_.1, r_.2)))
 else (
  Option.bind (loop (fun s => wl inputs level s.1 s.2) (([] : List (List Int)), 0)) fun t6 =>
  Zq k_ out2 n_2 x581 t6)
def uC (inputs : Int) (to : Int) (level : List (List Int)) (k_ : Int) (out2 : List (List Int)) (n_2 : Int) : Option (LR (List (List Int) × List (List Int) × Int × Int) ((List (List Int) × Int))) :=
 bif decide (((out2.length : Nat) : Int) > 4096) then (
  some (.done (([] : List (List Int)), 3)))
 else (
  bif decide (n_2 > 65536) then (
   some (.done (([] : List (List Int)), 3)))
  else (
   bif decide (k_ < to) then (
    bif decide ((w64 (((level.length : Nat) : Int) * inputs)) > 4096) then (
     some (.done (([] : List (List Int)), 3)))
    else (
     uB inputs to level k_ out2 n_2 (decide ((w64 (((level.length : Nat) : Int) * inputs)) > 4096))))
   else (
    uB inputs to level k_ out2 n_2 false)))
def wW (inputs : Int) (from_ : Int) (to : Int) (out : List (List Int)) (level : List (List Int)) (n_ : Int) (k_ : Int) : Option (LR (List (List Int) × List (List Int) × Int × Int) ((List (List Int) × Int))) :=
 bif decide (k_ ≥ from_) then (
  gd (out.length + level.length ≤ 4294967296) <|
  uC inputs to level k_ (out ++ level) (w64 (n_ + (w64 (k_ * ((level.length : Nat) : Int))))))
 else (
  uC inputs to level k_ out n_)
def Y0 (inputs : Int) (from_ : Int) (to : Int) : Option (List (List Int) × Int) :=
 bif decide (inputs > 16) then (
  some (([] : List (List Int)), 3))
 else (
  bif decide (inputs < 1) then (
   some (([] : List (List Int)), 1))
  else (
   bif decide (to < 0) then (
    some (([] : List (List Int)), 1))
   else (
    bif decide (to > 256) then (
     some (([] : List (List Int)), 3))
    else (
     Option.bind (loop (fun s => wW inputs from_ to s.1 s.2.1 s.2.2.1 s.2.2.2) (([] : List (List Int)), ([[]] : List (List Int)), 0, 0)) fun t1 =>
     some t1))))
def Y1 (inputs : Int) (k_ : Int) : Option (List (List Int) × Int) :=
 Option.bind (Y0 inputs 0 k_) fun r_ =>
 some (r_.1, r_.2)
def je : Option Bool :=
 some true
def vu (l_ : List (List Int)) (i_ : Int) : Option (LR Int (Unit ⊕ Bool)) :=
 bif decide (i_ < ((l_.length : Nat) : Int)) then (
  Option.bind (idx l_ (w64 (i_ - 1))) fun l__e =>
  Option.bind (idx l_ i_) fun l__e1 =>
  Option.bind (yq l__e l__e1) fun r_ =>
  bif decide (r_ ≥ 0) then (
   some (.done (.inr false)))
  else (
   some (.next (w64 (i_ + 1)))))
 else (
  some (.done (.inl ())))
def kH (l_ : List (List Int)) : Option Bool :=
 Option.bind (loop (fun s => vu l_ s) 1) fun t2 =>
 match t2 with
 | .inl p => je
 | .inr p => some p
def qK (l_ : List (List Int)) (inputs : Int) : Option Int :=
 Option.bind (qJ l_ inputs) fun r_ =>
 bif r_ != 0 then (
  some r_)
 else (
  Option.bind (kH l_) fun r_1 =>
  bif !r_1 then (
   some 1)
  else (
   Option.bind (qI l_) fun r_2 =>
   bif decide (r_2 > 65536) then (
    some 3)
   else (
    some 0)))
def ka : Option Int :=
 some 0
def vZ (inputs : Int) (l_ : List (List (List Int))) (x10 : Int) : Option (LR Int (Unit ⊕ Int)) :=
 bif decide (x10 < ((l_.length : Nat) : Int)) then (
  Option.bind (idx l_ x10) fun l__e =>
  Option.bind (qK l__e inputs) fun r_ =>
  bif r_ != 0 then (
   some (.done (.inr r_)))
  else (
   some (.next (w64 (x10 + 1)))))
 else (
  some (.done (.inl ())))
def ZZ (inputs : Int) (l_ : List (List (List Int))) : Option Int :=
 Option.bind (loop (fun s => vZ inputs l_ s) 0) fun t2 =>
 match t2 with
 | .inl p => ka
 | .inr p => some p
def Xk (b_ : List Int) : Option (List UInt8) :=
 some (u8s b_)
def wV (w_ : List Int) (b_1 : List Int) (x11 : Int) : Option (LR (List Int × Int) (List Int)) :=
 bif decide (x11 < ((w_.length : Nat) : Int)) then (
  Option.bind (idx w_ x11) fun w__e =>
  Option.bind (idx b_1 x11) fun b__e =>
  some (.next ((b_1.set x11.toNat (IntKind.u8.wrap (w__e))), w64 (x11 + 1))))
 else (
  some (.done b_1))
def Xl (w_ : List Int) : Option (List UInt8) :=
 gd ((0 : Int) ≤ ((w_.length : Nat) : Int) ∧ (((w_.length : Nat) : Int) : Int) ≤ 4294967296) <|
 Option.bind (loop (fun s => wV w_ s.1 s.2) ((List.replicate ((w_.length : Nat) : Int).toNat (0 : Int)), 0)) fun t2 =>
 Xk t2
def vO (out : List (List Int)) : Option (List (List Int) × Int) :=
 Option.bind (yI out) fun r_1 =>
 some (r_1.1, r_1.2)
def vN (x29 : Int) (seen1 : List ((List UInt8) × Bool)) (n_1 : Int) (out2 : List (List Int)) : Option (LR ((List ((List UInt8) × Bool)) × Int × List (List Int) × Int) (List (List Int) ⊕ (List (List Int) × Int))) :=
 some (.next (seen1, n_1, out2, w64 (x29 + 1)))
def wL (x35 : Int) (seen3 : List ((List UInt8) × Bool)) (n_3 : Int) (out4 : List (List Int)) : Option (LR ((List ((List UInt8) × Bool)) × Int × List (List Int) × Int) (((List ((List UInt8) × Bool)) × Int × List (List Int)) ⊕ (List (List Int) × Int))) :=
 bif decide (((out4.length : Nat) : Int) > 4096) then (
  some (.done (.inr (([] : List (List Int)), 3))))
 else (
  bif decide (n_3 > 65536) then (
   some (.done (.inr (([] : List (List Int)), 3))))
  else (
   some (.next (seen3, n_3, out4, w64 (x35 + 1)))))
def wK (b_ : List (List Int)) (a__e : List Int) (seen2 : List ((List UInt8) × Bool)) (n_2 : Int) (out3 : List (List Int)) (x35 : Int) : Option (LR ((List ((List UInt8) × Bool)) × Int × List (List Int) × Int) (((List ((List UInt8) × Bool)) × Int × List (List Int)) ⊕ (List (List Int) × Int))) :=
 bif decide (x35 < ((b_.length : Nat) : Int)) then (
  Option.bind (idx b_ x35) fun b__e =>
  Option.bind (ye a__e) fun r_2 =>
  gd (r_2.length + b__e.length ≤ 4294967296) <|
  bif decide ((((r_2 ++ b__e).length : Nat) : Int) > 256) then (
   some (.done (.inr (([] : List (List Int)), 3))))
  else (
   Option.bind (Xl (r_2 ++ b__e)) fun r_3 =>
   Option.bind (some ((Kv seen2 r_3).getD false)) fun val =>
   bif !val then (
    gd (out3.length + ([(r_2 ++ b__e)] : List (List Int)).length ≤ 4294967296) <|
    wL x35 (z3s seen2 r_3 true) (w64 (n_2 + (((r_2 ++ b__e).length : Nat) : Int))) (out3 ++ ([(r_2 ++ b__e)] : List (List Int))))
   else (
    wL x35 seen2 n_2 out3)))
 else (
  some (.done (.inl (seen2, n_2, out3))))
def vM (a_ : List (List Int)) (b_ : List (List Int)) (seen : List ((List UInt8) × Bool)) (n_ : Int) (out1 : List (List Int)) (x29 : Int) : Option (LR ((List ((List UInt8) × Bool)) × Int × List (List Int) × Int) (List (List Int) ⊕ (List (List Int) × Int))) :=
 bif decide (x29 < ((a_.length : Nat) : Int)) then (
  Option.bind (idx a_ x29) fun a__e =>
  Option.bind (loop (fun s => wK b_ a__e s.1 s.2.1 s.2.2.1 s.2.2.2) (seen, n_, out1, 0)) fun t4 =>
  match t4 with
  | .inl p => vN x29 p.1 p.2.1 p.2.2
  | .inr p => some (.done (.inr p)))
 else (
  some (.done (.inl out1)))
def uD (a_ : List (List Int)) (b_ : List (List Int)) (inputs : Int) : Option (List (List Int) × Int) :=
 Option.bind (ZZ inputs ([a_, b_])) fun r_ =>
 bif r_ != 0 then (
  some (([] : List (List Int)), r_))
 else (
  Option.bind (loop (fun s => vM a_ b_ s.1 s.2.1 s.2.2.1 s.2.2.2) (([] : List ((List UInt8) × Bool)), 0, ([] : List (List Int)), 0)) fun t2 =>
  match t2 with
  | .inl p => vO p
  | .inr p => some p)
def xi (m_ : z7) (k_ : Int) : Option (List (List Int) × Int) :=
 Option.bind (v8 m_) fun r_ =>
 bif r_.2 != 0 then (
  some (([] : List (List Int)), r_.2))
 else (
  bif decide (k_ < 0) then (
   some (([] : List (List Int)), 1))
  else (
   Option.bind (Y1 m_.Inputs k_) fun r_1 =>
   bif r_1.2 != 0 then (
    some (([] : List (List Int)), r_1.2))
   else (
    Option.bind (uD r_.1 r_1.1 m_.Inputs) fun r_2 =>
    some (r_2.1, r_2.2))))
def xp (m_ : z7) : Option (List (List Int) × Int) :=
 Option.bind (xi m_ 1) fun r_ =>
 some (r_.1, r_.2)
def Y5 (m_ : z7) (s_ : Int) (i_ : Int) : Option z8 :=
 bif decide (s_ < 0) then (
  some (z8.mk (-1) (-1)))
 else (
  Option.bind (idx m_.Rows s_) fun Row_e =>
  Option.bind (idx Row_e i_) fun Row_e_e =>
  some Row_e_e)
def u7 (rc_ : z7 → Int → (List Int) → Option Int) (m_ : z7) (s_ : Int) (w_ : List Int) : Option Int :=
 bif ((w_.length : Nat) : Int) == 0 then (
  some s_)
 else (
  Option.bind (idx w_ 0) fun w__e =>
  Option.bind (Y5 m_ s_ w__e) fun r_ =>
  gd ((0 : Int) ≤ 1 ∧ (1 : Int) ≤ ((w_.length : Nat) : Int) ∧ (((w_.length : Nat) : Int) : Int) ≤ ((w_.length : Nat) : Int)) <|
  Option.bind (rc_ m_ r_.To (w_.drop (1 : Int).toNat)) fun r_1 =>
  some r_1)
def uU (fu : Nat) : z7 → Int → (List Int) → Option Int := Nat.rec (motive := fun _ => z7 → Int → (List Int) → Option Int) (fun _ _ _ => none) (fun _ ih => u7 ih) fu
def YB (m_ : z7) (s_ : Int) (w_ : List Int) : Option Int := uU (w_.length + 1) m_ s_ w_
def uT (out : List Int) : Option (List Int) :=
 gd (out.length + ([0] : List Int).length ≤ 4294967296) <|
 some (out ++ ([0] : List Int))
def uS (inputs : Int) (out1 : List Int) (k_ : Int) : Option (LR (List Int × Int) (List Int ⊕ List Int)) :=
 bif decide (k_ ≥ 0) then (
  Option.bind (idx out1 k_) fun out_e =>
  bif decide ((w64 (out_e + 1)) < inputs) then (
   Option.bind (idx out1 k_) fun out_e1 =>
   Option.bind (idx out1 k_) fun out_e2 =>
   some (.done (.inr (out1.set k_.toNat (w64 (out_e1 + 1))))))
  else (
   Option.bind (idx out1 k_) fun out_e3 =>
   some (.next ((out1.set k_.toNat 0), w64 (k_ - 1)))))
 else (
  some (.done (.inl out1)))
def kB (w_ : List Int) (inputs : Int) : Option (List Int) :=
 gd (([] : List Int).length + w_.length ≤ 4294967296) <|
 Option.bind (loop (fun s => uS inputs s.1 s.2) (w_, w64 (((w_.length : Nat) : Int) - 1))) fun t2 =>
 match t2 with
 | .inl p => uT p
 | .inr p => some p
def jn (l_ : List (List Int)) (is : List Bool) : Option (List (List Int) × List Bool) :=
 some (l_, is)
def wC (m_ : z7) (w_ : List Int) (l_2 : List (List Int)) (is2 : List Bool) : Option (LR (List (List Int) × List Bool × List Int) ((List (List Int) × List Bool))) :=
 Option.bind (kB w_ m_.Inputs) fun r_ =>
 some (.next (l_2, is2, r_))
def jm (m_ : z7) (from_ : Int) (l_1 : List (List Int)) (is1 : List Bool) (w_ : List Int) : Option (LR (List (List Int) × List Bool × List Int) ((List (List Int) × List Bool))) :=
 bif decide (((w_.length : Nat) : Int) < ((m_.Rows.length : Nat) : Int)) then (
  Option.bind (YB m_ from_ w_) fun r_1 =>
  bif decide (r_1 ≥ 0) then (
   Option.bind (idx is1 r_1) fun is_e =>
   bif !is_e then (
    Option.bind (idx is1 r_1) fun is_e1 =>
    Option.bind (idx l_1 r_1) fun l__e =>
    wC m_ w_ (l_1.set r_1.toNat w_) (is1.set r_1.toNat true))
   else (
    wC m_ w_ l_1 is1))
  else (
   wC m_ w_ l_1 is1))
 else (
  some (.done (l_1, is1)))
def kP (m_ : z7) (from_ : Int) : Option (List (List Int) × List Bool) :=
 gd ((0 : Int) ≤ ((m_.Rows.length : Nat) : Int) ∧ (((m_.Rows.length : Nat) : Int) : Int) ≤ 4294967296) <|
 gd ((0 : Int) ≤ ((m_.Rows.length : Nat) : Int) ∧ (((m_.Rows.length : Nat) : Int) : Int) ≤ 4294967296) <|
 Option.bind (loop (fun s => jm m_ from_ s.1 s.2.1 s.2.2) ((List.replicate ((m_.Rows.length : Nat) : Int).toNat ([] : List Int)), (List.replicate ((m_.Rows.length : Nat) : Int).toNat false), ([] : List Int))) fun t2 =>
 jn t2.1 t2.2
def vV (m_ : z7) : Option (List (List Int) × List Bool) :=
 Option.bind (kP m_ 0) fun r_ =>
 some (r_.1, r_.2)
def jQ (n_ : Int) : Option Int :=
 some n_
def vn (s_ : Int) (n_2 : Int) : Option (LR (Int × Int) Int) :=
 some (.next (n_2, w64 (s_ + 1)))
def wg (r_ : List (List Int) × List Bool) (n_1 : Int) (s_ : Int) : Option (LR (Int × Int) Int) :=
 bif decide (s_ < ((r_.2.length : Nat) : Int)) then (
  Option.bind (idx r_.2 s_) fun u_ =>
  bif u_ then (
   vn s_ (w64 (n_1 + 1)))
  else (
   vn s_ n_1))
 else (
  some (.done n_1))
def uY (m_ : z7) : Option Int :=
 Option.bind (vV m_) fun r_ =>
 Option.bind (loop (fun s => wg r_ s.1 s.2) (0, 0)) fun t2 =>
 jQ t2
def YE : Option z7 :=
 some (z7.mk 2 2 ([[(z8.mk 1 0), (z8.mk 0 0)], [(z8.mk 2 1), (z8.mk (-1) (-1))], [(z8.mk 0 0), (z8.mk 2 1)]]))
def qU (l_ : List (List Int)) : Option (List (List Int)) :=
 some l_
def jx (m_ : z7) (l_ : List (List Int)) : Option Int :=
 Option.bind (wD m_) fun r_ =>
 bif r_ != 0 then (
  some r_)
 else (
  Option.bind (qK l_ m_.Inputs) fun r_1 =>
  some r_1)
def kX (m_ : z7) (c_Edges : List (List Bool)) : Option zc :=
 some (zc.mk (List.replicate ((m_.Rows.length : Nat) : Int).toNat false) c_Edges)
def kW (m_ : z7) (c_Edges1 : List (List Bool)) (x17 : Int) : Option (LR (List (List Bool) × Int) (List (List Bool))) :=
 bif decide (x17 < ((m_.Rows.length : Nat) : Int)) then (
  gd ((0 : Int) ≤ m_.Inputs ∧ (m_.Inputs : Int) ≤ 4294967296) <|
  Option.bind (idx c_Edges1 x17) fun c_Edge_e =>
  some (.next ((c_Edges1.set x17.toNat (List.replicate m_.Inputs.toNat false)), w64 (x17 + 1))))
 else (
  some (.done c_Edges1))
def Zw (m_ : z7) : Option zc :=
 gd ((0 : Int) ≤ ((m_.Rows.length : Nat) : Int) ∧ (((m_.Rows.length : Nat) : Int) : Int) ≤ 4294967296) <|
 gd ((0 : Int) ≤ ((m_.Rows.length : Nat) : Int) ∧ (((m_.Rows.length : Nat) : Int) : Int) ≤ 4294967296) <|
 Option.bind (loop (fun s => kW m_ s.1 s.2) ((List.replicate ((m_.Rows.length : Nat) : Int).toNat ([] : List Bool)), 0)) fun t2 =>
 kX m_ t2
def ZN {σ : Type} (yy : σ → (Int × Int) → Option σ) (m_ : z7) (w_ : List Int) (sg2 : σ) (s_ : Int) (x14 : Int) : Option (LR (σ × Int × Int) σ) :=
 bif decide (x14 < ((w_.length : Nat) : Int)) then (
  Option.bind (idx w_ x14) fun w__e =>
  Option.bind (idx m_.Rows s_) fun Row_e =>
  Option.bind (idx Row_e w__e) fun Row_e_e =>
  bif Row_e_e.To == (-1) then (
   some (.done sg2))
  else (
   Option.bind (yy sg2 (Row_e_e.To, w64 (x14 + 1))) fun sg3 =>
   some (.next (sg3, Row_e_e.To, w64 (x14 + 1)))))
 else (
  some (.done sg2))
def qZ (m_ : z7) (w_ : List Int) {σ : Type} (yy : σ → (Int × Int) → Option σ) (sg : σ) : Option σ :=
 Option.bind (yy sg (0, 0)) fun sg1 =>
 Option.bind (loop (fun s => ZN yy m_ w_ s.1 s.2.1 s.2.2) (sg1, 0, 0)) fun t1 =>
 some t1
def jR (x1 : List Int) (x2 : z7) (s_ : Int) (k_ : Int) (y0 : zc) : Option zc :=
 Option.bind (idx y0.States s_) fun State_e =>
 bif decide (k_ < ((x1.length : Nat) : Int)) then (
  Option.bind (idx x2.Rows s_) fun Row_e =>
  Option.bind (idx x1 k_) fun x_e =>
  Option.bind (idx Row_e x_e) fun Row_e_e =>
  bif Row_e_e.To != (-1) then (
   Option.bind (idx y0.Edges s_) fun Edge_e =>
   Option.bind (idx x1 k_) fun x_e1 =>
   Option.bind (idx Edge_e x_e1) fun Edge_e_e =>
   some (zc.mk (y0.States.set s_.toNat true) (y0.Edges.set s_.toNat (Edge_e.set x_e1.toNat true))))
  else (
   some (zc.mk (y0.States.set s_.toNat true) y0.Edges)))
 else (
  some (zc.mk (y0.States.set s_.toNat true) y0.Edges))
def j6 (c_States : List Bool) (c_Edges : List (List Bool)) : Option (zc × Int) :=
 some ((zc.mk c_States c_Edges), 0)
def j5 (m_ : z7) (l_ : List (List Int)) (c_States1 : List Bool) (c_Edges1 : List (List Bool)) (x21 : Int) : Option (LR (List Bool × List (List Bool) × Int) ((List Bool × List (List Bool)))) :=
 bif decide (x21 < ((l_.length : Nat) : Int)) then (
  Option.bind (idx l_ x21) fun l__e =>
  Option.bind (qZ m_ l__e (fun s x => jR l__e m_ x.1 x.2 s) (zc.mk c_States1 c_Edges1)) fun r_2 =>
  some (.next (r_2.States, r_2.Edges, w64 (x21 + 1))))
 else (
  some (.done (c_States1, c_Edges1)))
def ZQ (m_ : z7) (l_ : List (List Int)) : Option (zc × Int) :=
 Option.bind (jx m_ l_) fun r_ =>
 bif r_ != 0 then (
  some ((zc.mk [] []), r_))
 else (
  Option.bind (Zw m_) fun r_1 =>
  Option.bind (loop (fun s => j5 m_ l_ s.1 s.2.1 s.2.2) (r_1.States, r_1.Edges, 0)) fun t2 =>
  j6 t2.1 t2.2)
def jO : Option Int :=
 some 0
def vm (a_ : List Int) (b_ : List Int) (i_ : Int) : Option (LR Int (Unit ⊕ Int)) :=
 bif decide (i_ < ((a_.length : Nat) : Int)) then (
  Option.bind (idx a_ i_) fun a__e =>
  Option.bind (idx b_ i_) fun b__e =>
  bif decide (a__e < b__e) then (
   some (.done (.inr (-1))))
  else (
   Option.bind (idx a_ i_) fun a__e1 =>
   Option.bind (idx b_ i_) fun b__e1 =>
   bif decide (a__e1 > b__e1) then (
    some (.done (.inr 1)))
   else (
    some (.next (w64 (i_ + 1))))))
 else (
  some (.done (.inl ())))
def wZ (a_ : List Int) (b_ : List Int) : Option Int :=
 bif ((a_.length : Nat) : Int) != ((b_.length : Nat) : Int) then (
  bif decide (((a_.length : Nat) : Int) < ((b_.length : Nat) : Int)) then (
   some (-1))
  else (
   some 1))
 else (
  Option.bind (loop (fun s => vm a_ b_ s) 0) fun t2 =>
  match t2 with
  | .inl p => jO
  | .inr p => some p)
def ke : Option Bool :=
 some true
def u6 (a_ : List (List Int)) (b_ : List (List Int)) (i_ : Int) : Option (LR Int (Unit ⊕ Bool)) :=
 bif decide (i_ < ((a_.length : Nat) : Int)) then (
  Option.bind (idx a_ i_) fun a__e =>
  Option.bind (idx b_ i_) fun b__e =>
  Option.bind (wZ a__e b__e) fun r_ =>
  bif r_ != 0 then (
   some (.done (.inr false)))
  else (
   some (.next (w64 (i_ + 1)))))
 else (
  some (.done (.inl ())))
def Y4 (a_ : List (List Int)) (b_ : List (List Int)) : Option Bool :=
 bif ((a_.length : Nat) : Int) != ((b_.length : Nat) : Int) then (
  some false)
 else (
  Option.bind (loop (fun s => u6 a_ b_ s) 0) fun t2 =>
  match t2 with
  | .inl p => ke
  | .inr p => some p)
def wQ (a_ : List (List Int)) (b_ : List (List Int)) : Option Bool :=
 Option.bind (Y4 a_ b_) fun r_ =>
 bif r_ then (
  some (((a_.length : Nat) : Int) == ((a_.length : Nat) : Int)))
 else (
  some false)
def Yx : Option Bool :=
 some true
def Yw (s_ : Int) : Option (LR Int (Unit ⊕ Bool)) :=
 some (.next (w64 (s_ + 1)))
def Yu (a_ : zc) (b_ : zc) (s_ : Int) (i_ : Int) : Option (LR Int (Unit ⊕ Bool)) :=
 Option.bind (idx a_.Edges s_) fun Edge_e2 =>
 bif decide (i_ < ((Edge_e2.length : Nat) : Int)) then (
  Option.bind (idx a_.Edges s_) fun Edge_e3 =>
  Option.bind (idx Edge_e3 i_) fun Edge_e_e =>
  Option.bind (idx b_.Edges s_) fun Edge_e4 =>
  Option.bind (idx Edge_e4 i_) fun Edge_e_e1 =>
  bif !(Edge_e_e == Edge_e_e1) then (
   some (.done (.inr false)))
  else (
   some (.next (w64 (i_ + 1)))))
 else (
  some (.done (.inl ())))
def Yv (a_ : zc) (b_ : zc) (s_ : Int) : Option (LR Int (Unit ⊕ Bool)) :=
 bif decide (s_ < ((a_.Edges.length : Nat) : Int)) then (
  Option.bind (idx a_.Edges s_) fun Edge_e =>
  Option.bind (idx b_.Edges s_) fun Edge_e1 =>
  bif ((Edge_e.length : Nat) : Int) != ((Edge_e1.length : Nat) : Int) then (
   some (.done (.inr false)))
  else (
   Option.bind (loop (fun s => Yu a_ b_ s_ s) 0) fun t5 =>
   match t5 with
   | .inl p => Yw s_
   | .inr p => some (.done (.inr p))))
 else (
  some (.done (.inl ())))
def Yy (a_ : zc) (b_ : zc) : Option Bool :=
 Option.bind (loop (fun s => Yv a_ b_ s) 0) fun t3 =>
 match t3 with
 | .inl p => Yx
 | .inr p => some p
def Yt (a_ : zc) (b_ : zc) (s_1 : Int) : Option (LR Int (Unit ⊕ Bool)) :=
 bif decide (s_1 < ((a_.States.length : Nat) : Int)) then (
  Option.bind (idx a_.States s_1) fun State_e =>
  Option.bind (idx b_.States s_1) fun State_e1 =>
  bif !(State_e == State_e1) then (
   some (.done (.inr false)))
  else (
   some (.next (w64 (s_1 + 1)))))
 else (
  some (.done (.inl ())))
def Vs (a_ : zc) (b_ : zc) : Option Bool :=
 bif ((a_.States.length : Nat) : Int) != ((b_.States.length : Nat) : Int) then (
  some false)
 else (
  bif ((a_.Edges.length : Nat) : Int) != ((b_.Edges.length : Nat) : Int) then (
   some false)
  else (
   Option.bind (loop (fun s => Yt a_ b_ s) 0) fun t6 =>
   match t6 with
   | .inl p => Yy a_ b_
   | .inr p => some p))
def YJ (x0 : List Int) (s_ : Int) (k_ : Int) (y1 : zc) : Option zc :=
 bif k_ == ((x0.length : Nat) : Int) then (
  Option.bind (idx y1.States s_) fun State_e =>
  some (zc.mk (y1.States.set s_.toNat true) y1.Edges))
 else (
  bif k_ == (w64 (((x0.length : Nat) : Int) - 1)) then (
   Option.bind (idx y1.Edges s_) fun Edge_e =>
   Option.bind (idx x0 k_) fun x_e =>
   Option.bind (idx Edge_e x_e) fun Edge_e_e =>
   some (zc.mk y1.States (y1.Edges.set s_.toNat (Edge_e.set x_e.toNat true))))
  else (
   some y1))
def ZP (c_States : List Bool) (c_Edges : List (List Bool)) : Option zc :=
 some (zc.mk c_States c_Edges)
def ZO (m_ : z7) (l_ : List (List Int)) (c_States1 : List Bool) (c_Edges1 : List (List Bool)) (x12 : Int) : Option (LR (List Bool × List (List Bool) × Int) ((List Bool × List (List Bool)))) :=
 bif decide (x12 < ((l_.length : Nat) : Int)) then (
  Option.bind (idx l_ x12) fun l__e =>
  Option.bind (qZ m_ l__e (fun s x => YJ l__e x.1 x.2 s) (zc.mk c_States1 c_Edges1)) fun r_1 =>
  some (.next (r_1.States, r_1.Edges, w64 (x12 + 1))))
 else (
  some (.done (c_States1, c_Edges1)))
def YK (m_ : z7) (l_ : List (List Int)) : Option zc :=
 Option.bind (Zw m_) fun r_ =>
 Option.bind (loop (fun s => ZO m_ l_ s.1 s.2.1 s.2.2) (r_.States, r_.Edges, 0)) fun t2 =>
 ZP t2.1 t2.2
def vW (is : Bool) : Option Bool :=
 some is
def uu (x_ : Bool) (x1 : Unit) : Option Bool :=
 Option.bind (vW x_) fun r_ =>
 some (!r_)
def xx : Option Int :=
 some (-1)
def xw (s_ : List Bool) (x8 : Int) : Option (LR Int (Unit ⊕ Int)) :=
 bif decide (x8 < ((s_.length : Nat) : Int)) then (
  Option.bind (idx s_ x8) fun s__e =>
  Option.bind (uu s__e ()) fun r_ =>
  bif r_ then (
   some (.done (.inr x8)))
  else (
   some (.next (w64 (x8 + 1)))))
 else (
  some (.done (.inl ())))
def w8 (s_ : List Bool) (f_ : Unit) : Option Int :=
 Option.bind (loop (fun s => xw s_ s) 0) fun t2 =>
 match t2 with
 | .inl p => xx
 | .inr p => some p
def xy (s_ : List Bool) (f_ : Unit) : Option Bool :=
 Option.bind (w8 s_ ()) fun r_ =>
 some (decide (r_ ≥ 0))
def j4 (l_ : List Bool) (is : Unit) : Option Bool :=
 Option.bind (xy l_ ()) fun r_ =>
 some (!r_)
def va (m_ : z7) (l_ : List (List Int)) : Option (Bool × Int) :=
 Option.bind (jx m_ l_) fun r_ =>
 bif r_ != 0 then (
  some (false, r_))
 else (
  Option.bind (YK m_ l_) fun r_1 =>
  Option.bind (j4 r_1.States ()) fun r_2 =>
  some (r_2, 0))
def xG (is : Bool) : Option Bool :=
 some is
def vC (x_ : Bool) (x1 : Unit) : Option Bool :=
 Option.bind (xG x_) fun r_ =>
 some (!r_)
def yP : Option Int :=
 some (-1)
def yN (s_ : List Bool) (x8 : Int) : Option (LR Int (Unit ⊕ Int)) :=
 bif decide (x8 < ((s_.length : Nat) : Int)) then (
  Option.bind (idx s_ x8) fun s__e =>
  Option.bind (vC s__e ()) fun r_ =>
  bif r_ then (
   some (.done (.inr x8)))
  else (
   some (.next (w64 (x8 + 1)))))
 else (
  some (.done (.inl ())))
def xv (s_ : List Bool) (f_ : Unit) : Option Int :=
 Option.bind (loop (fun s => yN s_ s) 0) fun t2 =>
 match t2 with
 | .inl p => yP
 | .inr p => some p
def yQ (s_ : List Bool) (f_ : Unit) : Option Bool :=
 Option.bind (xv s_ ()) fun r_ =>
 some (decide (r_ ≥ 0))
def ug (l_ : List Bool) (is : Unit) : Option Bool :=
 Option.bind (yQ l_ ()) fun r_ =>
 some (!r_)
def we (r_ : List Bool) : Option Bool :=
 Option.bind (ug r_ ()) fun r_1 =>
 some r_1
def uh (x_ : List Bool) (x1 : Unit) : Option Bool :=
 Option.bind (we x_) fun r_ =>
 some (!r_)
def xa : Option Int :=
 some (-1)
def x9 (s_ : List (List Bool)) (x8 : Int) : Option (LR Int (Unit ⊕ Int)) :=
 bif decide (x8 < ((s_.length : Nat) : Int)) then (
  Option.bind (idx s_ x8) fun s__e =>
  Option.bind (uh s__e ()) fun r_ =>
  bif r_ then (
   some (.done (.inr x8)))
  else (
   some (.next (w64 (x8 + 1)))))
 else (
  some (.done (.inl ())))
def xV (s_ : List (List Bool)) (f_ : Unit) : Option Int :=
 Option.bind (loop (fun s => x9 s_ s) 0) fun t2 =>
 match t2 with
 | .inl p => xa
 | .inr p => some p
def xc (s_ : List (List Bool)) (f_ : Unit) : Option Bool :=
 Option.bind (xV s_ ()) fun r_ =>
 some (decide (r_ ≥ 0))
def qa (l_ : List (List Bool)) (is : Unit) : Option Bool :=
 Option.bind (xc l_ ()) fun r_ =>
 some (!r_)
def xq (m_ : z7) (l_ : List (List Int)) : Option (Bool × Int) :=
 Option.bind (jx m_ l_) fun r_ =>
 bif r_ != 0 then (
  some (false, r_))
 else (
  Option.bind (YK m_ l_) fun r_1 =>
  Option.bind (qa r_1.Edges ()) fun r_2 =>
  some (r_2, 0))
def qS : Option Bool :=
 Option.bind (YE) fun r_ =>
 Option.bind (qU ([[], [0], [1], [0, 0], [0, 1], [0, 0, 0], [0, 0, 1]])) fun r_1 =>
 Option.bind (qU ([[], [0], [0, 0]])) fun r_2 =>
 Option.bind (v8 r_) fun r_3 =>
 Option.bind (xp r_) fun r_4 =>
 Option.bind (xi r_ 0) fun r_5 =>
 Option.bind (xi r_ (-1)) fun r_6 =>
 Option.bind (qU ([[1], [0, 1, 0]])) fun r_7 =>
 Option.bind (ZQ r_ r_7) fun r_8 =>
 bif r_3.2 != 0 then (
  some false)
 else (
  bif r_4.2 != 0 then (
   some false)
  else (
   bif r_5.2 != 0 then (
    some false)
   else (
    bif r_6.2 != 1 then (
     some false)
    else (
     bif r_8.2 != 0 then (
      some false)
     else (
      Option.bind (wQ r_3.1 r_2) fun r_9 =>
      bif !r_9 then (
       some false)
      else (
       Option.bind (wQ r_4.1 r_1) fun r_10 =>
       bif !r_10 then (
        some false)
       else (
        Option.bind (wQ r_5.1 r_2) fun r_11 =>
        bif !r_11 then (
         some false)
        else (
         Option.bind (Vs r_8.1 (zc.mk ([true, true, false]) ([[true, true], [false, false], [false, false]]))) fun r_12 =>
         bif !r_12 then (
          some false)
         else (
          Option.bind (va r_ r_2) fun r_13 =>
          Option.bind (qU ([[0, 0]])) fun r_14 =>
          Option.bind (va r_ r_14) fun r_15 =>
          Option.bind (xq r_ r_1) fun r_16 =>
          Option.bind (qU ([[0], [1]])) fun r_17 =>
          Option.bind (xq r_ r_17) fun r_18 =>
          bif r_13.2 == 0 then (
           bif r_15.2 == 0 then (
            bif r_16.2 == 0 then (
             bif r_18.2 == 0 then (
              bif r_13.1 then (
               bif !r_15.1 then (
                bif r_16.1 then (
                 some (!r_18.1))
                else (
                 some false))
               else (
                some false))
              else (
               some false))
             else (
              some false))
            else (
             some false))
           else (
            some false))
          else (
           some false))))))))))
def Zt (w_ : List Int) (low : Int) (l_1 : List (List Int)) : Option (List (List Int)) :=
 gd (([] : List Int).length + w_.length ≤ 4294967296) <|
 Option.bind (idx l_1 low) fun l__e =>
 some (l_1.set low.toNat w_)
def jt (low : Int) (l_2 : List (List Int)) (i_ : Int) : Option (LR (List (List Int) × Int) (List (List Int))) :=
 bif decide (i_ > low) then (
  Option.bind (idx l_2 (w64 (i_ - 1))) fun l__e1 =>
  Option.bind (idx l_2 i_) fun l__e2 =>
  some (.next ((l_2.set i_.toNat l__e1), w64 (i_ - 1))))
 else (
  some (.done l_2))
def uG (l_ : List (List Int)) (w_ : List Int) (low : Int) : Option (List (List Int)) :=
 gd (l_.length + ([[]] : List (List Int)).length ≤ 4294967296) <|
 Option.bind (loop (fun s => jt low s.1 s.2) ((l_ ++ ([[]] : List (List Int))), w64 ((((l_ ++ ([[]] : List (List Int))).length : Nat) : Int) - 1))) fun t4 =>
 Zt w_ low t4
def Zu (l_ : List (List Int)) (w_ : List Int) (low : Int) : Option (List (List Int)) :=
 bif decide (low < ((l_.length : Nat) : Int)) then (
  Option.bind (idx l_ low) fun l__e3 =>
  Option.bind (wZ l__e3 w_) fun r_ =>
  bif r_ == 0 then (
   some l_)
  else (
   uG l_ w_ low))
 else (
  uG l_ w_ low)
def js (l_ : List (List Int)) (w_ : List Int) (low1 : Int) (high : Int) : Option (LR (Int × Int) Int) :=
 bif decide (low1 < high) then (
  gd ((2 : Int) ≠ 0) <|
  Option.bind (idx l_ (w64 (Int.tdiv (w64 (low1 + high)) 2))) fun l__e4 =>
  Option.bind (wZ l__e4 w_) fun r_1 =>
  bif decide (r_1 < 0) then (
   some (.next (w64 ((w64 (Int.tdiv (w64 (low1 + high)) 2)) + 1), high)))
  else (
   some (.next (low1, w64 (Int.tdiv (w64 (low1 + high)) 2)))))
 else (
  some (.done low1))
def Y2 (l_ : List (List Int)) (w_ : List Int) : Option (List (List Int)) :=
 Option.bind (loop (fun s => js l_ w_ s.1 s.2) (0, ((l_.length : Nat) : Int))) fun t5 =>
 Zu l_ w_ t5
def YA (out : List (List Int)) : Option (List (List Int)) :=
 some out
def wq (l_ : List (List Int)) (out1 : List (List Int)) (i_ : Int) : Option (LR (List (List Int) × Int) (List (List Int))) :=
 bif decide (i_ < ((l_.length : Nat) : Int)) then (
  Option.bind (idx l_ i_) fun l__e =>
  Option.bind (Y2 out1 l__e) fun r_ =>
  some (.next (r_, w64 (i_ + 1))))
 else (
  some (.done out1))
def Y3 (l_ : List (List Int)) : Option (List (List Int)) :=
 Option.bind (loop (fun s => wq l_ s.1 s.2) (([] : List (List Int)), 0)) fun t2 =>
 YA t2
def uF (m_ : z7) : Option (List (List Int)) :=
 Option.bind (vV m_) fun r_ =>
 Option.bind (Y3 r_.1) fun r_1 =>
 some r_1
def ZI (out : List (List Int)) : Option (List (List Int)) :=
 some out
def jl (n_ : Int) (out2 : List (List Int)) : Option (LR (List (List Int) × Int) (List (List Int))) :=
 some (.next (out2, w64 (n_ + 1)))
def jk (n_ : Int) (next : List (List Int)) : Option (LR (List (List Int) × Int) (List (List Int))) :=
 jl n_ next
def jj (i_ : Int) (next2 : List (List Int)) : Option (LR (List (List Int) × Int) (List (List Int))) :=
 some (.next (next2, w64 (i_ + 1)))
def yY (inputs : Int) (out1 : List (List Int)) (i_ : Int) (next3 : List (List Int)) (s_ : Int) : Option (LR (List (List Int) × Int) (List (List Int))) :=
 bif decide (s_ < inputs) then (
  Option.bind (idx out1 i_) fun out_e =>
  gd (([] : List Int).length + out_e.length ≤ 4294967296) <|
  gd (out_e.length + ([s_] : List Int).length ≤ 4294967296) <|
  gd (next3.length + ([(out_e ++ ([s_] : List Int))] : List (List Int)).length ≤ 4294967296) <|
  some (.next ((next3 ++ ([(out_e ++ ([s_] : List Int))] : List (List Int))), w64 (s_ + 1))))
 else (
  some (.done next3))
def yZ (inputs : Int) (out1 : List (List Int)) (next1 : List (List Int)) (i_ : Int) : Option (LR (List (List Int) × Int) (List (List Int))) :=
 bif decide (i_ < ((out1.length : Nat) : Int)) then (
  Option.bind (loop (fun s => yY inputs out1 i_ s.1 s.2) (next1, 0)) fun t7 =>
  jj i_ t7)
 else (
  some (.done next1))
def xI (inputs : Int) (k_ : Int) (out1 : List (List Int)) (n_ : Int) : Option (LR (List (List Int) × Int) (List (List Int))) :=
 bif decide (n_ < k_) then (
  Option.bind (loop (fun s => yZ inputs out1 s.1 s.2) (([] : List (List Int)), 0)) fun t5 =>
  jk n_ t5)
 else (
  some (.done out1))
def kN (inputs : Int) (k_ : Int) : Option (List (List Int)) :=
 Option.bind (loop (fun s => xI inputs k_ s.1 s.2) (([[]] : List (List Int)), 0)) fun t2 =>
 ZI t2
def Yz (out : List (List Int)) : Option (List (List Int)) :=
 some out
def wp (inputs : Int) (k_ : Int) (out1 : List (List Int)) (n_ : Int) : Option (LR (List (List Int) × Int) (List (List Int))) :=
 bif decide (n_ ≤ k_) then (
  Option.bind (kN inputs n_) fun r_ =>
  gd (out1.length + r_.length ≤ 4294967296) <|
  some (.next ((out1 ++ r_), w64 (n_ + 1))))
 else (
  some (.done out1))
def kA (inputs : Int) (k_ : Int) : Option (List (List Int)) :=
 Option.bind (loop (fun s => wp inputs k_ s.1 s.2) (([] : List (List Int)), 0)) fun t2 =>
 Yz t2
def kO (out : List (List Int)) : Option (List (List Int)) :=
 some out
def uR (i_ : Int) (out2 : List (List Int)) : Option (LR (List (List Int) × Int) (List (List Int))) :=
 some (.next (out2, w64 (i_ + 1)))
def xg (a_ : List (List Int)) (b_ : List (List Int)) (i_ : Int) (out3 : List (List Int)) (k_ : Int) : Option (LR (List (List Int) × Int) (List (List Int))) :=
 bif decide (k_ < ((b_.length : Nat) : Int)) then (
  Option.bind (idx a_ i_) fun a__e =>
  gd (([] : List Int).length + a__e.length ≤ 4294967296) <|
  Option.bind (idx b_ k_) fun b__e =>
  gd (a__e.length + b__e.length ≤ 4294967296) <|
  Option.bind (Y2 out3 (a__e ++ b__e)) fun r_ =>
  some (.next (r_, w64 (k_ + 1))))
 else (
  some (.done out3))
def xh (a_ : List (List Int)) (b_ : List (List Int)) (out1 : List (List Int)) (i_ : Int) : Option (LR (List (List Int) × Int) (List (List Int))) :=
 bif decide (i_ < ((a_.length : Nat) : Int)) then (
  Option.bind (loop (fun s => xg a_ b_ i_ s.1 s.2) (out1, 0)) fun t4 =>
  uR i_ t4)
 else (
  some (.done out1))
def ju (a_ : List (List Int)) (b_ : List (List Int)) : Option (List (List Int)) :=
 Option.bind (loop (fun s => xh a_ b_ s.1 s.2) (([] : List (List Int)), 0)) fun t2 =>
 kO t2
def vw (m_ : z7) (k_ : Int) : Option (List (List Int)) :=
 Option.bind (uF m_) fun r_ =>
 Option.bind (kA m_.Inputs k_) fun r_1 =>
 Option.bind (ju r_ r_1) fun r_2 =>
 some r_2
def wP (m_ : z7) : Option (List (List Int)) :=
 Option.bind (vw m_ 1) fun r_ =>
 some r_
def wI (x_ : zY) (k_ : Int) : Option Bool :=
 bif decide (k_ > 3) then (
  some true)
 else (
  Option.bind (kE (zY.mk x_.States x_.Inputs x_.Outputs x_.Partial x_.Edges)) fun r_ =>
  Option.bind (v8 r_) fun r_1 =>
  Option.bind (xp r_) fun r_2 =>
  Option.bind (xi r_ k_) fun r_3 =>
  Option.bind (uY r_) fun r_4 =>
  bif decide (r_4 < ((r_.Rows.length : Nat) : Int)) then (
   bif r_1.2 == 11 then (
    bif r_2.2 == 11 then (
     bif r_3.2 == 11 then (
      bif (w64 ((w64 (((r_1.1.length : Nat) : Int) + ((r_2.1.length : Nat) : Int))) + ((r_3.1.length : Nat) : Int))) == 0 then (
       Option.bind (qS) fun r_5 =>
       some r_5)
      else (
       some false))
     else (
      some false))
    else (
     some false))
   else (
    some false))
  else (
   bif r_1.2 != 0 then (
    some false)
   else (
    bif r_2.2 != 0 then (
     some false)
    else (
     Option.bind (uF r_) fun r_6 =>
     Option.bind (wQ r_1.1 r_6) fun r_7 =>
     bif !r_7 then (
      some false)
     else (
      Option.bind (wP r_) fun r_8 =>
      Option.bind (wQ r_2.1 r_8) fun r_9 =>
      bif !r_9 then (
       some false)
      else (
       bif decide (k_ < 0) then (
        bif r_3.2 == 1 then (
         bif ((r_3.1.length : Nat) : Int) == 0 then (
          Option.bind (qS) fun r_10 =>
          some r_10)
         else (
          some false))
        else (
         some false))
       else (
        bif r_3.2 == 0 then (
         Option.bind (vw r_ k_) fun r_11 =>
         Option.bind (wQ r_3.1 r_11) fun r_12 =>
         bif r_12 then (
          Option.bind (qS) fun r_13 =>
          some r_13)
         else (
          some false))
        else (
         some false))))))))
abbrev F0_ := eSl 1 true (eI .i64)
abbrev F1_ := eOs 1 true (eI .i64)
abbrev F2_ := eSl 1 false (eI .u16)
abbrev F3_ := eSl 1 false (eI .i64)
abbrev F4_ := eOs 1 false (eI .i64)
abbrev F5_ := eOs 1 true (eOs 1 true eB)
abbrev F6_ := eSl 1 true (eSl 1 true eB)
abbrev F7_ := eSl 1 false (eSl 1 false eB)
abbrev F8_ := wh (eI .i64) (eI .i64)
abbrev F9_ := eSl 1 true F0_
abbrev zdn := eSl 1 true F3_
abbrev vo := eSl 1 false F3_
abbrev z2c := eOs 1 false F3_
abbrev zfo := eSl 2 true F8_
abbrev vK := eSl 2 false F8_
abbrev z0P := eOs 2 false F8_
abbrev uK := kV (eI .i64) (eI .i64) (eI .i64)
abbrev zg3 := eSl 1 true zfo
abbrev zg2 := eSl 1 false vK
abbrev zd5 := xK (eOs 1 true eB) F5_
abbrev zd4 := xK (eSl 1 true eB) F6_
abbrev z0O := xK (eSl 1 false eB) F7_
abbrev z2e := jw (eI .u8) (eI .u8) (eI .u8) eB F2_
abbrev z6l := v7 (eI .i64) (eI .i64) zg3
abbrev xO := v7 (eI .i64) (eI .i64) zg2
abbrev z82 := eSp xO
def rpN {α : Type _} (n : Nat) (a : α) (l : List α) : List α := Nat.rec l (fun _ r => a :: r) n
end Go.Own

namespace Go.Proofs
open Go.Shelf
def Tryz.so104_ren : Go.Shelf.Ren := ⟨fun | 6 => 104 | 15 => 119 | 14 => 118 | 28 => 131 | 29 => 132 | 20 => 123 | 21 => 124 | 22 => 125 | 23 => 126 | 24 => 127 | 25 => 128 | 26 => 129 | 27 => 130 | 46 => 134 | 47 => 135 | 48 => 136 | 49 => 137 | 50 => 138 | 57 => 139 | n => n, fun | 22 => 29 | 24 => 77 | 25 => 90 | 3 => 3 | 39 => 152 | 0 => 0 | 53 => 164 | 55 => 166 | 4 => 4 | 46 => 157 | 45 => 156 | 50 => 161 | 5 => 5 | 9 => 9 | 66 => 167 | 70 => 171 | 76 => 173 | 77 => 174 | n => n, fun | n => n⟩
theorem Tryz.so104 : Go.Proofs.SlLaysF0.n6 Tryz.prog Tryz.so104_ren := {
 mixed := by kernel_rfl
 f6 := ⟨Tryz.f104.name, by decide, Tryz.func104.trans (congrArg some (by kernel_rfl))⟩
 f14 := ⟨Tryz.f118.name, by decide, Tryz.func118.trans (congrArg some (by kernel_rfl))⟩
 f15 := Tryz.func119.trans (congrArg some (by kernel_rfl))
 f20 := ⟨Tryz.f123.name, by decide, Tryz.func123.trans (congrArg some (by kernel_rfl))⟩
 f21 := ⟨Tryz.f124.name, by decide, Tryz.func124.trans (congrArg some (by kernel_rfl))⟩
 f22 := ⟨Tryz.f125.name, by decide, Tryz.func125.trans (congrArg some (by kernel_rfl))⟩
 f23 := ⟨Tryz.f126.name, by decide, Tryz.func126.trans (congrArg some (by kernel_rfl))⟩
 f24 := ⟨Tryz.f127.name, by decide, Tryz.func127.trans (congrArg some (by kernel_rfl))⟩
 f25 := ⟨Tryz.f128.name, by decide, Tryz.func128.trans (congrArg some (by kernel_rfl))⟩
 f26 := ⟨Tryz.f129.name, by decide, Tryz.func129.trans (congrArg some (by kernel_rfl))⟩
 f27 := ⟨Tryz.f130.name, by decide, Tryz.func130.trans (congrArg some (by kernel_rfl))⟩
 f28 := Tryz.func131.trans (congrArg some (by kernel_rfl))
 f29 := Tryz.func132.trans (congrArg some (by kernel_rfl))
 f46 := ⟨Tryz.f134.name, by decide, Tryz.func134.trans (congrArg some (by kernel_rfl))⟩
 f47 := Tryz.func135.trans (congrArg some (by kernel_rfl))
 f48 := Tryz.func136.trans (congrArg some (by kernel_rfl))
 f49 := ⟨Tryz.f137.name, by decide, Tryz.func137.trans (congrArg some (by kernel_rfl))⟩
 f50 := ⟨Tryz.f138.name, by decide, Tryz.func138.trans (congrArg some (by kernel_rfl))⟩
 f57 := ⟨Tryz.f139.name, by decide, Tryz.func139.trans (congrArg some (by kernel_rfl))⟩
 t0 := Tryz.underlying0
 a0 := Tryz.isAgg0
 z0 := Tryz.sizeOf0
 v0 := Tryz.zeroValue0
 t3 := Tryz.underlying3
 a3 := Tryz.isAgg3
 z3 := Tryz.sizeOf3
 v3 := Tryz.zeroValue3
 t4 := Tryz.underlying4
 a4 := Tryz.isAgg4
 z4 := Tryz.sizeOf4
 v4 := Tryz.zeroValue4
 t5 := Tryz.underlying5
 a5 := Tryz.isAgg5
 z5 := Tryz.sizeOf5
 v5 := Tryz.zeroValue5
 t9 := Tryz.underlying9
 a9 := Tryz.isAgg9
 z9 := Tryz.sizeOf9
 v9 := Tryz.zeroValue9
 t22 := Tryz.underlying29
 a22 := Tryz.isAgg29
 z22 := Tryz.sizeOf29
 v22 := Tryz.zeroValue29
 t25 := Tryz.underlying90
 a25 := Tryz.isAgg90
 z25 := Tryz.sizeOf90
 v25 := Tryz.zeroValue90
 t39 := Tryz.underlying152
 a39 := Tryz.isAgg152
 z39 := Tryz.sizeOf152
 v39 := Tryz.zeroValue152
 t45 := Tryz.underlying156
 a45 := Tryz.isAgg156
 z45 := Tryz.sizeOf156
 v45 := Tryz.zeroValue156
 t46 := Tryz.underlying157
 a46 := Tryz.isAgg157
 z46 := Tryz.sizeOf157
 v46 := Tryz.zeroValue157
 t50 := Tryz.underlying161
 a50 := Tryz.isAgg161
 z50 := Tryz.sizeOf161
 v50 := Tryz.zeroValue161
 t53 := Tryz.underlying164
 a53 := Tryz.isAgg164
 z53 := Tryz.sizeOf164
 v53 := Tryz.zeroValue164
 t55 := Tryz.underlying166
 a55 := Tryz.isAgg166
 z55 := Tryz.sizeOf166
 v55 := Tryz.zeroValue166
 t66 := Tryz.underlying167
 a66 := Tryz.isAgg167
 z66 := Tryz.sizeOf167
 v66 := Tryz.zeroValue167
 t70 := Tryz.underlying171
 a70 := Tryz.isAgg171
 z70 := Tryz.sizeOf171
 v70 := Tryz.zeroValue171
 t76 := Tryz.underlying173
 a76 := Tryz.isAgg173
 z76 := Tryz.sizeOf173
 v76 := Tryz.zeroValue173
 t77 := Tryz.underlying174
 a77 := Tryz.isAgg174
 z77 := Tryz.sizeOf174
 v77 := Tryz.zeroValue174 }
end Go.Proofs
