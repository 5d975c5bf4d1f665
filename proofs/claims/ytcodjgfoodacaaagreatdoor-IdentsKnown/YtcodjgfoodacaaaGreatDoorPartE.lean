/- -/
import Derived.Test.YtcodjgfoodacaaaGreatDoorPartB
import Derived.Test.YtcodjgfoodacaaaGreatDoorProg
import Derived.Test.YtcodjgfoodacaaaGreatDoorPartD
import Derived.Test.YtcodjgfoodacaaaGreatDoorChecked
import Derived.Lib.AppendZerosOnto
import Derived.Lib.SliceRun
import Derived.WalkKit
import Derived.Lib.Walk
import Derived.Test.YtcodjgfoodacaaaGreatDoorPartC
import Derived.Shelf.SlSortCmp.NoneTotal
import Derived.Ground.SlsfProg
set_option linter.unusedVariables false
set_option linter.unusedSimpArgs false
namespace Go.Ex
open Go.Proofs
theorem q5 : EqP Tryz.prog 5 [.int .u8 0] false 1 := z3Z (k := .int .u8) Tryz.underlying5 ⟨_, (by kernel_rfl : Tryz.prog.info? 5 = some Tryz.t5), rfl⟩ rfl
theorem q49 : EqP Tryz.prog 49 (z4C 3 [.int .u8 0]) true 2 := UL Tryz.underlying49 q5 ⟨_, (by kernel_rfl : Tryz.prog.info? 49 = some Tryz.t49), rfl⟩
def i49 : EI := ⟨.array 3 5, 3, 3, some [.int .u8 0, .int .u8 0, .int .u8 0], true⟩
theorem zgH : z98 Tryz.prog 49 i49 := ⟨⟨Tryz.t49, by kernel_rfl, rfl, rfl, fun z h => by cases h; exact ⟨_, rfl, rfl, QU rfl, rfl, ⟨_, rfl⟩⟩⟩, Tryz.underlying49, fun _ => WD q49 rfl rfl (Nat.le_of_ble_eq_true (by kernel_rfl)) (by decide)⟩
def i64 : EI := ⟨.func, 1, 8, some [.nilFunc], false⟩
theorem q3 : EqP Tryz.prog 3 [.int .i64 0] false 1 := z3Z (k := .int .i64) Tryz.underlying3 ⟨_, (by kernel_rfl : Tryz.prog.info? 3 = some Tryz.t3), rfl⟩ rfl
theorem q66 : EqP Tryz.prog 66 (W0 [([.int .i64 0], false), ([.int .i64 0], false)]) true 2 := WY Tryz.underlying66 (by kernel_rfl) ⟨_, (by kernel_rfl : Tryz.prog.info? 66 = some Tryz.t66), rfl⟩ (by decide) (yV.cons (by decide) rfl (q3.mono (by decide)) (yV.cons (by decide) rfl (q3.mono (by decide)) (yV.nil)))
def i66 : EI := ⟨.struct [(0, 3), (1, 3)], 2, 16, some [.int .i64 0, .int .i64 0], true⟩
theorem zgG : z98 Tryz.prog 66 i66 := ⟨⟨Tryz.t66, by kernel_rfl, rfl, rfl, fun z h => by cases h; exact ⟨_, rfl, rfl, QU rfl, rfl, ⟨_, rfl⟩⟩⟩, ⟨_, Tryz.underlying66, by kernel_rfl, by
  intro f hf
  simp only [List.mem_cons, List.not_mem_nil, or_false] at hf
  rcases hf with rfl | rfl
  ·exact ⟨Tryz.t3, by kernel_rfl⟩
  ·exact ⟨Tryz.t3, by kernel_rfl⟩⟩, fun _ => WD q66 rfl rfl (Nat.le_of_ble_eq_true (by kernel_rfl)) (by decide)⟩
theorem q67 : EqP Tryz.prog 67 (W0 [([.int .i64 0], false), ([.int .i64 0], false)]) true 2 := WY Tryz.underlying67 (by kernel_rfl) ⟨_, (by kernel_rfl : Tryz.prog.info? 67 = some Tryz.t67), rfl⟩ (by decide) (yV.cons (by decide) rfl (q3.mono (by decide)) (yV.cons (by decide) rfl (q3.mono (by decide)) (yV.nil)))
def i67 : EI := ⟨.struct [(0, 3), (1, 3)], 2, 16, some [.int .i64 0, .int .i64 0], true⟩
theorem zcp : z98 Tryz.prog 67 i67 := ⟨⟨Tryz.t67, by kernel_rfl, rfl, rfl, fun z h => by cases h; exact ⟨_, rfl, rfl, QU rfl, rfl, ⟨_, rfl⟩⟩⟩, ⟨_, Tryz.underlying67, by kernel_rfl, by
  intro f hf
  simp only [List.mem_cons, List.not_mem_nil, or_false] at hf
  rcases hf with rfl | rfl
  ·exact ⟨Tryz.t3, by kernel_rfl⟩
  ·exact ⟨Tryz.t3, by kernel_rfl⟩⟩, fun _ => WD q67 rfl rfl (Nat.le_of_ble_eq_true (by kernel_rfl)) (by decide)⟩
theorem zeW : EqP Tryz.prog 171 (z4C 2 [.int .i64 0]) true 2 := UL Tryz.underlying171 q3 ⟨_, (by kernel_rfl : Tryz.prog.info? 171 = some Tryz.t171), rfl⟩
def zhl : EI := ⟨.array 2 3, 2, 16, some [.int .i64 0, .int .i64 0], true⟩
theorem zas : z98 Tryz.prog 171 zhl := ⟨⟨Tryz.t171, by kernel_rfl, rfl, rfl, fun z h => by cases h; exact ⟨_, rfl, rfl, QU rfl, rfl, ⟨_, rfl⟩⟩⟩, Tryz.underlying171, fun _ => WD zeW rfl rfl (Nat.le_of_ble_eq_true (by kernel_rfl)) (by decide)⟩
theorem zhd : EqP Tryz.prog 189 (z4C 16 [.int .i64 0, .int .i64 0]) true 3 := UL Tryz.underlying189 zeW ⟨_, (by kernel_rfl : Tryz.prog.info? 189 = some Tryz.t189), rfl⟩
def zhk : EI := ⟨.array 16 171, 32, 256, some [.int .i64 0, .int .i64 0, .int .i64 0, .int .i64 0, .int .i64 0, .int .i64 0, .int .i64 0, .int .i64 0, .int .i64 0, .int .i64 0, .int .i64 0, .int .i64 0, .int .i64 0, .int .i64 0, .int .i64 0, .int .i64 0, .int .i64 0, .int .i64 0, .int .i64 0, .int .i64 0, .int .i64 0, .int .i64 0, .int .i64 0, .int .i64 0, .int .i64 0, .int .i64 0, .int .i64 0, .int .i64 0, .int .i64 0, .int .i64 0, .int .i64 0, .int .i64 0], true⟩
theorem zfb : z98 Tryz.prog 189 zhk := ⟨⟨Tryz.t189, by kernel_rfl, rfl, rfl, fun z h => by cases h; exact ⟨_, rfl, rfl, QU rfl, rfl, ⟨_, rfl⟩⟩⟩, Tryz.underlying189, fun _ => WD zhd rfl rfl (Nat.le_of_ble_eq_true (by kernel_rfl)) (by decide)⟩
theorem zeV : EqP Tryz.prog 190 (z4C 16 [.int .i64 0, .int .i64 0]) true 3 := UL Tryz.underlying190 zeW ⟨_, (by kernel_rfl : Tryz.prog.info? 190 = some Tryz.t190), rfl⟩
def zhj : EI := ⟨.array 16 171, 32, 256, some [.int .i64 0, .int .i64 0, .int .i64 0, .int .i64 0, .int .i64 0, .int .i64 0, .int .i64 0, .int .i64 0, .int .i64 0, .int .i64 0, .int .i64 0, .int .i64 0, .int .i64 0, .int .i64 0, .int .i64 0, .int .i64 0, .int .i64 0, .int .i64 0, .int .i64 0, .int .i64 0, .int .i64 0, .int .i64 0, .int .i64 0, .int .i64 0, .int .i64 0, .int .i64 0, .int .i64 0, .int .i64 0, .int .i64 0, .int .i64 0, .int .i64 0, .int .i64 0], true⟩
theorem zar : z98 Tryz.prog 190 zhj := ⟨⟨Tryz.t190, by kernel_rfl, rfl, rfl, fun z h => by cases h; exact ⟨_, rfl, rfl, QU rfl, rfl, ⟨_, rfl⟩⟩⟩, Tryz.underlying190, fun _ => WD zeV rfl rfl (Nat.le_of_ble_eq_true (by kernel_rfl)) (by decide)⟩
theorem zhc : EqP Tryz.prog 192 (W0 [([.int .i64 0], false), ([.int .i64 0, .int .i64 0, .int .i64 0, .int .i64 0, .int .i64 0, .int .i64 0, .int .i64 0, .int .i64 0, .int .i64 0, .int .i64 0, .int .i64 0, .int .i64 0, .int .i64 0, .int .i64 0, .int .i64 0, .int .i64 0, .int .i64 0, .int .i64 0, .int .i64 0, .int .i64 0, .int .i64 0, .int .i64 0, .int .i64 0, .int .i64 0, .int .i64 0, .int .i64 0, .int .i64 0, .int .i64 0, .int .i64 0, .int .i64 0, .int .i64 0, .int .i64 0], true)]) true 4 := WY Tryz.underlying192 (by kernel_rfl) ⟨_, (by kernel_rfl : Tryz.prog.info? 192 = some Tryz.t192), rfl⟩ (by decide) (yV.cons (by decide) rfl (q3.mono (by decide)) (yV.cons (by decide) rfl (zeV.mono (by decide)) (yV.nil)))
def zhi : EI := ⟨.struct [(0, 3), (1, 190)], 33, 264, some [.int .i64 0, .int .i64 0, .int .i64 0, .int .i64 0, .int .i64 0, .int .i64 0, .int .i64 0, .int .i64 0, .int .i64 0, .int .i64 0, .int .i64 0, .int .i64 0, .int .i64 0, .int .i64 0, .int .i64 0, .int .i64 0, .int .i64 0, .int .i64 0, .int .i64 0, .int .i64 0, .int .i64 0, .int .i64 0, .int .i64 0, .int .i64 0, .int .i64 0, .int .i64 0, .int .i64 0, .int .i64 0, .int .i64 0, .int .i64 0, .int .i64 0, .int .i64 0, .int .i64 0], true⟩
theorem zfa : z98 Tryz.prog 192 zhi := ⟨⟨Tryz.t192, by kernel_rfl, rfl, rfl, fun z h => by cases h; exact ⟨_, rfl, rfl, QU rfl, rfl, ⟨_, rfl⟩⟩⟩, ⟨_, Tryz.underlying192, by kernel_rfl, by
  intro f hf
  simp only [List.mem_cons, List.not_mem_nil, or_false] at hf
  rcases hf with rfl | rfl
  ·exact ⟨Tryz.t3, by kernel_rfl⟩
  ·exact ⟨Tryz.t190, by kernel_rfl⟩⟩, fun _ => WD zhc rfl rfl (Nat.le_of_ble_eq_true (by kernel_rfl)) (by decide)⟩
theorem zhb : EqP Tryz.prog 193 (W0 [([.int .i64 0], false), ([.int .i64 0, .int .i64 0, .int .i64 0, .int .i64 0, .int .i64 0, .int .i64 0, .int .i64 0, .int .i64 0, .int .i64 0, .int .i64 0, .int .i64 0, .int .i64 0, .int .i64 0, .int .i64 0, .int .i64 0, .int .i64 0, .int .i64 0, .int .i64 0, .int .i64 0, .int .i64 0, .int .i64 0, .int .i64 0, .int .i64 0, .int .i64 0, .int .i64 0, .int .i64 0, .int .i64 0, .int .i64 0, .int .i64 0, .int .i64 0, .int .i64 0, .int .i64 0], true)]) true 4 := WY Tryz.underlying193 (by kernel_rfl) ⟨_, (by kernel_rfl : Tryz.prog.info? 193 = some Tryz.t193), rfl⟩ (by decide) (yV.cons (by decide) rfl (q3.mono (by decide)) (yV.cons (by decide) rfl (zeV.mono (by decide)) (yV.nil)))
def zhh : EI := ⟨.struct [(0, 3), (1, 190)], 33, 264, some [.int .i64 0, .int .i64 0, .int .i64 0, .int .i64 0, .int .i64 0, .int .i64 0, .int .i64 0, .int .i64 0, .int .i64 0, .int .i64 0, .int .i64 0, .int .i64 0, .int .i64 0, .int .i64 0, .int .i64 0, .int .i64 0, .int .i64 0, .int .i64 0, .int .i64 0, .int .i64 0, .int .i64 0, .int .i64 0, .int .i64 0, .int .i64 0, .int .i64 0, .int .i64 0, .int .i64 0, .int .i64 0, .int .i64 0, .int .i64 0, .int .i64 0, .int .i64 0, .int .i64 0], true⟩
theorem z5Q : z98 Tryz.prog 193 zhh := ⟨⟨Tryz.t193, by kernel_rfl, rfl, rfl, fun z h => by cases h; exact ⟨_, rfl, rfl, QU rfl, rfl, ⟨_, rfl⟩⟩⟩, ⟨_, Tryz.underlying193, by kernel_rfl, by
  intro f hf
  simp only [List.mem_cons, List.not_mem_nil, or_false] at hf
  rcases hf with rfl | rfl
  ·exact ⟨Tryz.t3, by kernel_rfl⟩
  ·exact ⟨Tryz.t190, by kernel_rfl⟩⟩, fun _ => WD zhb rfl rfl (Nat.le_of_ble_eq_true (by kernel_rfl)) (by decide)⟩
end Go.Ex

namespace Go.Own
open Go.Proofs
def zf9 : Value → Bool
 | .int _ _ => true
 | _ => false
theorem z2p : ∀ {z vs us : List Value} {r : Bool}, z.all zf9 = true → z.length = vs.length → xu vs us = some r → Go.Ex.z1r z vs = true ∧ Go.Ex.xu vs us = some r
 | [], [], us, r, _, _, h => by
  cases us with
  | nil => simp only [xu, Option.some.injEq] at h; subst h; exact ⟨rfl, rfl⟩
  | cons u us => simp [xu] at h
 | a :: z, v :: vs, us, r, hz, hl, h => by
  have q : ∃ k x u' k' y, v = .int k x ∧ us = .int k' y :: u' ∧ k = k' := by
   cases us with
   | nil => cases v <;> simp [xu] at h
   | cons u us =>
    cases v <;> cases u <;> simp [xu] at h
    exact ⟨_, _, _, _, _, rfl, rfl, h.1⟩
  obtain ⟨k, x, u', k', y, rfl, rfl, hk⟩ := q
  simp only [xu, hk, if_true, Option.map_eq_some_iff] at h
  obtain ⟨r', e1, rfl⟩ := h
  simp only [List.all_cons, Bool.and_eq_true] at hz
  obtain ⟨q1, q2⟩ := z2p hz.2 (by simpa using hl) e1
  refine ⟨?_, by simp [Go.Ex.xu, hk, q2]⟩
  cases a <;> first | (simp [zf9] at hz; done) | simpa [Go.Ex.z1r] using q1
 | [], _ :: _, _, _, _, hl, _ => by simp at hl
 | _ :: _, [], _, _, _, hl, _ => by simp at hl
theorem z1c {P : Program} {t n : Nat} {i : Go.Ex.EI} (h : Go.Ex.z97 P t i) {z : List Value} (hz : i.zero = some z) (hi : z.all zf9 = true) (hs : i.size = n) (hn : z.length = n) : z97 P t n := {
 guard := h.guard
 run := fun vs us r w hv hu he => by
  obtain ⟨q1, q2⟩ := z2p hi (by rw [hn, hv]) he
  exact h.run vs us r w (by rw [hs]; exact hv) (by rw [hs]; exact hu) (by simpa only [Go.Ex.zfe, hz] using q1) q2 }
theorem ze {S : zi} {h : Array Obj} {v : Value} (hv : v.oneCell' = true) : zC S h (.atom v) [v] [] := by simp only [zC, Rep]; exact ⟨⟨trivial, hv⟩, trivial⟩
theorem jx {S : zi} {h : Array Obj} (sz : Nat) : zC S h (.osl sz true []) [.slice none 0 0] [] := by
 simp only [zC]
 exact ⟨none, 0, rfl, (fun _ => rfl), Nat.le_refl _, Nat.zero_le _, by simp, .inl ⟨trivial, rfl, rfl, trivial⟩⟩
theorem z42 {S : zi} {h : Array Obj} {sz : Nat} : zC S h (.dop (nlQ sz [])) [.slice none 0 0] [] := by
 simp only [zC, Rep]
 exact ⟨⟨_, rfl, z5A.2 ⟨by simp [Rep], fun _ => rfl⟩⟩, trivial⟩
theorem WE {S : zi} {h : Array Obj} {a : A} {c : List Value} (q : zC S h a c []) : ∀ n, zI S h (List.replicate n a) (List.replicate n c).flatten []
 | 0 => by simp [zI]
 | n + 1 => by
  rw [List.replicate_succ, List.replicate_succ, List.flatten_cons]
  simp only [zI]
  exact ⟨c, _, [], [], rfl, rfl, q, WE q n⟩
theorem zaB {S : zi} {h : Array Obj} {a : A} {c c' : List Value} (q : zC S h a c []) (e : c' = c) : zC S h a c' [] := e ▸ q
theorem zH {S : zi} {h : Array Obj} {fs : List A} {cs : List Value} (q : zI S h fs cs []) : zC S h (.agg fs) cs [] := by simpa only [zC] using q
theorem zz {S : zi} {h : Array Obj} : zI S h [] [] [] := by simp [zI]
theorem zc {S : zi} {h : Array Obj} {a : A} {fs : List A} {c1 c2 : List Value} (q1 : zC S h a c1 []) (q2 : zI S h fs c2 []) : zI S h (a :: fs) (c1 ++ c2) [] := by simp only [zI]; exact ⟨c1, c2, [], [], rfl, rfl, q1, q2⟩
def ti1 : TI := ⟨.other, 1, 8, some (.atom .nilFunc), false⟩
theorem zbf : jK Tryz.prog 1 ti1 := ⟨⟨Tryz.t1, by kernel_rfl, rfl, rfl, fun z h => by cases h; exact ⟨_, rfl, rfl, fun S h => ze rfl⟩⟩, ⟨_, Tryz.underlying1, rfl⟩, by intro h; cases h⟩
def ti2 : TI := ⟨.int .i64, 1, 8, some (.atom (.int .i64 0)), false⟩
theorem zbe : jK Tryz.prog 2 ti2 := ⟨⟨Tryz.t2, by kernel_rfl, rfl, rfl, fun z h => by cases h; exact ⟨_, rfl, rfl, fun S h => ze rfl⟩⟩, Tryz.underlying2, by intro h; cases h⟩
def ti3 : TI := ⟨.int .i64, 1, 8, some (.atom (.int .i64 0)), false⟩
theorem zbd : jK Tryz.prog 3 ti3 := ⟨⟨Tryz.t3, by kernel_rfl, rfl, rfl, fun z h => by cases h; exact ⟨_, rfl, rfl, fun S h => ze rfl⟩⟩, Tryz.underlying3, by intro h; cases h⟩
def ti4 : TI := ⟨.bool, 1, 1, some (.atom (.bool false)), false⟩
theorem zbc : jK Tryz.prog 4 ti4 := ⟨⟨Tryz.t4, by kernel_rfl, rfl, rfl, fun z h => by cases h; exact ⟨_, rfl, rfl, fun S h => ze rfl⟩⟩, Tryz.underlying4, by intro h; cases h⟩
def ti5 : TI := ⟨.int .u8, 1, 1, some (.atom (.int .u8 0)), false⟩
theorem zbb : jK Tryz.prog 5 ti5 := ⟨⟨Tryz.t5, by kernel_rfl, rfl, rfl, fun z h => by cases h; exact ⟨_, rfl, rfl, fun S h => ze rfl⟩⟩, Tryz.underlying5, by intro h; cases h⟩
def ti9 : TI := ⟨.str, 1, 16, none, false⟩
theorem zba : jK Tryz.prog 9 ti9 := ⟨⟨Tryz.t9, by kernel_rfl, rfl, rfl, fun z h => by cases h⟩, Tryz.underlying9, by intro h; cases h⟩
def zgk : TI := ⟨.other, 1, 16, some (.atom .nilIface), false⟩
theorem z9C : jK Tryz.prog 20 zgk := ⟨⟨Tryz.t20, by kernel_rfl, rfl, rfl, fun z h => by cases h; exact ⟨_, rfl, rfl, fun S h => ze rfl⟩⟩, ⟨_, Tryz.underlying20, rfl⟩, by intro h; cases h⟩
def zgj : TI := ⟨.slice 68, 1, 24, some (.osl 1 true []), false⟩
theorem z9B : jK Tryz.prog 28 zgj := ⟨⟨Tryz.t28, by kernel_rfl, rfl, rfl, fun z h => by cases h; exact ⟨_, rfl, rfl, fun S h => jx _⟩⟩, Tryz.underlying28, by intro h; cases h⟩
def zgi : TI := ⟨.struct [(0, 1), (1, 1), (2, 1)], 3, 40, some (.agg [.atom (.int .i64 0), .atom (.int .i64 0), .osl 1 true []]), false⟩
theorem z9A : jK Tryz.prog 30 zgi := ⟨⟨Tryz.t30, by kernel_rfl, rfl, rfl, fun z h => by cases h; exact ⟨_, rfl, rfl, fun S h => zH (zc (ze rfl) (zc (ze rfl) (zc (jx _) (zz))))⟩⟩, ⟨_, Tryz.underlying30, by kernel_rfl, by
  intro f hf
  simp only [List.mem_cons, List.not_mem_nil, or_false] at hf
  rcases hf with rfl | rfl | rfl
  ·exact ⟨Tryz.t3, by kernel_rfl⟩
  ·exact ⟨Tryz.t3, by kernel_rfl⟩
  ·exact ⟨Tryz.t28, by kernel_rfl⟩⟩, by intro h; cases h⟩
def zgh : TI := ⟨.slice 40, 1, 24, some (.osl 1 true []), false⟩
theorem z9z : jK Tryz.prog 32 zgh := ⟨⟨Tryz.t32, by kernel_rfl, rfl, rfl, fun z h => by cases h; exact ⟨_, rfl, rfl, fun S h => jx _⟩⟩, Tryz.underlying32, by intro h; cases h⟩
def zgg : TI := ⟨.int .i64, 1, 8, some (.atom (.int .i64 0)), false⟩
theorem z9y : jK Tryz.prog 33 zgg := ⟨⟨Tryz.t33, by kernel_rfl, rfl, rfl, fun z h => by cases h; exact ⟨_, rfl, rfl, fun S h => ze rfl⟩⟩, Tryz.underlying33, by intro h; cases h⟩
def zgf : TI := ⟨.slice 3, 1, 24, some (.osl 1 true []), false⟩
theorem z9x : jK Tryz.prog 40 zgf := ⟨⟨Tryz.t40, by kernel_rfl, rfl, rfl, fun z h => by cases h; exact ⟨_, rfl, rfl, fun S h => jx _⟩⟩, Tryz.underlying40, by intro h; cases h⟩
def zge : TI := ⟨.other, 1, 8, some (.atom .nilFunc), false⟩
theorem z9w : jK Tryz.prog 41 zge := ⟨⟨Tryz.t41, by kernel_rfl, rfl, rfl, fun z h => by cases h; exact ⟨_, rfl, rfl, fun S h => ze rfl⟩⟩, ⟨_, Tryz.underlying41, rfl⟩, by intro h; cases h⟩
def zgd : TI := ⟨.other, 1, 8, some (.atom .nilFunc), false⟩
theorem z9v : jK Tryz.prog 42 zgd := ⟨⟨Tryz.t42, by kernel_rfl, rfl, rfl, fun z h => by cases h; exact ⟨_, rfl, rfl, fun S h => ze rfl⟩⟩, ⟨_, Tryz.underlying42, rfl⟩, by intro h; cases h⟩
def zgc : TI := ⟨.other, 1, 8, some (.atom .nilFunc), false⟩
theorem z9u : jK Tryz.prog 57 zgc := ⟨⟨Tryz.t57, by kernel_rfl, rfl, rfl, fun z h => by cases h; exact ⟨_, rfl, rfl, fun S h => ze rfl⟩⟩, ⟨_, Tryz.underlying57, rfl⟩, by intro h; cases h⟩
def zgb : TI := ⟨.struct [(0, 1), (1, 1)], 2, 16, some (.agg [.atom (.int .i64 0), .atom (.int .i64 0)]), true⟩
theorem z9t : jK Tryz.prog 67 zgb := ⟨⟨Tryz.t67, by kernel_rfl, rfl, rfl, fun z h => by cases h; exact ⟨_, rfl, rfl, fun S h => zH (zc (ze rfl) (zc (ze rfl) (zz)))⟩⟩, ⟨_, Tryz.underlying67, by kernel_rfl, by
  intro f hf
  simp only [List.mem_cons, List.not_mem_nil, or_false] at hf
  rcases hf with rfl | rfl
  ·exact ⟨Tryz.t3, by kernel_rfl⟩
  ·exact ⟨Tryz.t3, by kernel_rfl⟩⟩, fun _ => z1c (Go.Ex.zcp.eqn rfl) rfl rfl rfl rfl⟩
def zga : TI := ⟨.slice 67, 1, 24, some (.osl 2 true []), false⟩
theorem z9s : jK Tryz.prog 68 zga := ⟨⟨Tryz.t68, by kernel_rfl, rfl, rfl, fun z h => by cases h; exact ⟨_, rfl, rfl, fun S h => jx _⟩⟩, Tryz.underlying68, by intro h; cases h⟩
def zg9 : TI := ⟨.other, 1, 8, some (.atom .nilFunc), false⟩
theorem z9r : jK Tryz.prog 73 zg9 := ⟨⟨Tryz.t73, by kernel_rfl, rfl, rfl, fun z h => by cases h; exact ⟨_, rfl, rfl, fun S h => ze rfl⟩⟩, ⟨_, Tryz.underlying73, rfl⟩, by intro h; cases h⟩
def zg8 : TI := ⟨.slice 78, 1, 24, some (.osl 1 true []), false⟩
theorem z9q : jK Tryz.prog 76 zg8 := ⟨⟨Tryz.t76, by kernel_rfl, rfl, rfl, fun z h => by cases h; exact ⟨_, rfl, rfl, fun S h => jx _⟩⟩, Tryz.underlying76, by intro h; cases h⟩
def zg7 : TI := ⟨.int .u64, 1, 8, some (.atom (.int .u64 0)), false⟩
theorem z9p : jK Tryz.prog 78 zg7 := ⟨⟨Tryz.t78, by kernel_rfl, rfl, rfl, fun z h => by cases h; exact ⟨_, rfl, rfl, fun S h => ze rfl⟩⟩, Tryz.underlying78, by intro h; cases h⟩
def zg6 : TI := ⟨.other, 1, 8, some (.atom .nilFunc), false⟩
theorem z9o : jK Tryz.prog 80 zg6 := ⟨⟨Tryz.t80, by kernel_rfl, rfl, rfl, fun z h => by cases h; exact ⟨_, rfl, rfl, fun S h => ze rfl⟩⟩, ⟨_, Tryz.underlying80, rfl⟩, by intro h; cases h⟩
def zg5 : TI := ⟨.slice 32, 1, 24, some (.osl 1 true []), false⟩
theorem z9n : jK Tryz.prog 82 zg5 := ⟨⟨Tryz.t82, by kernel_rfl, rfl, rfl, fun z h => by cases h; exact ⟨_, rfl, rfl, fun S h => jx _⟩⟩, Tryz.underlying82, by intro h; cases h⟩
def zg4 : TI := ⟨.other, 1, 8, some (.atom .nilFunc), false⟩
theorem z9m : jK Tryz.prog 83 zg4 := ⟨⟨Tryz.t83, by kernel_rfl, rfl, rfl, fun z h => by cases h; exact ⟨_, rfl, rfl, fun S h => ze rfl⟩⟩, ⟨_, Tryz.underlying83, rfl⟩, by intro h; cases h⟩
def zg3 : TI := ⟨.other, 1, 8, some (.atom .nilFunc), false⟩
theorem z9l : jK Tryz.prog 84 zg3 := ⟨⟨Tryz.t84, by kernel_rfl, rfl, rfl, fun z h => by cases h; exact ⟨_, rfl, rfl, fun S h => ze rfl⟩⟩, ⟨_, Tryz.underlying84, rfl⟩, by intro h; cases h⟩
def zg2 : TI := ⟨.other, 1, 8, some (.atom .nilFunc), false⟩
theorem z9k : jK Tryz.prog 93 zg2 := ⟨⟨Tryz.t93, by kernel_rfl, rfl, rfl, fun z h => by cases h; exact ⟨_, rfl, rfl, fun S h => ze rfl⟩⟩, ⟨_, Tryz.underlying93, rfl⟩, by intro h; cases h⟩
def zg1 : TI := ⟨.struct [(0, 1), (1, 1)], 2, 16, some (.agg [.atom (.int .i64 0), .atom .nilFunc]), false⟩
theorem z9j : jK Tryz.prog 95 zg1 := ⟨⟨Tryz.t95, by kernel_rfl, rfl, rfl, fun z h => by cases h; exact ⟨_, rfl, rfl, fun S h => zH (zc (ze rfl) (zc (ze rfl) (zz)))⟩⟩, ⟨_, Tryz.underlying95, by kernel_rfl, by
  intro f hf
  simp only [List.mem_cons, List.not_mem_nil, or_false] at hf
  rcases hf with rfl | rfl
  ·exact ⟨Tryz.t33, by kernel_rfl⟩
  ·exact ⟨Tryz.t42, by kernel_rfl⟩⟩, by intro h; cases h⟩
def zg0 : TI := ⟨.array 3 95, 6, 48, some (.agg [.agg [.atom (.int .i64 0), .atom .nilFunc], .agg [.atom (.int .i64 0), .atom .nilFunc], .agg [.atom (.int .i64 0), .atom .nilFunc]]), false⟩
theorem z9i : jK Tryz.prog 96 zg0 := ⟨⟨Tryz.t96, by kernel_rfl, rfl, rfl, fun z h => by cases h; exact ⟨_, rfl, rfl, fun S h => zH (zc (zH (zc (ze rfl) (zc (ze rfl) (zz)))) (zc (zH (zc (ze rfl) (zc (ze rfl) (zz)))) (zc (zH (zc (ze rfl) (zc (ze rfl) (zz)))) (zz))))⟩⟩, Tryz.underlying96, by intro h; cases h⟩
def zfZ : TI := ⟨.other, 1, 8, some (.atom .nilFunc), false⟩
theorem z9h : jK Tryz.prog 97 zfZ := ⟨⟨Tryz.t97, by kernel_rfl, rfl, rfl, fun z h => by cases h; exact ⟨_, rfl, rfl, fun S h => ze rfl⟩⟩, ⟨_, Tryz.underlying97, rfl⟩, by intro h; cases h⟩
def zfY : TI := ⟨.other, 1, 8, some (.atom .nilFunc), false⟩
theorem z9g : jK Tryz.prog 99 zfY := ⟨⟨Tryz.t99, by kernel_rfl, rfl, rfl, fun z h => by cases h; exact ⟨_, rfl, rfl, fun S h => ze rfl⟩⟩, ⟨_, Tryz.underlying99, rfl⟩, by intro h; cases h⟩
def zbI : TI := ⟨.int .u32, 1, 4, some (.atom (.int .u32 0)), false⟩
theorem z79 : jK Tryz.prog 104 zbI := ⟨⟨Tryz.t104, by kernel_rfl, rfl, rfl, fun z h => by cases h; exact ⟨_, rfl, rfl, fun S h => ze rfl⟩⟩, Tryz.underlying104, by intro h; cases h⟩
def zbH : TI := ⟨.int .u64, 1, 8, some (.atom (.int .u64 0)), false⟩
theorem z78 : jK Tryz.prog 106 zbH := ⟨⟨Tryz.t106, by kernel_rfl, rfl, rfl, fun z h => by cases h; exact ⟨_, rfl, rfl, fun S h => ze rfl⟩⟩, Tryz.underlying106, by intro h; cases h⟩
def zbG : TI := ⟨.slice 4, 1, 24, some (.osl 1 true []), false⟩
theorem z75 : jK Tryz.prog 111 zbG := ⟨⟨Tryz.t111, by kernel_rfl, rfl, rfl, fun z h => by cases h; exact ⟨_, rfl, rfl, fun S h => jx _⟩⟩, Tryz.underlying111, by intro h; cases h⟩
def zbF : TI := ⟨.other, 1, 8, some (.atom .nilFunc), false⟩
theorem z74 : jK Tryz.prog 120 zbF := ⟨⟨Tryz.t120, by kernel_rfl, rfl, rfl, fun z h => by cases h; exact ⟨_, rfl, rfl, fun S h => ze rfl⟩⟩, ⟨_, Tryz.underlying120, rfl⟩, by intro h; cases h⟩
def zbE : TI := ⟨.array 64 40, 64, 1536, some (.agg (List.replicate 64 (.dop (nlQ 1 [])))), false⟩
theorem z73 : jK Tryz.prog 125 zbE := ⟨⟨Tryz.t125, by kernel_rfl, rfl, rfl, fun z h => by cases h; exact ⟨_, rfl, by kernel_rfl, fun S h => zaB (zH (WE (z42) 64)) (by kernel_rfl)⟩⟩, Tryz.underlying125, by intro h; cases h⟩
def zbD : TI := ⟨.ptr 154, 1, 8, some (.atom (.pointer none)), false⟩
theorem z72 : jK Tryz.prog 126 zbD := ⟨⟨Tryz.t126, by kernel_rfl, rfl, rfl, fun z h => by cases h; exact ⟨_, rfl, rfl, fun S h => ze rfl⟩⟩, Tryz.underlying126, by intro h; cases h⟩
def zbC : TI := ⟨.other, 1, 8, some (.atom .nilFunc), false⟩
theorem z71 : jK Tryz.prog 127 zbC := ⟨⟨Tryz.t127, by kernel_rfl, rfl, rfl, fun z h => by cases h; exact ⟨_, rfl, rfl, fun S h => ze rfl⟩⟩, ⟨_, Tryz.underlying127, rfl⟩, by intro h; cases h⟩
def zbB : TI := ⟨.other, 1, 8, some (.atom .nilFunc), false⟩
theorem z6Z : jK Tryz.prog 131 zbB := ⟨⟨Tryz.t131, by kernel_rfl, rfl, rfl, fun z h => by cases h; exact ⟨_, rfl, rfl, fun S h => ze rfl⟩⟩, ⟨_, Tryz.underlying131, rfl⟩, by intro h; cases h⟩
def zbA : TI := ⟨.slice 111, 1, 24, some (.osl 1 true []), false⟩
theorem z6Y : jK Tryz.prog 136 zbA := ⟨⟨Tryz.t136, by kernel_rfl, rfl, rfl, fun z h => by cases h; exact ⟨_, rfl, rfl, fun S h => jx _⟩⟩, Tryz.underlying136, by intro h; cases h⟩
def zbz : TI := ⟨.slice 171, 1, 24, some (.osl 2 true []), false⟩
theorem z6X : jK Tryz.prog 144 zbz := ⟨⟨Tryz.t144, by kernel_rfl, rfl, rfl, fun z h => by cases h; exact ⟨_, rfl, rfl, fun S h => jx _⟩⟩, Tryz.underlying144, by intro h; cases h⟩
def zby : TI := ⟨.other, 1, 8, some (.atom .nilFunc), false⟩
theorem z6W : jK Tryz.prog 146 zby := ⟨⟨Tryz.t146, by kernel_rfl, rfl, rfl, fun z h => by cases h; exact ⟨_, rfl, rfl, fun S h => ze rfl⟩⟩, ⟨_, Tryz.underlying146, rfl⟩, by intro h; cases h⟩
def zbx : TI := ⟨.other, 1, 8, some (.atom .nilFunc), false⟩
theorem z6V : jK Tryz.prog 147 zbx := ⟨⟨Tryz.t147, by kernel_rfl, rfl, rfl, fun z h => by cases h; exact ⟨_, rfl, rfl, fun S h => ze rfl⟩⟩, ⟨_, Tryz.underlying147, rfl⟩, by intro h; cases h⟩
def zbw : TI := ⟨.other, 1, 8, some (.atom .nilFunc), false⟩
theorem z6U : jK Tryz.prog 148 zbw := ⟨⟨Tryz.t148, by kernel_rfl, rfl, rfl, fun z h => by cases h; exact ⟨_, rfl, rfl, fun S h => ze rfl⟩⟩, ⟨_, Tryz.underlying148, rfl⟩, by intro h; cases h⟩
def zbv : TI := ⟨.other, 1, 8, some (.atom .nilFunc), false⟩
theorem z6T : jK Tryz.prog 149 zbv := ⟨⟨Tryz.t149, by kernel_rfl, rfl, rfl, fun z h => by cases h; exact ⟨_, rfl, rfl, fun S h => ze rfl⟩⟩, ⟨_, Tryz.underlying149, rfl⟩, by intro h; cases h⟩
def zbu : TI := ⟨.other, 1, 8, some (.atom .nilFunc), false⟩
theorem z6S : jK Tryz.prog 150 zbu := ⟨⟨Tryz.t150, by kernel_rfl, rfl, rfl, fun z h => by cases h; exact ⟨_, rfl, rfl, fun S h => ze rfl⟩⟩, ⟨_, Tryz.underlying150, rfl⟩, by intro h; cases h⟩
def zbt : TI := ⟨.other, 1, 8, some (.atom .nilFunc), false⟩
theorem z6R : jK Tryz.prog 152 zbt := ⟨⟨Tryz.t152, by kernel_rfl, rfl, rfl, fun z h => by cases h; exact ⟨_, rfl, rfl, fun S h => ze rfl⟩⟩, ⟨_, Tryz.underlying152, rfl⟩, by intro h; cases h⟩
def zbs : TI := ⟨.array 64 125, 4096, 98304, some (.agg (List.replicate 64 (.agg (List.replicate 64 (.dop (nlQ 1 [])))))), false⟩
theorem z6Q : jK Tryz.prog 154 zbs := ⟨⟨Tryz.t154, by kernel_rfl, rfl, rfl, fun z h => by cases h; exact ⟨_, rfl, by kernel_rfl, fun S h => zaB (zH (WE (zH (WE (z42) 64)) 64)) (by kernel_rfl)⟩⟩, Tryz.underlying154, by intro h; cases h⟩
def zbr : TI := ⟨.slice 159, 1, 24, some (.osl 4 true []), false⟩
theorem z6P : jK Tryz.prog 155 zbr := ⟨⟨Tryz.t155, by kernel_rfl, rfl, rfl, fun z h => by cases h; exact ⟨_, rfl, rfl, fun S h => jx _⟩⟩, Tryz.underlying155, by intro h; cases h⟩
def zbq : TI := ⟨.struct [(0, 1), (1, 1), (2, 1), (3, 1)], 4, 48, some (.agg [.atom (.int .i64 0), .atom (.int .i64 0), .osl 1 true [], .atom (.bool false)]), false⟩
theorem z6O : jK Tryz.prog 159 zbq := ⟨⟨Tryz.t159, by kernel_rfl, rfl, rfl, fun z h => by cases h; exact ⟨_, rfl, rfl, fun S h => zH (zc (ze rfl) (zc (ze rfl) (zc (jx _) (zc (ze rfl) (zz)))))⟩⟩, ⟨_, Tryz.underlying159, by kernel_rfl, by
  intro f hf
  simp only [List.mem_cons, List.not_mem_nil, or_false] at hf
  rcases hf with rfl | rfl | rfl | rfl
  ·exact ⟨Tryz.t3, by kernel_rfl⟩
  ·exact ⟨Tryz.t3, by kernel_rfl⟩
  ·exact ⟨Tryz.t40, by kernel_rfl⟩
  ·exact ⟨Tryz.t4, by kernel_rfl⟩⟩, by intro h; cases h⟩
def zbp : TI := ⟨.array 64 5, 64, 64, some (.agg (List.replicate 64 (.atom (.int .u8 0)))), false⟩
theorem z6N : jK Tryz.prog 162 zbp := ⟨⟨Tryz.t162, by kernel_rfl, rfl, rfl, fun z h => by cases h; exact ⟨_, rfl, by kernel_rfl, fun S h => zaB (zH (WE (ze rfl) 64)) (by kernel_rfl)⟩⟩, Tryz.underlying162, by intro h; cases h⟩
def zbo : TI := ⟨.other, 1, 8, some (.atom .nilFunc), false⟩
theorem z6M : jK Tryz.prog 166 zbo := ⟨⟨Tryz.t166, by kernel_rfl, rfl, rfl, fun z h => by cases h; exact ⟨_, rfl, rfl, fun S h => ze rfl⟩⟩, ⟨_, Tryz.underlying166, rfl⟩, by intro h; cases h⟩
def zbn : TI := ⟨.other, 1, 8, some (.atom .nilFunc), false⟩
theorem z6L : jK Tryz.prog 168 zbn := ⟨⟨Tryz.t168, by kernel_rfl, rfl, rfl, fun z h => by cases h; exact ⟨_, rfl, rfl, fun S h => ze rfl⟩⟩, ⟨_, Tryz.underlying168, rfl⟩, by intro h; cases h⟩
def zbm : TI := ⟨.other, 1, 8, some (.atom .nilFunc), false⟩
theorem z6K : jK Tryz.prog 169 zbm := ⟨⟨Tryz.t169, by kernel_rfl, rfl, rfl, fun z h => by cases h; exact ⟨_, rfl, rfl, fun S h => ze rfl⟩⟩, ⟨_, Tryz.underlying169, rfl⟩, by intro h; cases h⟩
def zbl : TI := ⟨.array 2 3, 2, 16, some (.agg [.atom (.int .i64 0), .atom (.int .i64 0)]), true⟩
theorem z6J : jK Tryz.prog 171 zbl := ⟨⟨Tryz.t171, by kernel_rfl, rfl, rfl, fun z h => by cases h; exact ⟨_, rfl, rfl, fun S h => zH (zc (ze rfl) (zc (ze rfl) (zz)))⟩⟩, Tryz.underlying171, fun _ => z1c (Go.Ex.zas.eqn rfl) rfl rfl rfl rfl⟩
def zbk : TI := ⟨.other, 1, 8, some (.atom .nilFunc), false⟩
theorem z6I : jK Tryz.prog 174 zbk := ⟨⟨Tryz.t174, by kernel_rfl, rfl, rfl, fun z h => by cases h; exact ⟨_, rfl, rfl, fun S h => ze rfl⟩⟩, ⟨_, Tryz.underlying174, rfl⟩, by intro h; cases h⟩
def zbj : TI := ⟨.other, 1, 8, some (.atom .nilFunc), false⟩
theorem z6H : jK Tryz.prog 187 zbj := ⟨⟨Tryz.t187, by kernel_rfl, rfl, rfl, fun z h => by cases h; exact ⟨_, rfl, rfl, fun S h => ze rfl⟩⟩, ⟨_, Tryz.underlying187, rfl⟩, by intro h; cases h⟩
def zbi : TI := ⟨.other, 1, 8, some (.atom (.map none)), false⟩
theorem z6G : jK Tryz.prog 188 zbi := ⟨⟨Tryz.t188, by kernel_rfl, rfl, rfl, fun z h => by cases h; exact ⟨_, rfl, rfl, fun S h => ze rfl⟩⟩, ⟨_, Tryz.underlying188, rfl⟩, by intro h; cases h⟩
def zbh : TI := ⟨.array 16 171, 32, 256, some (.agg [.agg [.atom (.int .i64 0), .atom (.int .i64 0)], .agg [.atom (.int .i64 0), .atom (.int .i64 0)], .agg [.atom (.int .i64 0), .atom (.int .i64 0)], .agg [.atom (.int .i64 0), .atom (.int .i64 0)], .agg [.atom (.int .i64 0), .atom (.int .i64 0)], .agg [.atom (.int .i64 0), .atom (.int .i64 0)], .agg [.atom (.int .i64 0), .atom (.int .i64 0)], .agg [.atom (.int .i64 0), .atom (.int .i64 0)], .agg [.atom (.int .i64 0), .atom (.int .i64 0)], .agg [.atom (.int .i64 0), .atom (.int .i64 0)], .agg [.atom (.int .i64 0), .atom (.int .i64 0)], .agg [.atom (.int .i64 0), .atom (.int .i64 0)], .agg [.atom (.int .i64 0), .atom (.int .i64 0)], .agg [.atom (.int .i64 0), .atom (.int .i64 0)], .agg [.atom (.int .i64 0), .atom (.int .i64 0)], .agg [.atom (.int .i64 0), .atom (.int .i64 0)]]), true⟩
theorem z6F : jK Tryz.prog 190 zbh := ⟨⟨Tryz.t190, by kernel_rfl, rfl, rfl, fun z h => by cases h; exact ⟨_, rfl, rfl, fun S h => zH (zc (zH (zc (ze rfl) (zc (ze rfl) (zz)))) (zc (zH (zc (ze rfl) (zc (ze rfl) (zz)))) (zc (zH (zc (ze rfl) (zc (ze rfl) (zz)))) (zc (zH (zc (ze rfl) (zc (ze rfl) (zz)))) (zc (zH (zc (ze rfl) (zc (ze rfl) (zz)))) (zc (zH (zc (ze rfl) (zc (ze rfl) (zz)))) (zc (zH (zc (ze rfl) (zc (ze rfl) (zz)))) (zc (zH (zc (ze rfl) (zc (ze rfl) (zz)))) (zc (zH (zc (ze rfl) (zc (ze rfl) (zz)))) (zc (zH (zc (ze rfl) (zc (ze rfl) (zz)))) (zc (zH (zc (ze rfl) (zc (ze rfl) (zz)))) (zc (zH (zc (ze rfl) (zc (ze rfl) (zz)))) (zc (zH (zc (ze rfl) (zc (ze rfl) (zz)))) (zc (zH (zc (ze rfl) (zc (ze rfl) (zz)))) (zc (zH (zc (ze rfl) (zc (ze rfl) (zz)))) (zc (zH (zc (ze rfl) (zc (ze rfl) (zz)))) (zz)))))))))))))))))⟩⟩, Tryz.underlying190, fun _ => z1c (Go.Ex.zar.eqn rfl) rfl rfl rfl rfl⟩
def zbg : TI := ⟨.struct [(0, 1), (1, 32)], 33, 264, some (.agg [.atom (.int .i64 0), .agg [.agg [.atom (.int .i64 0), .atom (.int .i64 0)], .agg [.atom (.int .i64 0), .atom (.int .i64 0)], .agg [.atom (.int .i64 0), .atom (.int .i64 0)], .agg [.atom (.int .i64 0), .atom (.int .i64 0)], .agg [.atom (.int .i64 0), .atom (.int .i64 0)], .agg [.atom (.int .i64 0), .atom (.int .i64 0)], .agg [.atom (.int .i64 0), .atom (.int .i64 0)], .agg [.atom (.int .i64 0), .atom (.int .i64 0)], .agg [.atom (.int .i64 0), .atom (.int .i64 0)], .agg [.atom (.int .i64 0), .atom (.int .i64 0)], .agg [.atom (.int .i64 0), .atom (.int .i64 0)], .agg [.atom (.int .i64 0), .atom (.int .i64 0)], .agg [.atom (.int .i64 0), .atom (.int .i64 0)], .agg [.atom (.int .i64 0), .atom (.int .i64 0)], .agg [.atom (.int .i64 0), .atom (.int .i64 0)], .agg [.atom (.int .i64 0), .atom (.int .i64 0)]]]), true⟩
theorem z3h : jK Tryz.prog 193 zbg := ⟨⟨Tryz.t193, by kernel_rfl, rfl, rfl, fun z h => by cases h; exact ⟨_, rfl, rfl, fun S h => zH (zc (ze rfl) (zc (zH (zc (zH (zc (ze rfl) (zc (ze rfl) (zz)))) (zc (zH (zc (ze rfl) (zc (ze rfl) (zz)))) (zc (zH (zc (ze rfl) (zc (ze rfl) (zz)))) (zc (zH (zc (ze rfl) (zc (ze rfl) (zz)))) (zc (zH (zc (ze rfl) (zc (ze rfl) (zz)))) (zc (zH (zc (ze rfl) (zc (ze rfl) (zz)))) (zc (zH (zc (ze rfl) (zc (ze rfl) (zz)))) (zc (zH (zc (ze rfl) (zc (ze rfl) (zz)))) (zc (zH (zc (ze rfl) (zc (ze rfl) (zz)))) (zc (zH (zc (ze rfl) (zc (ze rfl) (zz)))) (zc (zH (zc (ze rfl) (zc (ze rfl) (zz)))) (zc (zH (zc (ze rfl) (zc (ze rfl) (zz)))) (zc (zH (zc (ze rfl) (zc (ze rfl) (zz)))) (zc (zH (zc (ze rfl) (zc (ze rfl) (zz)))) (zc (zH (zc (ze rfl) (zc (ze rfl) (zz)))) (zc (zH (zc (ze rfl) (zc (ze rfl) (zz)))) (zz)))))))))))))))))) (zz)))⟩⟩, ⟨_, Tryz.underlying193, by kernel_rfl, by
  intro f hf
  simp only [List.mem_cons, List.not_mem_nil, or_false] at hf
  rcases hf with rfl | rfl
  ·exact ⟨Tryz.t3, by kernel_rfl⟩
  ·exact ⟨Tryz.t190, by kernel_rfl⟩⟩, fun _ => z1c (Go.Ex.z5Q.eqn rfl) rfl rfl rfl rfl⟩
def tiL : List (Nat × TI) := [(1, ti1), (2, ti2), (3, ti3), (4, ti4), (5, ti5), (9, ti9), (20, zgk), (28, zgj), (30, zgi), (32, zgh), (33, zgg), (40, zgf), (41, zge), (42, zgd), (57, zgc), (67, zgb), (68, zga), (73, zg9), (76, zg8), (78, zg7), (80, zg6), (82, zg5), (83, zg4), (84, zg3), (93, zg2), (95, zg1), (96, zg0), (97, zfZ), (99, zfY), (104, zbI), (106, zbH), (111, zbG), (120, zbF), (125, zbE), (126, zbD), (127, zbC), (131, zbB), (136, zbA), (144, zbz), (146, zby), (147, zbx), (148, zbw), (149, zbv), (150, zbu), (152, zbt), (154, zbs), (155, zbr), (159, zbq), (162, zbp), (166, zbo), (168, zbn), (169, zbm), (171, zbl), (174, zbk), (187, zbj), (188, zbi), (190, zbh), (193, zbg)]
def yD : TT := fun t => (tiL.find? fun p => p.1 == t).map (·.2)
def z6v (P : Program) : List (Nat × TI) → Prop
 | [] => True
 | p :: l => jK P p.1 p.2 ∧ z6v P l
theorem z6v.mem {P : Program} : ∀ {l : List (Nat × TI)}, z6v P l → ∀ p ∈ l, jK P p.1 p.2
 | p :: _, h, q, hq => by
  rcases List.mem_cons.1 hq with rfl | hq
  ·exact h.1
  ·exact z6v.mem h.2 q hq
 | [], _, _, hq => by cases hq
theorem zb9 : z6v Tryz.prog tiL := ⟨zbf, zbe, zbd, zbc, zbb, zba, z9C, z9B, z9A, z9z, z9y, z9x, z9w, z9v, z9u, z9t, z9s, z9r, z9q, z9p, z9o, z9n, z9m, z9l, z9k, z9j, z9i, z9h, z9g, z79, z78, z75, z74, z73, z72, z71, z6Z, z6Y, z6X, z6W, z6V, z6U, z6T, z6S, z6R, z6Q, z6P, z6O, z6N, z6M, z6L, z6K, z6J, z6I, z6H, z6G, z6F, z3h, trivial⟩
theorem zu : wO Tryz.prog yD := by
 intro t i h
 unfold yD at h
 rw [Option.map_eq_some_iff] at h
 obtain ⟨p, h1, rfl⟩ := h
 have h2 := List.find?_some h1
 have h3 := zb9.mem p (List.mem_of_find?_eq_some h1)
 rw [beq_iff_eq.1 h2] at h3
 exact h3
theorem zhu : yD 1 = some ⟨.other, 1, 8, some (.atom .nilFunc), false⟩ := rfl
theorem zht : yD 2 = some ⟨.int .i64, 1, 8, some (.atom (.int .i64 0)), false⟩ := rfl
theorem zhs : yD 3 = some ⟨.int .i64, 1, 8, some (.atom (.int .i64 0)), false⟩ := rfl
theorem zhr : yD 4 = some ⟨.bool, 1, 1, some (.atom (.bool false)), false⟩ := rfl
theorem zhq : yD 5 = some ⟨.int .u8, 1, 1, some (.atom (.int .u8 0)), false⟩ := rfl
theorem zhp : yD 9 = some ⟨.str, 1, 16, none, false⟩ := rfl
theorem zfJ : yD 20 = some ⟨.other, 1, 16, some (.atom .nilIface), false⟩ := rfl
theorem zfI : yD 28 = some ⟨.slice 68, 1, 24, some (.osl 1 true []), false⟩ := rfl
theorem zfH : yD 30 = some ⟨.struct [(0, 1), (1, 1), (2, 1)], 3, 40, some (.agg [.atom (.int .i64 0), .atom (.int .i64 0), .osl 1 true []]), false⟩ := rfl
theorem zfG : yD 32 = some ⟨.slice 40, 1, 24, some (.osl 1 true []), false⟩ := rfl
theorem zfF : yD 33 = some ⟨.int .i64, 1, 8, some (.atom (.int .i64 0)), false⟩ := rfl
theorem zfE : yD 40 = some ⟨.slice 3, 1, 24, some (.osl 1 true []), false⟩ := rfl
theorem zfD : yD 41 = some ⟨.other, 1, 8, some (.atom .nilFunc), false⟩ := rfl
theorem zfC : yD 42 = some ⟨.other, 1, 8, some (.atom .nilFunc), false⟩ := rfl
theorem zfB : yD 57 = some ⟨.other, 1, 8, some (.atom .nilFunc), false⟩ := rfl
theorem zfA : yD 67 = some ⟨.struct [(0, 1), (1, 1)], 2, 16, some (.agg [.atom (.int .i64 0), .atom (.int .i64 0)]), true⟩ := rfl
theorem zfz : yD 68 = some ⟨.slice 67, 1, 24, some (.osl 2 true []), false⟩ := rfl
theorem zfy : yD 73 = some ⟨.other, 1, 8, some (.atom .nilFunc), false⟩ := rfl
theorem zfx : yD 76 = some ⟨.slice 78, 1, 24, some (.osl 1 true []), false⟩ := rfl
theorem zfw : yD 78 = some ⟨.int .u64, 1, 8, some (.atom (.int .u64 0)), false⟩ := rfl
theorem zfv : yD 80 = some ⟨.other, 1, 8, some (.atom .nilFunc), false⟩ := rfl
theorem zfu : yD 82 = some ⟨.slice 32, 1, 24, some (.osl 1 true []), false⟩ := rfl
theorem zft : yD 83 = some ⟨.other, 1, 8, some (.atom .nilFunc), false⟩ := rfl
theorem zfs : yD 84 = some ⟨.other, 1, 8, some (.atom .nilFunc), false⟩ := rfl
theorem zfr : yD 93 = some ⟨.other, 1, 8, some (.atom .nilFunc), false⟩ := rfl
theorem zfq : yD 95 = some ⟨.struct [(0, 1), (1, 1)], 2, 16, some (.agg [.atom (.int .i64 0), .atom .nilFunc]), false⟩ := rfl
theorem zfp : yD 96 = some ⟨.array 3 95, 6, 48, some (.agg [.agg [.atom (.int .i64 0), .atom .nilFunc], .agg [.atom (.int .i64 0), .atom .nilFunc], .agg [.atom (.int .i64 0), .atom .nilFunc]]), false⟩ := rfl
theorem zfo : yD 97 = some ⟨.other, 1, 8, some (.atom .nilFunc), false⟩ := rfl
theorem zfn : yD 99 = some ⟨.other, 1, 8, some (.atom .nilFunc), false⟩ := rfl
theorem zdb : yD 104 = some ⟨.int .u32, 1, 4, some (.atom (.int .u32 0)), false⟩ := rfl
theorem zda : yD 106 = some ⟨.int .u64, 1, 8, some (.atom (.int .u64 0)), false⟩ := rfl
theorem zd9 : yD 111 = some ⟨.slice 4, 1, 24, some (.osl 1 true []), false⟩ := rfl
theorem zd8 : yD 120 = some ⟨.other, 1, 8, some (.atom .nilFunc), false⟩ := rfl
theorem zd7 : yD 125 = some ⟨.array 64 40, 64, 1536, some (.agg (List.replicate 64 (.dop (nlQ 1 [])))), false⟩ := rfl
theorem zd6 : yD 126 = some ⟨.ptr 154, 1, 8, some (.atom (.pointer none)), false⟩ := rfl
theorem zd5 : yD 127 = some ⟨.other, 1, 8, some (.atom .nilFunc), false⟩ := rfl
theorem zd4 : yD 131 = some ⟨.other, 1, 8, some (.atom .nilFunc), false⟩ := rfl
theorem zd3 : yD 136 = some ⟨.slice 111, 1, 24, some (.osl 1 true []), false⟩ := rfl
theorem zd2 : yD 144 = some ⟨.slice 171, 1, 24, some (.osl 2 true []), false⟩ := rfl
theorem zd1 : yD 146 = some ⟨.other, 1, 8, some (.atom .nilFunc), false⟩ := rfl
theorem zd0 : yD 147 = some ⟨.other, 1, 8, some (.atom .nilFunc), false⟩ := rfl
theorem zcZ : yD 148 = some ⟨.other, 1, 8, some (.atom .nilFunc), false⟩ := rfl
theorem zcY : yD 149 = some ⟨.other, 1, 8, some (.atom .nilFunc), false⟩ := rfl
theorem zcX : yD 150 = some ⟨.other, 1, 8, some (.atom .nilFunc), false⟩ := rfl
theorem zcW : yD 152 = some ⟨.other, 1, 8, some (.atom .nilFunc), false⟩ := rfl
theorem zcV : yD 154 = some ⟨.array 64 125, 4096, 98304, some (.agg (List.replicate 64 (.agg (List.replicate 64 (.dop (nlQ 1 [])))))), false⟩ := rfl
theorem zcU : yD 155 = some ⟨.slice 159, 1, 24, some (.osl 4 true []), false⟩ := rfl
theorem zcT : yD 159 = some ⟨.struct [(0, 1), (1, 1), (2, 1), (3, 1)], 4, 48, some (.agg [.atom (.int .i64 0), .atom (.int .i64 0), .osl 1 true [], .atom (.bool false)]), false⟩ := rfl
theorem zcS : yD 162 = some ⟨.array 64 5, 64, 64, some (.agg (List.replicate 64 (.atom (.int .u8 0)))), false⟩ := rfl
theorem zcR : yD 166 = some ⟨.other, 1, 8, some (.atom .nilFunc), false⟩ := rfl
theorem zcQ : yD 168 = some ⟨.other, 1, 8, some (.atom .nilFunc), false⟩ := rfl
theorem zcP : yD 169 = some ⟨.other, 1, 8, some (.atom .nilFunc), false⟩ := rfl
theorem zcO : yD 171 = some ⟨.array 2 3, 2, 16, some (.agg [.atom (.int .i64 0), .atom (.int .i64 0)]), true⟩ := rfl
theorem zcN : yD 174 = some ⟨.other, 1, 8, some (.atom .nilFunc), false⟩ := rfl
theorem zcM : yD 187 = some ⟨.other, 1, 8, some (.atom .nilFunc), false⟩ := rfl
theorem zcL : yD 188 = some ⟨.other, 1, 8, some (.atom (.map none)), false⟩ := rfl
theorem zcK : yD 190 = some ⟨.array 16 171, 32, 256, some (.agg [.agg [.atom (.int .i64 0), .atom (.int .i64 0)], .agg [.atom (.int .i64 0), .atom (.int .i64 0)], .agg [.atom (.int .i64 0), .atom (.int .i64 0)], .agg [.atom (.int .i64 0), .atom (.int .i64 0)], .agg [.atom (.int .i64 0), .atom (.int .i64 0)], .agg [.atom (.int .i64 0), .atom (.int .i64 0)], .agg [.atom (.int .i64 0), .atom (.int .i64 0)], .agg [.atom (.int .i64 0), .atom (.int .i64 0)], .agg [.atom (.int .i64 0), .atom (.int .i64 0)], .agg [.atom (.int .i64 0), .atom (.int .i64 0)], .agg [.atom (.int .i64 0), .atom (.int .i64 0)], .agg [.atom (.int .i64 0), .atom (.int .i64 0)], .agg [.atom (.int .i64 0), .atom (.int .i64 0)], .agg [.atom (.int .i64 0), .atom (.int .i64 0)], .agg [.atom (.int .i64 0), .atom (.int .i64 0)], .agg [.atom (.int .i64 0), .atom (.int .i64 0)]]), true⟩ := rfl
theorem zcJ : yD 193 = some ⟨.struct [(0, 1), (1, 32)], 33, 264, some (.agg [.atom (.int .i64 0), .agg [.agg [.atom (.int .i64 0), .atom (.int .i64 0)], .agg [.atom (.int .i64 0), .atom (.int .i64 0)], .agg [.atom (.int .i64 0), .atom (.int .i64 0)], .agg [.atom (.int .i64 0), .atom (.int .i64 0)], .agg [.atom (.int .i64 0), .atom (.int .i64 0)], .agg [.atom (.int .i64 0), .atom (.int .i64 0)], .agg [.atom (.int .i64 0), .atom (.int .i64 0)], .agg [.atom (.int .i64 0), .atom (.int .i64 0)], .agg [.atom (.int .i64 0), .atom (.int .i64 0)], .agg [.atom (.int .i64 0), .atom (.int .i64 0)], .agg [.atom (.int .i64 0), .atom (.int .i64 0)], .agg [.atom (.int .i64 0), .atom (.int .i64 0)], .agg [.atom (.int .i64 0), .atom (.int .i64 0)], .agg [.atom (.int .i64 0), .atom (.int .i64 0)], .agg [.atom (.int .i64 0), .atom (.int .i64 0)], .agg [.atom (.int .i64 0), .atom (.int .i64 0)]]]), true⟩ := rfl
attribute [go_sem] zhu zht zhs zhr zhq zhp zfJ zfI zfH zfG zfF zfE zfD zfC zfB zfA zfz zfy zfx zfw zfv zfu zft zfs zfr zfq zfp zfo zfn zdb zda zd9 zd8 zd7 zd6 zd5 zd4 zd3 zd2 zd1 zd0 zcZ zcY zcX zcW zcV zcU zcT zcS zcR zcQ zcP zcO zcN zcM zcL zcK zcJ
end Go.Own

namespace Go.Proofs
open Go.RowKit Go.Lib
theorem Tryz.groI : (Tryz.prog.info? 3).map (fun i => (i.size, i.bytes, i.zero)) = some (1, 8, some (.int .i64 0)) := by kernel_rfl
set_option maxHeartbeats 4000000 in
set_option maxRecDepth 100000 in
theorem Tryz.gro_run (p : Option Addr) (n : Nat) (w : World) (h0 : 0 < n) (h1 : n ≤ 1000000) :
  Calls Tryz.prog 168 #[.slice p 0 0, .int .i64 n] w fun e w' =>
   e = .returned (.slice (some ⟨w.heap.size, 0, none⟩) 0 (grownCap w n 0 3)) ∧
   w' = w.drew.alloc (.cells (#[] ++ Builtin.zeroCells (Value.int .i64 0).cells n ++ Builtin.zeroCells (Value.int .i64 0).cells (grownCap w n 0 3 - n)) 3) := by
 obtain ⟨i0, hi0, hi⟩ := Option.map_eq_some_iff.1 Tryz.groI
 obtain ⟨hs0, hi⟩ := Prod.mk.inj hi
 obtain ⟨hb0, hz0⟩ := Prod.mk.inj hi
 have mixed : Tryz.prog.follows .mixedOrders = true := by kernel_rfl
 have h1' : ¬ ((n : Int) < 0) := by omega
 have h3 : wrap64 ((n : Int)) = (n : Int) := by unfold wrap64; omega
 have h4 : (n : Int) > 0 := by omega
 have hold : (Builtin.firstCells i0.size 0 (.slice p 0 0)).run Tryz.prog w.drew = .ok ([] : List Value).toArray w.drew := by
  cases p with
  | none => exact run_firstCells_none w.drew i0.size 0 0 0
  | some a => exact run_firstCells_some w.drew i0.size 0 a 0 0 [] (by simp) (fun j v hj => by simp at hj)
 have hrz : ∀ ty, (Builtin.append_ #[40, 3] ty #[.slice p 0 0, .int .i64 (n : Int)]).run Tryz.prog w =
   .ok (.slice (some ⟨w.heap.size, 0, none⟩) n (grownCap w n 0 3)) (w.drew.alloc (.cells (#[] ++ Builtin.zeroCells (Value.int .i64 0).cells n ++ Builtin.zeroCells (Value.int .i64 0).cells (grownCap w n 0 3 - n)) 3)) := fun ty => by
  have h := Lib.run_append_grow_zeros w 40 3 ty 3 i0 (.int .i64 0) .i64 .i64 Tryz.underlying40 Tryz.underlying3 hi0 hz0 p 0 0 [] hold n h0 (by omega) (by omega) (by omega)
   (by rw [hb0]; omega)
   (by rw [Nat.zero_add]; exact growslice_fits h0 (by rw [hb0]; omega))
  rw [Nat.zero_add] at h
  exact h
 have hGn : n ≤ grownCap w n 0 3 := grownCap_ge w _ _ _
 obtain ⟨G, hG⟩ : ∃ G, G = grownCap w n 0 3 := ⟨_, rfl⟩
 rw [← hG] at hrz hGn ⊢
 have hG63 : G ≤ 9223372036854775807 := by
  have := grownCap_le_maxLen w n 0 3 (by unfold maxLen; omega)
  rw [← hG] at this
  unfold maxLen at this
  omega
 clear hold hG
 go_enter Tryz.func168, Tryz.ntmps168
 cases p with
 | none =>
  go_wp2_with (at_builtin; refine Lib.wpList_append_run _ rfl _ _ _ _ rfl _ _ rfl rfl _ _ (hrz _) ?_)
  all_goals (go_ret; exact ⟨rfl, rfl⟩)
 | some a =>
  obtain ⟨ab, ao, asp⟩ := a
  go_wp2_with (at_builtin; refine Lib.wpList_append_run _ rfl _ _ _ _ rfl _ _ rfl rfl _ _ (hrz _) ?_)
  all_goals (go_ret; exact ⟨rfl, rfl⟩)
end Go.Proofs
namespace Go.Own
open Go.Proofs
theorem z5T (n : Int) (h0 : 0 < n) (h1 : n ≤ 1000000) : Xl Tryz.prog 168 [.sl 1 true [], eI .i64 n] (.osl 1 false []) := by
 refine ⟨⟨_, Tryz.func168, by kernel_rfl, by kernel_rfl⟩, ?_⟩
 intro S w vs F hS hq hF
 obtain ⟨m, rfl⟩ : ∃ m : Nat, n = (m : Int) := ⟨n.toNat, by omega⟩
 match vs, hq with
 | [u, v], q =>
  obtain ⟨F1, F2, rfl, q1, F3, F4, rfl, q2, q3⟩ := q
  have e3 : F4 = [] := q3
  subst e3
  have d : ∀ {x : A} {u : Value} {F : List Nat}, x.isD = true → Has S w.heap x u F → uP S x u ∧ F = [] := by
   intro x u F hx q
   rcases q with ⟨q, rfl⟩ | ⟨cs, q1, q2, q3⟩
   ·exact ⟨q.rep1 hx, rfl⟩
   ·obtain ⟨r, rfl⟩ := q1.isD hx
    exact ⟨⟨cs, r, q3⟩, rfl⟩
  obtain ⟨⟨cs, r1, e1⟩, rfl⟩ := d rfl q1
  obtain ⟨⟨ds, r2, e2⟩, rfl⟩ := d rfl q2
  simp only [Rep] at r1
  obtain ⟨p, c, rfl, hc, _⟩ := r1
  obtain rfl : c = 0 := by simpa using hc
  have hv : v = .int .i64 (m : Int) := by
   rw [e2]
   obtain ⟨rfl, _⟩ : ds = [.int .i64 (m : Int)] ∧ _ := by simpa only [eI, Rep] using r2
   rfl
  have hu : u = .slice p 0 0 := by rw [e1]; rfl
  subst hv hu
  refine (Tryz.gro_run p m w (by omega) (by omega)).mono ?_
  rintro e' w' ⟨rfl, rfl⟩
  have hsz : ∀ k, (Builtin.zeroCells (Value.int .i64 0).cells k).size = k := fun k => by simp [Builtin.zeroCells, Value.cells]
  have hGn : m ≤ grownCap w m 0 3 := grownCap_ge w _ _ _
  have hGm := grownCap_le_maxLen w m 0 3 (by unfold maxLen; omega)
  have hfr : ∀ o, S w.heap.size o = none := fun o => by
   cases hh : S w.heap.size o with
   | none => rfl
   | some x => have := hS _ _ _ hh; simp [zZ] at this
  generalize grownCap w m 0 3 = G at hGn hGm ⊢
  refine ⟨_, S, [w.heap.size], rfl, ((YQ.refl _ _).drew).alloc (.inl (Nat.le_refl _)) _, fun _ _ _ h => h, fun _ _ _ _ => rfl, ⟨fun b o v h => ?_, hS.gok⟩, .inr ⟨[.slice (some ⟨w.heap.size, 0, none⟩) 0 G], ?_, by simp, rfl⟩, by simp, by simp⟩
  ·have h' := hS _ _ _ h
   have hne : b ≠ w.heap.size := by rintro rfl; rw [hfr] at h; cases h
   show zZ (w.heap.push _) b o = some v
   unfold zZ at h' ⊢
   rw [Array.getElem?_push, if_neg hne]
   exact h'
  ·simp only [zC]
   refine ⟨_, G, rfl, by simp, by simp, hGm, by simp, .inr ⟨w.heap.size, _, 3, [], [], rfl, by show (w.heap.push _)[w.heap.size]? = _; rw [Array.getElem?_push, if_pos rfl], ?_, by simp, ⟨rfl, rfl⟩, rfl, hfr⟩⟩
   simp only [Array.size_append, hsz, Array.size_empty]
   omega
structure wn (α : Type) where
 e0 : α
 e1 : α
 deriving DecidableEq
instance {α : Type} [BEq α] : BEq (wn α) := ⟨fun x y => (x.e0 == y.e0) && (x.e1 == y.e1)⟩
section
variable {α : Type}
def UM (f : α → A) (x : wn α) : A := .agg [f x.e0, f x.e1]
instance (f : α → A) [h : z4b f] : z4b (UM f) := ⟨fun x => by simp [UM, A.isD, A.areD, h.isD]⟩
instance (f g : α → A) [h : z02 f g] : z02 (UM f) (UM g) := ⟨fun x => by simp [UM, A.loose, A.looses, h.lo]⟩
instance (f g : α → A) [h : z1s f g] : z1s (UM f) (UM g) := ⟨fun x => by simp [UM, A.live, A.lives, h.live], fun x => by simp [UM, A.shut, A.shuts, h.sh]⟩
instance (f : α → A) [h : Zt f] : Zt (UM f) := ⟨fun x y q => by
 simp only [UM, A.agg.injEq, List.cons.injEq, and_true] at q
 cases x; cases y
 simp only [wn.mk.injEq]
 exact ⟨h.inj _ _ q.1, h.inj _ _ q.2⟩⟩
end
structure yW (α : Type) where
 e0 : α
 e1 : α
 e2 : α
 e3 : α
 e4 : α
 e5 : α
 e6 : α
 e7 : α
 e8 : α
 e9 : α
 e10 : α
 e11 : α
 e12 : α
 e13 : α
 e14 : α
 e15 : α
 deriving DecidableEq
instance {α : Type} [BEq α] : BEq (yW α) := ⟨fun x y => (x.e0 == y.e0) && (x.e1 == y.e1) && (x.e2 == y.e2) && (x.e3 == y.e3) && (x.e4 == y.e4) && (x.e5 == y.e5) && (x.e6 == y.e6) && (x.e7 == y.e7) && (x.e8 == y.e8) && (x.e9 == y.e9) && (x.e10 == y.e10) && (x.e11 == y.e11) && (x.e12 == y.e12) && (x.e13 == y.e13) && (x.e14 == y.e14) && (x.e15 == y.e15)⟩
section
variable {α : Type}
def z65 (f : α → A) (x : yW α) : A := .agg [f x.e0, f x.e1, f x.e2, f x.e3, f x.e4, f x.e5, f x.e6, f x.e7, f x.e8, f x.e9, f x.e10, f x.e11, f x.e12, f x.e13, f x.e14, f x.e15]
end
section
variable {α : Type}
def yW.toL (x : yW α) : List α := [x.e0, x.e1, x.e2, x.e3, x.e4, x.e5, x.e6, x.e7, x.e8, x.e9, x.e10, x.e11, x.e12, x.e13, x.e14, x.e15]
def yW.ofL : List α → yW α → yW α
 | [x0, x1, x2, x3, x4, x5, x6, x7, x8, x9, x10, x11, x12, x13, x14, x15], _ => ⟨x0, x1, x2, x3, x4, x5, x6, x7, x8, x9, x10, x11, x12, x13, x14, x15⟩
 | _, d => d
theorem yW.toL_ofL (l : List α) (d : yW α) (h : l.length = 16) : (yW.ofL l d).toL = l := by
 match l, h with
 | [x0, x1, x2, x3, x4, x5, x6, x7, x8, x9, x10, x11, x12, x13, x14, x15], _ => rfl
def yW.setI (x : yW α) (i : Int) (v : α) : yW α := yW.ofL (x.toL.set i.toNat v) x
theorem yW.setL (f : α → A) (x : yW α) (i : Int) (v : α) : (x.toL.map f).set i.toNat (f v) = ((yW.setI x i v).toL).map f := by
 unfold yW.setI
 rw [yW.toL_ofL _ _ (by simp [yW.toL]), List.map_set]
end
structure z8 where
 To : Int
 Out : Int
def uU (f0 : Int → A) (f1 : Int → A) (x : z8) : A := .agg [f0 x.To, f1 x.Out]
instance (f0 : Int → A) (f1 : Int → A) (g0 : Int → A) (g1 : Int → A) [h0 : z02 f0 g0] [h1 : z02 f1 g1] : z02 (uU f0 f1) (uU g0 g1) := ⟨fun x => by simp [uU, A.loose, A.looses, h0.lo, h1.lo]⟩
instance (f0 : Int → A) (f1 : Int → A) (g0 : Int → A) (g1 : Int → A) [h0 : z1s f0 g0] [h1 : z1s f1 g1] : z1s (uU f0 f1) (uU g0 g1) := ⟨fun x => by simp [uU, A.live, A.lives, h0.live, h1.live], fun x => by simp [uU, A.shut, A.shuts, h0.sh, h1.sh]⟩
instance (f0 : Int → A) (f1 : Int → A) [h0 : Zt f0] [h1 : Zt f1] : Zt (uU f0 f1) := ⟨fun x y h => by
 simp only [uU, A.agg.injEq, List.cons.injEq, and_true] at h
 cases x; cases y
 simp only [z8.mk.injEq]
 exact ⟨h0.inj _ _ h.1, h1.inj _ _ h.2⟩⟩
structure z6 where
 Inputs : Int
 Outputs : Int
 Rows : List (List z8)
def wa (f0 : Int → A) (f1 : Int → A) (f2 : List (List z8) → A) (x : z6) : A := .agg [f0 x.Inputs, f1 x.Outputs, f2 x.Rows]
instance (f0 : Int → A) (f1 : Int → A) (f2 : List (List z8) → A) (g0 : Int → A) (g1 : Int → A) (g2 : List (List z8) → A) [h0 : z02 f0 g0] [h1 : z02 f1 g1] [h2 : z02 f2 g2] : z02 (wa f0 f1 f2) (wa g0 g1 g2) := ⟨fun x => by simp [wa, A.loose, A.looses, h0.lo, h1.lo, h2.lo]⟩
instance (f0 : Int → A) (f1 : Int → A) (f2 : List (List z8) → A) [h0 : Zt f0] [h1 : Zt f1] [h2 : Zt f2] : Zt (wa f0 f1 f2) := ⟨fun x y h => by
 simp only [wa, A.agg.injEq, List.cons.injEq, and_true] at h
 cases x; cases y
 simp only [z6.mk.injEq]
 exact ⟨h0.inj _ _ h.1, h1.inj _ _ h.2.1, h2.inj _ _ h.2.2⟩⟩
structure zw where
 block_ : Int
 signature_ : yW (wn Int)
instance : BEq zw := ⟨fun x y => (x.block_ == y.block_) && (x.signature_ == y.signature_)⟩
def XF (f0 : Int → A) (f1 : yW (wn Int) → A) (x : zw) : A := .agg [f0 x.block_, f1 x.signature_]
structure zA where
 S : Int
 T : Int
 Word : List Int
 Apart : Bool
def zL (f0 : Int → A) (f1 : Int → A) (f2 : List Int → A) (f3 : Bool → A) (x : zA) : A := .agg [f0 x.S, f1 x.T, f2 x.Word, f3 x.Apart]
instance (f0 : Int → A) (f1 : Int → A) (f2 : List Int → A) (f3 : Bool → A) [h0 : z4b f0] [h1 : z4b f1] [h2 : z4b f2] [h3 : z4b f3] : z4b (zL f0 f1 f2 f3) := ⟨fun x => by simp [zL, A.isD, A.areD, h0.isD, h1.isD, h2.isD, h3.isD]⟩
instance (f0 : Int → A) (f1 : Int → A) (f2 : List Int → A) (f3 : Bool → A) (g0 : Int → A) (g1 : Int → A) (g2 : List Int → A) (g3 : Bool → A) [h0 : z1s f0 g0] [h1 : z1s f1 g1] [h2 : z1s f2 g2] [h3 : z1s f3 g3] : z1s (zL f0 f1 f2 f3) (zL g0 g1 g2 g3) := ⟨fun x => by simp [zL, A.live, A.lives, h0.live, h1.live, h2.live, h3.live], fun x => by simp [zL, A.shut, A.shuts, h0.sh, h1.sh, h2.sh, h3.sh]⟩
instance : zgM (K := zw) (XF (eI .i64) (z65 (UM (eI .i64)))) := ⟨fun x y => by
 obtain ⟨_, ⟨⟨_, _⟩, ⟨_, _⟩, ⟨_, _⟩, ⟨_, _⟩, ⟨_, _⟩, ⟨_, _⟩, ⟨_, _⟩, ⟨_, _⟩, ⟨_, _⟩, ⟨_, _⟩, ⟨_, _⟩, ⟨_, _⟩, ⟨_, _⟩, ⟨_, _⟩, ⟨_, _⟩, ⟨_, _⟩⟩⟩ := x
 obtain ⟨_, ⟨⟨_, _⟩, ⟨_, _⟩, ⟨_, _⟩, ⟨_, _⟩, ⟨_, _⟩, ⟨_, _⟩, ⟨_, _⟩, ⟨_, _⟩, ⟨_, _⟩, ⟨_, _⟩, ⟨_, _⟩, ⟨_, _⟩, ⟨_, _⟩, ⟨_, _⟩, ⟨_, _⟩, ⟨_, _⟩⟩⟩ := y
 simp only [z65, UM, XF, eI, Jw, z15, z15.keyLs, zN, BEq.beq, Option.map_some, Option.some.injEq, Value.agg.injEq, List.cons_append, List.nil_append, List.append_nil, Array.mk.injEq, List.cons.injEq, Value.int.injEq, true_and, and_true, Bool.and_eq_true, decide_eq_true_eq, and_assoc]⟩
def z4u : ArN 64 Int := ⟨zfh, rfl⟩
def vA : Option z8 :=
 some (z8.mk (-1) (-1))
def k0 (m_ : z6) (x_ : z8) : Option Bool :=
 Option.bind (vA) fun r_ =>
 bif (x_.To == r_.To) && ((x_.Out == r_.Out) && true) then (
  some true)
 else (
  bif decide (x_.To ≥ 0) then (
   bif decide (x_.To < ((m_.Rows.length : Nat) : Int)) then (
    bif decide (x_.Out ≥ 0) then (
     some (decide (x_.Out < m_.Outputs)))
    else (
     some false))
   else (
    some false))
  else (
   some false))
def jt (x_ : z8) (x1 : z6) : Option Bool :=
 Option.bind (k0 x1 x_) fun r_ =>
 some (!r_)
def xa : Option Int :=
 some (-1)
def zJ (s_ : List z8) (f_ : z6) (x8 : Int) : Option (LR Int (Unit ⊕ Int)) :=
 bif decide (x8 < ((s_.length : Nat) : Int)) then (
  Option.bind (idx s_ x8) fun s__e =>
  Option.bind (jt s__e f_) fun r_ =>
  bif r_ then (
   some (.done (.inr x8)))
  else (
   some (.next (w64 (x8 + 1)))))
 else (
  some (.done (.inl ())))
def yj (s_ : List z8) (f_ : z6) : Option Int :=
 Option.bind (loop (fun s => zJ s_ f_ s) 0) fun t2 =>
 match t2 with
 | .inl p => xa
 | .inr p => some p
def zQ (s_ : List z8) (f_ : z6) : Option Bool :=
 Option.bind (yj s_ f_) fun r_ =>
 some (decide (r_ ≥ 0))
def kC : Option Int :=
 some 0
def wR (m_ : z6) (x36 : Int) : Option (LR Int (Unit ⊕ Int)) :=
 bif decide (x36 < ((m_.Rows.length : Nat) : Int)) then (
  Option.bind (idx m_.Rows x36) fun Row_e =>
  bif ((Row_e.length : Nat) : Int) != m_.Inputs then (
   some (.done (.inr 1)))
  else (
   Option.bind (zQ Row_e m_) fun r_ =>
   bif r_ then (
    some (.done (.inr 1)))
   else (
    some (.next (w64 (x36 + 1))))))
 else (
  some (.done (.inl ())))
def xF (m_ : z6) : Option Int :=
 bif decide (m_.Inputs > 16) then (
  some 3)
 else (
  bif decide (m_.Outputs > 16) then (
   some 3)
  else (
   bif decide (((m_.Rows.length : Nat) : Int) > 64) then (
    some 3)
   else (
    bif decide (m_.Inputs < 1) then (
     some 1)
    else (
     bif decide (m_.Outputs < 1) then (
      some 1)
     else (
      bif decide (((m_.Rows.length : Nat) : Int) < 1) then (
       some 1)
      else (
       Option.bind (loop (fun s => wR m_ s) 0) fun t2 =>
       match t2 with
       | .inl p => kC
       | .inr p => some p))))))
def jW (m_ : z6) : Option ((Int × z6) × (Int × z6) × (Int × z6)) :=
 some ((9, m_), (11, m_), (12, m_))
def kO (m_ : z6) : Option z6 :=
 some m_
def ur {σ : Type} (x10 : Int) (sg2 : σ) : Option (LR (σ × Int) σ) :=
 some (.next (sg2, w64 (x10 + 1)))
def xZ {σ : Type} (yy : σ → (wn Int × z8) → Option (σ × Bool)) (x10 : Int) (Row_e : List z8) (sg3 : σ) (x17 : Int) : Option (LR (σ × Int) (σ ⊕ σ)) :=
 bif decide (x17 < ((Row_e.length : Nat) : Int)) then (
  Option.bind (idx Row_e x17) fun Row_e_e =>
  Option.bind (yy sg3 ((wn.mk x10 x17), Row_e_e)) fun yr =>
  bif !yr.2 then (
   some (.done (.inr yr.1)))
  else (
   some (.next (yr.1, w64 (x17 + 1)))))
 else (
  some (.done (.inl sg3)))
def wZ {σ : Type} (x0 : z6) (yy : σ → (wn Int × z8) → Option (σ × Bool)) (sg1 : σ) (x10 : Int) : Option (LR (σ × Int) σ) :=
 bif decide (x10 < ((x0.Rows.length : Nat) : Int)) then (
  Option.bind (idx x0.Rows x10) fun Row_e =>
  Option.bind (loop (fun s => xZ yy x10 Row_e s.1 s.2) (sg1, 0)) fun t3 =>
  match t3 with
  | .inl p => ur x10 p
  | .inr p => some (.done p))
 else (
  some (.done sg1))
def uL (x0 : z6) {σ : Type} (yy : σ → (wn Int × z8) → Option (σ × Bool)) (sg : σ) : Option σ :=
 Option.bind (loop (fun s => wZ x0 yy s.1 s.2) (sg, 0)) fun t1 =>
 some t1
def wJ (s_ : List (wn Int)) : Option (List (wn Int)) :=
 gd ((0 : Int) ≤ 0 ∧ (0 : Int) ≤ ((s_.length : Nat) : Int) ∧ (((s_.length : Nat) : Int) : Int) ≤ ((s_.length : Nat) : Int) ∧ (((s_.length : Nat) : Int) : Int) ≤ ((s_.length : Nat) : Int)) <|
 some ((s_.drop 0).take (((s_.length : Nat) : Int).toNat - 0))
def vz (out : List (wn Int)) : Option (List (wn Int)) :=
 Option.bind (wJ out) fun r_ =>
 some r_
def yg (out1 : List (wn Int)) (x8 : wn Int) (x9 : z8) : Option (LR (List (wn Int)) Empty) :=
 Option.bind (vA) fun r_2 =>
 bif (x9.To == r_2.To) && ((x9.Out == r_2.Out) && true) then (
  gd (out1.length + ([x8] : List (wn Int)).length ≤ 4294967296) <|
  some (.next (out1 ++ ([x8] : List (wn Int)))))
 else (
  some (.next out1))
def qd (m_ : z6) : Option (List (wn Int)) :=
 Option.bind (kO m_) fun r_1 =>
 Option.bind (uL r_1 (yOf (fun s x => yg s x.1 x.2)) (.next ([] : List (wn Int)))) fun t2 =>
 match t2 with
 | .next out1 => (
  vz out1)
 | .done z => nomatch z
def ub (m_ : z6) : Option (Bool × Int) :=
 Option.bind (xF m_) fun r_ =>
 bif r_ != 0 then (
  some (false, r_))
 else (
  Option.bind (qd m_) fun r_1 =>
  some (((r_1.length : Nat) : Int) == 0, 0))
def qX (x0 : z6) : Option Bool :=
 Option.bind (ub x0) fun r_ =>
 some r_.1
def yT (rc_ : Int → (List Bool) → z6 → Option (List Bool × z6)) (Row_e : List z8) (x1 : List Bool) (x2_Inputs : Int) (x2_Outputs : Int) (x2_Rows : List (List z8)) (x24 : Int) : Option (LR (List Bool × Int × Int × List (List z8) × Int) ((List Bool × z6))) :=
 bif decide (x24 < ((Row_e.length : Nat) : Int)) then (
  Option.bind (idx Row_e x24) fun Row_e_e =>
  Option.bind (rc_ Row_e_e.To x1 (z6.mk x2_Inputs x2_Outputs x2_Rows)) fun r_ =>
  some (.next (r_.1, r_.2.Inputs, r_.2.Outputs, r_.2.Rows, w64 (x24 + 1))))
 else (
  some (.done (x1, (z6.mk x2_Inputs x2_Outputs x2_Rows))))
def xU (rc_ : Int → (List Bool) → z6 → Option (List Bool × z6)) (s_ : Int) (y0 : List Bool) (y1 : z6) : Option (List Bool × z6) :=
 bif s_ == (-1) then (
  some (y0, y1))
 else (
  Option.bind (idx y0 s_) fun y_e =>
  bif y_e then (
   some (y0, y1))
  else (
   Option.bind (idx y0 s_) fun y_e1 =>
   Option.bind (idx y1.Rows s_) fun Row_e =>
   Option.bind (loop (fun s => yT rc_ Row_e s.1 s.2.1 s.2.2.1 s.2.2.2.1 s.2.2.2.2) ((y0.set s_.toNat true), y1.Inputs, y1.Outputs, y1.Rows, 0)) fun t1 =>
   some t1))
def y7 (fu : Nat) : Int → (List Bool) → z6 → Option (List Bool × z6) := Nat.rec (motive := fun _ => Int → (List Bool) → z6 → Option (List Bool × z6)) (fun _ _ _ => none) (fun _ ih => xU ih) fu
def vI : Option Int :=
 some (-1)
def yk (s_ : List Bool) (v_ : Bool) (x8 : Int) : Option (LR Int (Unit ⊕ Int)) :=
 bif decide (x8 < ((s_.length : Nat) : Int)) then (
  Option.bind (idx s_ x8) fun s__e =>
  bif v_ == s__e then (
   some (.done (.inr x8)))
  else (
   some (.next (w64 (x8 + 1)))))
 else (
  some (.done (.inl ())))
def va (s_ : List Bool) (v_ : Bool) : Option Int :=
 Option.bind (loop (fun s => yk s_ v_ s) 0) fun t2 =>
 match t2 with
 | .inl p => vI
 | .inr p => some p
def xp (s_ : List Bool) (v_ : Bool) : Option Bool :=
 Option.bind (va s_ v_) fun r_ =>
 some (decide (r_ ≥ 0))
def vB (m_ : z6) : Option (Bool × Int) :=
 Option.bind (xF m_) fun r_ =>
 bif r_ != 0 then (
  some (false, r_))
 else (
  gd ((0 : Int) ≤ ((m_.Rows.length : Nat) : Int) ∧ (((m_.Rows.length : Nat) : Int) : Int) ≤ 4294967296) <|
  Option.bind (y7 fuel 0 (List.replicate ((m_.Rows.length : Nat) : Int).toNat false) m_) fun r_1 =>
  Option.bind (xp r_1.1 false) fun r_2 =>
  some (!r_2, 0))
def qW (x0 : z6) : Option Bool :=
 Option.bind (vB x0) fun r_ =>
 some r_.1
def kN (m_ : z6) : Option z6 :=
 some m_
def jV (out : yW (wn Int)) : Option (yW (wn Int)) :=
 some out
def qD (x16 : Int) (out2 : yW (wn Int)) : Option (LR (yW (wn Int) × Int) (yW (wn Int))) :=
 some (.next (out2, w64 (x16 + 1)))
def qC (p_ : List Int) (Row_e : List z8) (out1 : yW (wn Int)) (x16 : Int) : Option (LR (yW (wn Int) × Int) (yW (wn Int))) :=
 bif decide (x16 < ((Row_e.length : Nat) : Int)) then (
  Option.bind (idx Row_e x16) fun Row_e_e =>
  Option.bind (idx (yW.toL out1) x16) fun cell =>
  Option.bind (some (yW.setI out1 x16 (wn.mk Row_e_e.Out (-1)))) fun arr =>
  bif Row_e_e.To != (-1) then (
   Option.bind (idx p_ Row_e_e.To) fun p__e =>
   Option.bind (idx (yW.toL arr) x16) fun cell1 =>
   Option.bind (some (yW.setI arr x16 (wn.mk cell1.e0 p__e))) fun arr1 =>
   qD x16 arr1)
  else (
   qD x16 arr))
 else (
  some (.done out1))
def qE (m_ : z6) (p_ : List Int) (s_ : Int) : Option (yW (wn Int)) :=
 Option.bind (idx m_.Rows s_) fun Row_e =>
 Option.bind (loop (fun s => qC p_ Row_e s.1 s.2) ((yW.mk (wn.mk 0 0) (wn.mk 0 0) (wn.mk 0 0) (wn.mk 0 0) (wn.mk 0 0) (wn.mk 0 0) (wn.mk 0 0) (wn.mk 0 0) (wn.mk 0 0) (wn.mk 0 0) (wn.mk 0 0) (wn.mk 0 0) (wn.mk 0 0) (wn.mk 0 0) (wn.mk 0 0) (wn.mk 0 0)), 0)) fun t2 =>
 jV t2
def q9 (out : List Int) : Option (List Int) :=
 some out
def wu (out1 : List Int) (x18 : Int) (p__e : Int) (r_ : yW (wn Int)) (names1 : List (zw × Int)) : Option (LR ((List (zw × Int)) × List Int × Int) (List Int)) :=
 Option.bind (some ((QM names1 (zw.mk p__e r_)).getD 0)) fun val =>
 Option.bind (idx out1 x18) fun out_e =>
 some (.next (names1, (out1.set x18.toNat val), w64 (x18 + 1)))
def vw (m_ : z6) (p_ : List Int) (names : List (zw × Int)) (out1 : List Int) (x18 : Int) : Option (LR ((List (zw × Int)) × List Int × Int) (List Int)) :=
 bif decide (x18 < ((p_.length : Nat) : Int)) then (
  Option.bind (idx p_ x18) fun p__e =>
  Option.bind (qE m_ p_ x18) fun r_ =>
  Option.bind (some ((QM names (zw.mk p__e r_)).getD 0)) fun val1 =>
  bif !((QM names (zw.mk p__e r_)).isSome) then (
   wu out1 x18 p__e r_ (z4n names (zw.mk p__e r_) ((names.length : Nat) : Int)))
  else (
   wu out1 x18 p__e r_ names))
 else (
  some (.done out1))
def qG (m_ : z6) (p_ : List Int) : Option (List Int) :=
 gd ((0 : Int) ≤ ((p_.length : Nat) : Int) ∧ (((p_.length : Nat) : Int) : Int) ≤ 4294967296) <|
 Option.bind (loop (fun s => vw m_ p_ s.1 s.2.1 s.2.2) (([] : List (zw × Int)), (List.replicate ((p_.length : Nat) : Int).toNat (0 : Int)), 0)) fun t2 =>
 q9 t2
def wI : Option Bool :=
 some true
def yR (s1 : List Int) (s2 : List Int) (x13 : Int) : Option (LR Int (Unit ⊕ Bool)) :=
 bif decide (x13 < ((s1.length : Nat) : Int)) then (
  Option.bind (idx s1 x13) fun s_e =>
  Option.bind (idx s2 x13) fun s_e1 =>
  bif s_e != s_e1 then (
   some (.done (.inr false)))
  else (
   some (.next (w64 (x13 + 1)))))
 else (
  some (.done (.inl ())))
def xN (s1 : List Int) (s2 : List Int) : Option Bool :=
 bif ((s1.length : Nat) : Int) != ((s2.length : Nat) : Int) then (
  some false)
 else (
  Option.bind (loop (fun s => yR s1 s2 s) 0) fun t2 =>
  match t2 with
  | .inl p => wI
  | .inr p => some p)
def wY {σ : Type} (x0 : z6) (yy : σ → (List Int) → Option (σ × Bool)) (sg1 : σ) (p_ : List Int) : Option (LR (σ × List Int) σ) :=
 Option.bind (yy sg1 p_) fun yr =>
 bif yr.2 then (
  Option.bind (qG x0 p_) fun r_ =>
  Option.bind (xN p_ r_) fun r_1 =>
  bif r_1 then (
   some (.done yr.1))
  else (
   some (.next (yr.1, r_))))
 else (
  some (.done yr.1))
def uK (x0 : z6) {σ : Type} (yy : σ → (List Int) → Option (σ × Bool)) (sg : σ) : Option σ :=
 gd ((0 : Int) ≤ ((x0.Rows.length : Nat) : Int) ∧ (((x0.Rows.length : Nat) : Int) : Int) ≤ 4294967296) <|
 Option.bind (loop (fun s => wY x0 yy s.1 s.2) (sg, (List.replicate ((x0.Rows.length : Nat) : Int).toNat (0 : Int)))) fun t1 =>
 some t1
def qa (p_ : List Int) (n_ : Int) : Option (List Int × Int × Int) :=
 some (p_, n_, 0)
def wv (p_1 : List Int) (n_1 : Int) (x14 : List Int) : Option (LR (List Int × Int) Empty) :=
 some (.next (x14, w64 (n_1 + 1)))
def qH (m_ : z6) : Option (List Int × Int × Int) :=
 Option.bind (xF m_) fun r_ =>
 bif r_ != 0 then (
  some (([] : List Int), 0, r_))
 else (
  Option.bind (kN m_) fun r_1 =>
  Option.bind (uK r_1 (yOf (fun s x => wv s.1 s.2 x)) (.next (([] : List Int), (-1)))) fun t2 =>
  match t2 with
  | .next (p_1, n_1) => (
   qa p_1 n_1)
  | .done z => nomatch z)
def vq (m_ : Int) : Option Int :=
 some m_
def wg (x_ : List Int) (m_1 : Int) (i_ : Int) : Option (LR (Int × Int) Int) :=
 bif decide (i_ < ((x_.length : Nat) : Int)) then (
  Option.bind (idx x_ i_) fun x__e1 =>
  some (.next ((mx m_1 x__e1), w64 (i_ + 1))))
 else (
  some (.done m_1))
def vt (x_ : List Int) : Option Int :=
 bif decide (((x_.length : Nat) : Int) < 1) then (
  none)
 else (
  Option.bind (idx x_ 0) fun x__e =>
  Option.bind (loop (fun s => wg x_ s.1 s.2) (x__e, 1)) fun t2 =>
  vq t2)
def qV (x0 : z6) : Option Bool :=
 Option.bind (qH x0) fun r_ =>
 Option.bind (vt r_.1) fun r_1 =>
 some (r_1 == (w64 (((r_.1.length : Nat) : Int) - 1)))
def uq : Option Int :=
 some 0
def xQ (m_ : z6) : Option Int :=
 Option.bind (xF m_) fun r_ =>
 bif r_ != 0 then (
  some r_)
 else (
  Option.bind (jW m_) fun r_1 =>
  Option.bind (qX r_1.1.2) fun r_2 =>
  bif !r_2 then (
   some r_1.1.1)
  else (
   Option.bind (qW r_1.2.1.2) fun r_3 =>
   bif !r_3 then (
    some r_1.2.1.1)
   else (
    Option.bind (qV r_1.2.2.2) fun r_4 =>
    bif !r_4 then (
     some r_1.2.2.1)
    else (
     uq))))
def vC (n_ : Int) : Option Int :=
 some n_
def j5 {σ : Type} (x6 : Int) (sg2 : σ) : Option (LR (σ × Int) σ) :=
 some (.next (sg2, w64 (x6 + 1)))
def ud {σ : Type} (x0 : Int) (yy : σ → (Int × Int) → Option (σ × Bool)) (x6 : Int) (sg3 : σ) (b_ : Int) : Option (LR (σ × Int) (σ ⊕ σ)) :=
 bif decide (b_ < x0) then (
  Option.bind (yy sg3 (x6, b_)) fun yr =>
  bif !yr.2 then (
   some (.done (.inr yr.1)))
  else (
   some (.next (yr.1, w64 (b_ + 1)))))
 else (
  some (.done (.inl sg3)))
def j4 {σ : Type} (x0 : Int) (yy : σ → (Int × Int) → Option (σ × Bool)) (sg1 : σ) (x6 : Int) : Option (LR (σ × Int) σ) :=
 bif decide (x6 < x0) then (
  Option.bind (loop (fun s => ud x0 yy x6 s.1 s.2) (sg1, w64 (x6 + 1))) fun t3 =>
  match t3 with
  | .inl p => j5 x6 p
  | .inr p => some (.done p))
 else (
  some (.done sg1))
def yP (x0 : Int) {σ : Type} (yy : σ → (Int × Int) → Option (σ × Bool)) (sg : σ) : Option σ :=
 Option.bind (loop (fun s => j4 x0 yy s.1 s.2) (sg, 0)) fun t1 =>
 some t1
def YO (a_ : Int) (b_ : Int) : Option Bool :=
 some true
def jk (s_ : Int) (x1 : z6) : Option Bool :=
 bif decide (s_ < 0) then (
  some true)
 else (
  some (decide (s_ ≥ ((x1.Rows.length : Nat) : Int))))
def xY : Option Int :=
 some (-1)
def zR (s_ : List Int) (f_ : z6) (x8 : Int) : Option (LR Int (Unit ⊕ Int)) :=
 bif decide (x8 < ((s_.length : Nat) : Int)) then (
  Option.bind (idx s_ x8) fun s__e =>
  Option.bind (jk s__e f_) fun r_ =>
  bif r_ then (
   some (.done (.inr x8)))
  else (
   some (.next (w64 (x8 + 1)))))
 else (
  some (.done (.inl ())))
def yo (s_ : List Int) (f_ : z6) : Option Int :=
 Option.bind (loop (fun s => zR s_ f_ s) 0) fun t2 =>
 match t2 with
 | .inl p => xY
 | .inr p => some p
def yS (s_ : List Int) (f_ : z6) : Option Bool :=
 Option.bind (yo s_ f_) fun r_ =>
 some (decide (r_ ≥ 0))
def kR (m_ : z6) (l_ : List Int) : Option Int :=
 Option.bind (xF m_) fun r_ =>
 bif r_ != 0 then (
  some r_)
 else (
  Option.bind (yS l_ m_) fun r_1 =>
  bif r_1 then (
   some 1)
  else (
   some 0))
def YJ (m_ : z6) : Option z6 :=
 some m_
def qS {σ : Type} (x8 : Int) (sg2 : σ) : Option (LR (σ × Int) σ) :=
 some (.next (sg2, w64 (x8 + 1)))
def vQ {σ : Type} (x0 : z6) (yy : σ → (Int × Int) → Option (σ × Bool)) (x8 : Int) (sg3 : σ) (t_ : Int) : Option (LR (σ × Int) (σ ⊕ σ)) :=
 bif decide (t_ < ((x0.Rows.length : Nat) : Int)) then (
  Option.bind (yy sg3 (x8, t_)) fun yr =>
  bif !yr.2 then (
   some (.done (.inr yr.1)))
  else (
   some (.next (yr.1, w64 (t_ + 1)))))
 else (
  some (.done (.inl sg3)))
def qR {σ : Type} (x0 : z6) (yy : σ → (Int × Int) → Option (σ × Bool)) (sg1 : σ) (x8 : Int) : Option (LR (σ × Int) σ) :=
 bif decide (x8 < ((x0.Rows.length : Nat) : Int)) then (
  Option.bind (loop (fun s => vQ x0 yy x8 s.1 s.2) (sg1, w64 (x8 + 1))) fun t3 =>
  match t3 with
  | .inl p => qS x8 p
  | .inr p => some (.done p))
 else (
  some (.done sg1))
def vF (x0 : z6) {σ : Type} (yy : σ → (Int × Int) → Option (σ × Bool)) (sg : σ) : Option σ :=
 Option.bind (loop (fun s => qR x0 yy s.1 s.2) (sg, 0)) fun t1 =>
 some t1
def xI (l : List Int) (n : Int) : Option (List Int) := bif l.isEmpty && (decide (0 < n) && decide (n ≤ 1000000)) then some [] else none
def wr (newslice : List Int) : Option (List Int) :=
 some newslice
def zF (slices : List (List Int)) (newslice1 : List Int) (x27 : Int) : Option (LR (List Int × Int) (List Int)) :=
 bif decide (x27 < ((slices.length : Nat) : Int)) then (
  Option.bind (idx slices x27) fun slice_e =>
  gd (newslice1.length + slice_e.length ≤ 4294967296) <|
  some (.next ((newslice1 ++ slice_e), w64 (x27 + 1))))
 else (
  some (.done newslice1))
def ws (slices : List (List Int)) (size : Int) : Option (List Int) :=
 Option.bind (xI [] size) fun r_ =>
 Option.bind (loop (fun s => zF slices s.1 s.2) (r_, 0)) fun t3 =>
 wr t3
def zD (slices : List (List Int)) (size1 : Int) (x11 : Int) : Option (LR (Int × Int) Int) :=
 bif decide (x11 < ((slices.length : Nat) : Int)) then (
  Option.bind (idx slices x11) fun slice_e1 =>
  bif decide ((w64 (size1 + ((slice_e1.length : Nat) : Int))) < 0) then (
   none)
  else (
   some (.next (w64 (size1 + ((slice_e1.length : Nat) : Int)), w64 (x11 + 1)))))
 else (
  some (.done size1))
def wh (slices : List (List Int)) : Option (List Int) :=
 Option.bind (loop (fun s => zD slices s.1 s.2) (0, 0)) fun t4 =>
 ws slices t4
def y4 (s_ : List Int) : Option (List Int) :=
 gd ((0 : Int) ≤ 0 ∧ (0 : Int) ≤ ((s_.length : Nat) : Int) ∧ (((s_.length : Nat) : Int) : Int) ≤ ((s_.length : Nat) : Int) ∧ (((s_.length : Nat) : Int) : Int) ≤ ((s_.length : Nat) : Int)) <|
 some ((s_.drop 0).take (((s_.length : Nat) : Int).toNat - 0))
def vM (n_ : Int) (f_ : ArN 64 (ArN 64 (List Int))) (out : List Int) : Option (List Int × ArN 64 (ArN 64 (List Int))) :=
 bif ((out.length : Nat) : Int) != n_ then (
  some ([], f_))
 else (
  Option.bind (y4 out) fun r_ =>
  gd (r_ ≠ []) <|
  some (r_, f_))
def xM (x21 : Int) : Option (LR Int (List Int)) :=
 some (.next (w64 (x21 + 1)))
def wC (m_ : z6) (t_ : Int) (n_ : Int) (f_ : ArN 64 (ArN 64 (List Int))) (Row_e : List z8) (x21 : Int) : Option (LR Int (List Int)) :=
 bif decide (x21 < ((Row_e.length : Nat) : Int)) then (
  Option.bind (idx Row_e x21) fun Row_e_e =>
  Option.bind (idx m_.Rows t_) fun Row_e1 =>
  Option.bind (idx Row_e1 x21) fun Row_e_e1 =>
  bif Row_e_e.Out != Row_e_e1.Out then (
   some (.done ([x21] : List Int)))
  else (
   bif decide (n_ > 1) then (
    bif Row_e_e.To != (-1) then (
     Option.bind (idx (f_.l) Row_e_e.To) fun cell =>
     Option.bind (idx (cell.l) Row_e_e1.To) fun cell1 =>
     bif ((cell1.length : Nat) : Int) == (w64 (n_ - 1)) then (
      Option.bind (idx (f_.l) Row_e_e.To) fun cell2 =>
      Option.bind (idx (cell2.l) Row_e_e1.To) fun cell3 =>
      Option.bind (wh ([[x21], cell3])) fun r_1 =>
      some (.done r_1))
     else (
      xM x21))
    else (
     xM x21))
   else (
    xM x21)))
 else (
  some (.done ([] : List Int)))
def vR (m_ : z6) (s_ : Int) (t_ : Int) (n_ : Int) (f_ : ArN 64 (ArN 64 (List Int))) : Option (List Int × ArN 64 (ArN 64 (List Int))) :=
 Option.bind (idx m_.Rows s_) fun Row_e =>
 Option.bind (loop (fun s => wC m_ t_ n_ f_ Row_e s) 0) fun t2 =>
 vM n_ f_ t2
def uG (s_ : Int) (t_ : Int) (w_ : List Int) (f_ : ArN 64 (ArN 64 (List Int))) : Option (ArN 64 (ArN 64 (List Int))) :=
 Option.bind (idx (f_.l) s_) fun cell =>
 Option.bind (idx (cell.l) t_) fun cell1 =>
 Option.bind (some (ArN.setI cell t_ w_)) fun arr =>
 Option.bind (some (ArN.setI f_ s_ arr)) fun arr1 =>
 Option.bind (idx (arr1.l) t_) fun cell2 =>
 Option.bind (idx (cell2.l) s_) fun cell3 =>
 Option.bind (some (ArN.setI cell2 s_ w_)) fun arr2 =>
 Option.bind (some (ArN.setI arr1 t_ arr2)) fun arr3 =>
 some arr3
def uo (f_ : ArN 64 (ArN 64 (List Int))) : Option (ArN 64 (ArN 64 (List Int))) :=
 some f_
def um (n_ : Int) (f_2 : ArN 64 (ArN 64 (List Int))) : Option (LR (ArN 64 (ArN 64 (List Int)) × Int) (ArN 64 (ArN 64 (List Int)))) :=
 some (.next (f_2, w64 (n_ + 1)))
def wS (now : List zA) (f_4 : ArN 64 (ArN 64 (List Int))) (x50 : Int) : Option (LR (ArN 64 (ArN 64 (List Int)) × Int) (ArN 64 (ArN 64 (List Int)))) :=
 bif decide (x50 < ((now.length : Nat) : Int)) then (
  Option.bind (idx now x50) fun now_e =>
  Option.bind (uG now_e.S now_e.T now_e.Word f_4) fun r_ =>
  some (.next (r_, w64 (x50 + 1))))
 else (
  some (.done f_4))
def ul (n_ : Int) (f_3 : ArN 64 (ArN 64 (List Int))) (now : List zA) : Option (LR (ArN 64 (ArN 64 (List Int)) × Int) (ArN 64 (ArN 64 (List Int)))) :=
 Option.bind (loop (fun s => wS now s.1 s.2) (f_3, 0)) fun t5 =>
 um n_ t5
def xy (m_ : z6) (n_ : Int) (f_5 : ArN 64 (ArN 64 (List Int))) (now1 : List zA) (x23 : Int) (x24 : Int) : Option (LR (ArN 64 (ArN 64 (List Int)) × List zA) Empty) :=
 Option.bind (idx (f_5.l) x23) fun cell =>
 Option.bind (idx (cell.l) x24) fun cell1 =>
 bif !cell1.isEmpty then (
  some (.next (f_5, now1)))
 else (
  Option.bind (vR m_ x23 x24 n_ f_5) fun r_2 =>
  bif !r_2.1.isEmpty then (
   gd (now1.length + ([(zA.mk x23 x24 r_2.1 false)] : List zA).length ≤ 4294967296) <|
   some (.next (r_2.2, (now1 ++ ([(zA.mk x23 x24 r_2.1 false)] : List zA)))))
  else (
   some (.next (r_2.2, now1))))
def uk (m_ : z6) (f_1 : ArN 64 (ArN 64 (List Int))) (n_ : Int) : Option (LR (ArN 64 (ArN 64 (List Int)) × Int) (ArN 64 (ArN 64 (List Int)))) :=
 bif decide (n_ < (mx ((m_.Rows.length : Nat) : Int) 2)) then (
  Option.bind (YJ m_) fun r_1 =>
  Option.bind (vF r_1 (yOf (fun s x => xy m_ n_ s.1 s.2 x.1 x.2)) (.next (f_1, ([] : List zA)))) fun t6 =>
  match t6 with
  | .next (f_5, now1) => (
   ul n_ f_5 now1)
  | .done z => nomatch z)
 else (
  some (.done f_1))
def uF (m_ : z6) : Option (ArN 64 (ArN 64 (List Int))) :=
 Option.bind (loop (fun s => uk m_ s.1 s.2) ((ArN.rep 64 (ArN.rep 64 ([] : List Int))), 1)) fun t2 =>
 uo t2
def ym (s_ : List Int) : Option (List Int) :=
 gd (([] : List Int).length + s_.length ≤ 4294967296) <|
 some s_
def vS (m_ : z6) (s_ : Int) (t_ : Int) : Option (List Int × Bool × Int) :=
 Option.bind (kR m_ ([s_, t_])) fun r_ =>
 bif r_ != 0 then (
  some (([] : List Int), false, r_))
 else (
  Option.bind (uF m_) fun r_1 =>
  Option.bind (idx (r_1.l) s_) fun cell =>
  Option.bind (idx (cell.l) t_) fun cell1 =>
  Option.bind (ym cell1) fun r_2 =>
  Option.bind (y4 r_2) fun r_3 =>
  some (r_3, decide (((r_3.length : Nat) : Int) > 0), 0))
def Zw (c_ : Int) (x1 : Int) : Option Bool :=
 bif decide (c_ < 0) then (
  some true)
 else (
  some (decide (c_ ≥ x1)))
def wX : Option Int :=
 some (-1)
def ya (s_ : List Int) (f_ : Int) (x8 : Int) : Option (LR Int (Unit ⊕ Int)) :=
 bif decide (x8 < ((s_.length : Nat) : Int)) then (
  Option.bind (idx s_ x8) fun s__e =>
  Option.bind (Zw s__e f_) fun r_ =>
  bif r_ then (
   some (.done (.inr x8)))
  else (
   some (.next (w64 (x8 + 1)))))
 else (
  some (.done (.inl ())))
def wq (s_ : List Int) (f_ : Int) : Option Int :=
 Option.bind (loop (fun s => ya s_ f_ s) 0) fun t2 =>
 match t2 with
 | .inl p => wX
 | .inr p => some p
def xJ (s_ : List Int) (f_ : Int) : Option Bool :=
 Option.bind (wq s_ f_) fun r_ =>
 some (decide (r_ ≥ 0))
def qq (w_ : List Int) (inputs : Int) : Option Int :=
 bif decide (inputs > 16) then (
  some 3)
 else (
  bif decide (((w_.length : Nat) : Int) > 256) then (
   some 3)
  else (
   bif decide (inputs < 1) then (
    some 1)
   else (
    Option.bind (xJ w_ inputs) fun r_ =>
    bif r_ then (
     some 1)
    else (
     some 0))))
def YW : Option Int :=
 some 0
def uT (l_ : List (List Int)) (inputs : Int) (x19 : Int) : Option (LR Int (Unit ⊕ Int)) :=
 bif decide (x19 < ((l_.length : Nat) : Int)) then (
  Option.bind (idx l_ x19) fun l__e =>
  Option.bind (qq l__e inputs) fun r_ =>
  bif r_ != 0 then (
   some (.done (.inr r_)))
  else (
   some (.next (w64 (x19 + 1)))))
 else (
  some (.done (.inl ())))
def ku (l_ : List (List Int)) (inputs : Int) : Option Int :=
 bif decide (inputs > 16) then (
  some 3)
 else (
  bif decide (((l_.length : Nat) : Int) > 4096) then (
   some 3)
  else (
   bif decide (inputs < 1) then (
    some 1)
   else (
    Option.bind (loop (fun s => uT l_ inputs s) 0) fun t2 =>
    match t2 with
    | .inl p => YW
    | .inr p => some p)))
def vu (s_ : List (List Int)) : Option (List (List Int)) :=
 gd (([] : List (List Int)).length + s_.length ≤ 4294967296) <|
 some s_
def kc (x_ : Int) : Option Bool :=
 some (x_ != x_)
def uf (x_ : Int) (y_ : Int) : Option Int :=
 Option.bind (kc x_) fun r_ =>
 Option.bind (kc y_) fun r_1 =>
 bif r_ then (
  bif r_1 then (
   some 0)
  else (
   some (-1)))
 else (
  bif r_1 then (
   some 1)
  else (
   bif decide (x_ < y_) then (
    some (-1))
   else (
    bif decide (x_ > y_) then (
     some 1)
    else (
     some 0))))
def w8 (s1 : List Int) (s2 : List Int) : Option Int :=
 bif decide (((s1.length : Nat) : Int) < ((s2.length : Nat) : Int)) then (
  some (-1))
 else (
  some 0)
def yl (s1 : List Int) (s2 : List Int) (x11 : Int) : Option (LR Int (Unit ⊕ Int)) :=
 bif decide (x11 < ((s1.length : Nat) : Int)) then (
  Option.bind (idx s1 x11) fun s_e =>
  bif decide (x11 ≥ ((s2.length : Nat) : Int)) then (
   some (.done (.inr 1)))
  else (
   Option.bind (idx s2 x11) fun s_e1 =>
   Option.bind (uf s_e s_e1) fun r_ =>
   bif r_ != 0 then (
    some (.done (.inr r_)))
   else (
    some (.next (w64 (x11 + 1))))))
 else (
  some (.done (.inl ())))
def xT (s1 : List Int) (s2 : List Int) : Option Int :=
 Option.bind (loop (fun s => yl s1 s2 s) 0) fun t2 =>
 match t2 with
 | .inl p => w8 s1 s2
 | .inr p => some p
def ZB : Option Int :=
 some 0
def j8 (vals : List Int) (x8 : Int) : Option (LR Int (Unit ⊕ Int)) :=
 bif decide (x8 < ((vals.length : Nat) : Int)) then (
  Option.bind (idx vals x8) fun val_e =>
  bif val_e != 0 then (
   some (.done (.inr val_e)))
  else (
   some (.next (w64 (x8 + 1)))))
 else (
  some (.done (.inl ())))
def Xg (vals : List Int) : Option Int :=
 Option.bind (loop (fun s => j8 vals s) 0) fun t2 =>
 match t2 with
 | .inl p => ZB
 | .inr p => some p
def xw (a_ : List Int) (b_ : List Int) : Option Int :=
 Option.bind (uf ((a_.length : Nat) : Int) ((b_.length : Nat) : Int)) fun r_ =>
 Option.bind (xT a_ b_) fun r_1 =>
 Option.bind (Xg ([r_, r_1])) fun r_2 =>
 some r_2
def uS (a_ : List Int) (b_ : List Int) : Option Bool :=
 Option.bind (xw a_ b_) fun r_ =>
 some (r_ == 0)
def wi (s_ : List (List Int)) : Option (List (List Int)) :=
 some s_
def xh (k_ : Int) : Option (LR Int (Unit ⊕ List (List Int))) :=
 some (.next (w64 (k_ + 1)))
def zV (s_1 : List (List Int)) (k_1 : Int) : Option (LR Int (Unit ⊕ List (List Int))) :=
 gd ((0 : Int) ≤ k_1 ∧ (k_1 : Int) ≤ ((s_1.length : Nat) : Int)) <|
 gd ((0 : Int) ≤ k_1 ∧ (k_1 : Int) ≤ ((s_1.length : Nat) : Int)) <|
 gd ((0 : Int) ≤ k_1 ∧ (k_1 : Int) ≤ (((s_1.take k_1.toNat ++ List.replicate (s_1.length - k_1.toNat) []).length : Nat) : Int)) <|
 some (.done (.inr ((s_1.take k_1.toNat ++ List.replicate (s_1.length - k_1.toNat) []).take k_1.toNat)))
def zU (k2 : Int) (s_3 : List (List Int)) (k_3 : Int) : Option (LR (List (List Int) × Int × Int) ((List (List Int) × Int))) :=
 some (.next (s_3, k_3, w64 (k2 + 1)))
def zT (k_ : Int) (s_2 : List (List Int)) (k_2 : Int) (k2 : Int) : Option (LR (List (List Int) × Int × Int) ((List (List Int) × Int))) :=
 bif decide (k2 < ((s_2.length - k_.toNat : Nat) : Int)) then (
  gd ((0 : Int) ≤ k_ ∧ (0 : Int) ≤ k2) <|
  Option.bind (idx s_2 (k_ + k2)) fun s__e2 =>
  gd ((0 : Int) ≤ k_ ∧ (0 : Int) ≤ w64 (k2 - 1)) <|
  Option.bind (idx s_2 (k_ + (w64 (k2 - 1)))) fun s__e3 =>
  Option.bind (uS s__e2 s__e3) fun r_1 =>
  bif !r_1 then (
   gd ((0 : Int) ≤ k_ ∧ (0 : Int) ≤ k2) <|
   Option.bind (idx s_2 (k_ + k2)) fun s__e4 =>
   Option.bind (idx s_2 k_2) fun s__e5 =>
   zU k2 (s_2.set k_2.toNat s__e4) (w64 (k_2 + 1)))
  else (
   zU k2 s_2 k_2))
 else (
  some (.done (s_2, k_2)))
def yf (s_ : List (List Int)) (k_ : Int) : Option (LR Int (Unit ⊕ List (List Int))) :=
 bif decide (k_ < ((s_.length : Nat) : Int)) then (
  Option.bind (idx s_ k_) fun s__e =>
  Option.bind (idx s_ (w64 (k_ - 1))) fun s__e1 =>
  Option.bind (uS s__e s__e1) fun r_ =>
  bif r_ then (
   gd ((0 : Int) ≤ k_ ∧ (k_ : Int) ≤ ((s_.length : Nat) : Int)) <|
   Option.bind (loop (fun s => zT k_ s.1 s.2.1 s.2.2) (s_, k_, 1)) fun t5 =>
   zV t5.1 t5.2)
  else (
   xh k_))
 else (
  some (.done (.inl ())))
def yI (s_ : List (List Int)) (eq : Unit) : Option (List (List Int)) :=
 bif decide (((s_.length : Nat) : Int) < 2) then (
  some s_)
 else (
  Option.bind (loop (fun s => yf s_ s) 1) fun t2 =>
  match t2 with
  | .inl p => wi s_
  | .inr p => some p)
def xK (s_ : List (List Int)) : Option (List (List Int)) :=
 some s_
def YV (n_ : Int) : Option Int :=
 some n_
def uR (l_ : List (List Int)) (n_1 : Int) (x7 : Int) : Option (LR (Int × Int) Int) :=
 bif decide (x7 < ((l_.length : Nat) : Int)) then (
  Option.bind (idx l_ x7) fun l__e =>
  some (.next (w64 (n_1 + ((l__e.length : Nat) : Int)), w64 (x7 + 1))))
 else (
  some (.done n_1))
def kr (l_ : List (List Int)) : Option Int :=
 Option.bind (loop (fun s => uR l_ s.1 s.2) (0, 0)) fun t2 =>
 YV t2
def jO (out : List (List Int × Bool)) : Option (List (List Int) × Int) :=
 gd (∀ q ∈ out, q.2 = true) <|
 some ((out.map (·.1)), 0)
def wc (r_2 : List (List Int)) (out2 : List (List Int × Bool)) (x24 : Int) : Option (LR ((List (List Int × Bool)) × Int) ((List (List Int × Bool)))) :=
 bif decide (x24 < ((r_2.length - (0 : Int).toNat : Nat) : Int)) then (
  gd ((0 : Int) ≤ 0 ∧ (0 : Int) ≤ x24) <|
  Option.bind (idx out2 (0 + x24)) fun out_e =>
  Option.bind (ym out_e.1) fun r_4 =>
  Option.bind (y4 r_4) fun r_5 =>
  Option.bind (idx out2 x24) fun out_e1 =>
  some (.next ((out2.set x24.toNat (r_5, true)), w64 (x24 + 1))))
 else (
  some (.done out2))
def kQ (l_ : List (List Int)) : Option (List (List Int) × Int) :=
 Option.bind (vu l_) fun r_ =>
 Option.bind (z4Y (fun x y => xw x y) r_) fun sorted =>
 Option.bind (yI sorted ()) fun r_1 =>
 Option.bind (xK r_1) fun r_2 =>
 bif decide (((r_2.length : Nat) : Int) > 4096) then (
  some (([] : List (List Int)), 3))
 else (
  Option.bind (kr r_2) fun r_3 =>
  bif decide (r_3 > 65536) then (
   some (([] : List (List Int)), 3))
  else (
   Option.bind (loop (fun s => wc r_2 s.1 s.2) ((r_2.map fun q => (q, false)), 0)) fun t2 =>
   jO t2))
def ZL (l_ : List (List Int)) (inputs : Int) : Option (List (List Int) × Int) :=
 Option.bind (ku l_ inputs) fun r_ =>
 bif r_ != 0 then (
  some (([] : List (List Int)), r_))
 else (
  Option.bind (kQ l_) fun r_1 =>
  some (r_1.1, r_1.2))
def k7 (m_ : z6) (x5 : Int) (out : List (List Int)) : Option (List (List Int) × Int) :=
 Option.bind (ZL out m_.Inputs) fun r_ =>
 some (r_.1, r_.2)
def uc (m_ : z6) (x51 : Int) (out1 : List (List Int)) (x16 : Int) (x17 : Int) : Option (LR (Int × List (List Int)) ((Int × List (List Int)))) :=
 Option.bind (YO x16 x17) fun r_2 =>
 bif !r_2 then (
  some (.next (x51, out1)))
 else (
  Option.bind (vS m_ x16 x17) fun r_3 =>
  bif r_3.2.2 != 0 then (
   some (.done (r_3.2.2, out1)))
  else (
   gd (out1.length + ([r_3.1] : List (List Int)).length ≤ 4294967296) <|
   some (.next (x51, (out1 ++ ([r_3.1] : List (List Int)))))))
def kU (m_ : z6) (is : Unit) : Option (List (List Int) × Int) :=
 Option.bind (vC ((m_.Rows.length : Nat) : Int)) fun r_1 =>
 Option.bind (yP r_1 (yOf (fun s x => uc m_ s.1 s.2 x.1 x.2)) (.next (0, ([] : List (List Int))))) fun t2 =>
 match t2 with
 | .next (x51, out1) => (
  k7 m_ x51 out1)
 | .done (x51, out1) => (
  some (([] : List (List Int)), x51))
def j6 (m_ : z6) : Option (List (List Int) × Int) :=
 Option.bind (xQ m_) fun r_ =>
 bif r_ != 0 then (
  some (([] : List (List Int)), r_))
 else (
  Option.bind (kU m_ ()) fun r_1 =>
  some (r_1.1, r_1.2))
def jn (m_ : z6) (s_ : Int) : Option Int :=
 Option.bind (xF m_) fun r_ =>
 bif r_ != 0 then (
  some r_)
 else (
  bif decide (s_ < 0) then (
   some 1)
  else (
   bif decide (s_ ≥ ((m_.Rows.length : Nat) : Int)) then (
    some 1)
   else (
    some 0)))
def jZ (s_1 : Int) (out : List Int) : Option (List Int × Int) :=
 some (out, s_1)
def qJ (out1 : List Int) (x17 : Int) (x_To : Int) (x_Out : Int) : Option (LR (Int × List Int × Int) ((Int × List Int))) :=
 Option.bind (idx out1 x17) fun out_e =>
 some (.next (x_To, (out1.set x17.toNat x_Out), w64 (x17 + 1)))
def jY (m_ : z6) (w_ : List Int) (s_2 : Int) (out1 : List Int) (x17 : Int) : Option (LR (Int × List Int × Int) ((Int × List Int))) :=
 bif decide (x17 < ((w_.length : Nat) : Int)) then (
  Option.bind (idx w_ x17) fun w__e =>
  Option.bind (vA) fun r_ =>
  bif s_2 != (-1) then (
   Option.bind (idx m_.Rows s_2) fun Row_e =>
   Option.bind (idx Row_e w__e) fun Row_e_e =>
   qJ out1 x17 Row_e_e.To Row_e_e.Out)
  else (
   qJ out1 x17 r_.To r_.Out))
 else (
  some (.done (s_2, out1)))
def kS (m_ : z6) (s_ : Int) (w_ : List Int) : Option (List Int × Int) :=
 gd ((0 : Int) ≤ ((w_.length : Nat) : Int) ∧ (((w_.length : Nat) : Int) : Int) ≤ 4294967296) <|
 Option.bind (loop (fun s => jY m_ w_ s.1 s.2.1 s.2.2) (s_, (List.replicate ((w_.length : Nat) : Int).toNat (0 : Int)), 0)) fun t2 =>
 jZ t2.1 t2.2
def kT (m_ : z6) (s_ : Int) (w_ : List Int) : Option (List Int × Int) :=
 Option.bind (jn m_ s_) fun r_ =>
 bif r_ != 0 then (
  some (([] : List Int), r_))
 else (
  Option.bind (qq w_ m_.Inputs) fun r_1 =>
  bif r_1 != 0 then (
   some (([] : List Int), r_1))
  else (
   Option.bind (kS m_ s_ w_) fun r_2 =>
   some (r_2.1, 0)))
def yb (s_ : List (List Int)) : Option (List (List Int)) :=
 some s_
def uu (out : List (List Int)) : Option (List (List Int)) :=
 Option.bind (yb out) fun r_ =>
 some r_
def yM (m_ : z6) (l_ : List (List Int)) (s_ : Int) (out1 : List (List Int)) (x14 : Int) : Option (LR (List (List Int) × Int) (List (List Int))) :=
 bif decide (x14 < ((l_.length : Nat) : Int)) then (
  Option.bind (idx l_ x14) fun l__e =>
  Option.bind (kT m_ s_ l__e) fun r_1 =>
  gd (out1.length + ([r_1.1] : List (List Int)).length ≤ 4294967296) <|
  some (.next ((out1 ++ ([r_1.1] : List (List Int))), w64 (x14 + 1))))
 else (
  some (.done out1))
def xx (m_ : z6) (l_ : List (List Int)) (s_ : Int) : Option (List (List Int)) :=
 Option.bind (loop (fun s => yM m_ l_ s_ s.1 s.2) (([] : List (List Int)), 0)) fun t2 =>
 uu t2
def qe (x_ : List Int) (y_ : List Int) : Option Bool :=
 Option.bind (xN x_ y_) fun r_ =>
 some r_
def xo : Option Bool :=
 some true
def zK (s1 : List (List Int)) (s2 : List (List Int)) (x17 : Int) : Option (LR Int (Unit ⊕ Bool)) :=
 bif decide (x17 < ((s1.length : Nat) : Int)) then (
  Option.bind (idx s1 x17) fun s_e =>
  Option.bind (idx s2 x17) fun s_e1 =>
  Option.bind (qe s_e s_e1) fun r_ =>
  bif !r_ then (
   some (.done (.inr false)))
  else (
   some (.next (w64 (x17 + 1)))))
 else (
  some (.done (.inl ())))
def yp (s1 : List (List Int)) (s2 : List (List Int)) (eq : Unit) : Option Bool :=
 bif ((s1.length : Nat) : Int) != ((s2.length : Nat) : Int) then (
  some false)
 else (
  Option.bind (loop (fun s => zK s1 s2 s) 0) fun t2 =>
  match t2 with
  | .inl p => xo
  | .inr p => some p)
def wy (a_ : List (List Int)) (b_ : List (List Int)) : Option Bool :=
 Option.bind (yp a_ b_ ()) fun r_ =>
 some r_
def jD (out : List Int) : Option (List Int) :=
 some out
def uw (out1 : List Int) (set_ : Int) : Option (LR (List Int) Empty) :=
 gd (out1.length + ([set_] : List Int).length ≤ 4294967296) <|
 some (.next (out1 ++ ([set_] : List Int)))
def v6 (x17 : Int) (set_2 : Int) : Option (LR (Int × Int) Int) :=
 some (.next (set_2, w64 (x17 + 1)))
def uv (m_ : z6) (w_ : List (List Int)) (x13 : Int) (x14 : Int) (set_1 : Int) (x17 : Int) : Option (LR (Int × Int) Int) :=
 bif decide (x17 < ((w_.length : Nat) : Int)) then (
  gd ((0 : Int) ≤ x17 ∧ (x17 : Int) ≤ w64 (x17 + 1) ∧ (w64 (x17 + 1) : Int) ≤ ((w_.length : Nat) : Int)) <|
  Option.bind (xx m_ ((w_.drop x17.toNat).take ((w64 (x17 + 1)).toNat - x17.toNat)) x13) fun r_1 =>
  gd ((0 : Int) ≤ x17 ∧ (x17 : Int) ≤ w64 (x17 + 1) ∧ (w64 (x17 + 1) : Int) ≤ ((w_.length : Nat) : Int)) <|
  Option.bind (xx m_ ((w_.drop x17.toNat).take ((w64 (x17 + 1)).toNat - x17.toNat)) x14) fun r_2 =>
  Option.bind (wy r_1 r_2) fun r_3 =>
  bif !r_3 then (
   gd ((0 : Int) ≤ x17) <|
   v6 x17 (orK .u64 set_1 (Je .u64 1 x17)))
  else (
   v6 x17 set_1))
 else (
  some (.done set_1))
def w4 (m_ : z6) (w_ : List (List Int)) (out1 : List Int) (x13 : Int) (x14 : Int) : Option (LR (List Int) Empty) :=
 Option.bind (loop (fun s => uv m_ w_ x13 x14 s.1 s.2) (0, 0)) fun t4 =>
 uw out1 t4
def uM (m_ : z6) (w_ : List (List Int)) : Option (List Int) :=
 Option.bind (vC ((m_.Rows.length : Nat) : Int)) fun r_ =>
 Option.bind (yP r_ (yOf (fun s x => w4 m_ w_ s x.1 x.2)) (.next ([] : List Int))) fun t2 =>
 match t2 with
 | .next out1 => (
  jD out1)
 | .done z => nomatch z
def vY (x_6 : Int) : Option Int :=
 some (Wl .i64 (w64 (x_6)) 127)
def vZ (x_5 : Int) : Option Int :=
 vY (IntKind.u64.wrap (x_5 + (Int.fdiv x_5 (2 ^ 32))))
def u6 (x_4 : Int) : Option Int :=
 vZ (IntKind.u64.wrap (x_4 + (Int.fdiv x_4 (2 ^ 16))))
def u7 (x_3 : Int) : Option Int :=
 u6 (IntKind.u64.wrap (x_3 + (Int.fdiv x_3 (2 ^ 8))))
def u9 (x_2 : Int) : Option Int :=
 u7 (Wl .u64 (IntKind.u64.wrap ((Int.fdiv x_2 (2 ^ 4)) + x_2)) 1085102592571150095)
def ua (x_1 : Int) : Option Int :=
 u9 (IntKind.u64.wrap ((Wl .u64 (Int.fdiv x_1 (2 ^ 2)) 3689348814741910323) + (Wl .u64 x_1 3689348814741910323)))
def qI (x_ : Int) : Option Int :=
 ua (IntKind.u64.wrap ((Wl .u64 (Int.fdiv x_ (2 ^ 1)) 6148914691236517205) + (Wl .u64 x_ 6148914691236517205)))
def y5 (x_ : Int) : Option Int :=
 Option.bind (qI x_) fun r_ =>
 some r_
def xq (x_ : Int) : Option Int :=
 bif x_ == 0 then (
  some 64)
 else (
  Option.bind (idx (z4u.l) (Int.fdiv (IntKind.u64.wrap ((Wl .u64 x_ (IntKind.u64.wrap (0 - x_))) * 285870213051353865)) (2 ^ 58))) fun cell =>
  some (w64 (cell)))
def wL (x_ : Int) : Option Int :=
 Option.bind (xq x_) fun r_ =>
 some r_
def kW (a_ : Int) (b_ : Int) : Option Bool :=
 Option.bind (wL (zb3 .u64 a_ b_)) fun r_ =>
 gd ((0 : Int) ≤ r_) <|
 some ((Wl .u64 (Int.fdiv a_ (2 ^ (min (r_).toNat 64))) 1) == 1)
def jv (out : List (List Int)) : Option (List (List Int) × Int) :=
 Option.bind (yb out) fun r_2 =>
 some (r_2, 0)
def uO (x78 : Int) (out2 : List (List Int)) : Option (LR (List (List Int) × Int) (List (List Int))) :=
 some (.next (out2, w64 (x78 + 1)))
def xR (r_ : List (List Int) × Int) (best : Int) (out1 : List (List Int)) (x78 : Int) : Option (LR (List (List Int) × Int) (List (List Int))) :=
 bif decide (x78 < ((r_.1.length : Nat) : Int)) then (
  Option.bind (idx r_.1 x78) fun u_ =>
  gd ((0 : Int) ≤ x78) <|
  bif (Wl .u64 (Int.fdiv best (2 ^ (min (x78).toNat 64))) 1) == 1 then (
   gd (out1.length + ([u_] : List (List Int)).length ≤ 4294967296) <|
   uO x78 (out1 ++ ([u_] : List (List Int))))
  else (
   uO x78 out1))
 else (
  some (.done out1))
def jw (r_ : List (List Int) × Int) (best : Int) : Option (List (List Int) × Int) :=
 Option.bind (loop (fun s => xR r_ best s.1 s.2) (([] : List (List Int)), 0)) fun t3 =>
 jv t3
def yi (x37 : Int) (best2 : Int) : Option (LR (Int × Int) Int) :=
 some (.next (best2, IntKind.u64.wrap (x37 + 1)))
def ju (x37 : Int) : Option (LR (Int × Int) Int) :=
 yi x37 x37
def vj (r_1 : List Int) (best1 : Int) (x37 : Int) (x65 : Int) : Option (LR Int (Unit ⊕ Int)) :=
 bif decide (x65 < ((r_1.length : Nat) : Int)) then (
  Option.bind (idx r_1 x65) fun r__e =>
  bif (Wl .u64 r__e x37) == 0 then (
   some (.done (.inr best1)))
  else (
   some (.next (w64 (x65 + 1)))))
 else (
  some (.done (.inl ())))
def wz (r_1 : List Int) (best1 : Int) (x37 : Int) (x61 : Bool) : Option (LR (Int × Int) Int) :=
 Option.bind (loop (fun s => vj r_1 best1 x37 s) 0) fun t9 =>
 match t9 with
 | .inl p => ju x37
 | .inr p => yi x37 p
def uN (r_ : List (List Int) × Int) (r_1 : List Int) (best1 : Int) (x37 : Int) : Option (LR (Int × Int) Int) :=
 bif decide (x37 < (Je .u64 1 ((r_.1.length : Nat) : Int))) then (
  Option.bind (y5 x37) fun r_3 =>
  Option.bind (y5 best1) fun r_4 =>
  bif decide (r_3 > r_4) then (
   yi x37 best1)
  else (
   bif r_3 == r_4 then (
    bif x37 == best1 then (
     yi x37 best1)
    else (
     Option.bind (kW x37 best1) fun r_5 =>
     bif !r_5 then (
      yi x37 best1)
     else (
      wz r_1 best1 x37 (!r_5))))
   else (
    wz r_1 best1 x37 false)))
 else (
  some (.done best1))
def w9 (m_ : z6) : Option (List (List Int) × Int) :=
 Option.bind (j6 m_) fun r_ =>
 bif r_.2 != 0 then (
  some (([] : List (List Int)), r_.2))
 else (
  bif decide (((r_.1.length : Nat) : Int) > 12) then (
   some (([] : List (List Int)), 3))
  else (
   Option.bind (uM m_ r_.1) fun r_1 =>
   gd ((0 : Int) ≤ ((r_.1.length : Nat) : Int)) <|
   gd ((0 : Int) ≤ ((r_.1.length : Nat) : Int)) <|
   Option.bind (loop (fun s => uN r_ r_1 s.1 s.2) (IntKind.u64.wrap ((Je .u64 1 ((r_.1.length : Nat) : Int)) - 1), 0)) fun t5 =>
   jw r_ t5))
def YZ : Option Bool :=
 some true
def YX (l_ : List (List Int)) (i_ : Int) : Option (LR Int (Unit ⊕ Bool)) :=
 bif decide (i_ < ((l_.length : Nat) : Int)) then (
  Option.bind (idx l_ (w64 (i_ - 1))) fun l__e =>
  Option.bind (idx l_ i_) fun l__e1 =>
  Option.bind (xw l__e l__e1) fun r_ =>
  bif decide (r_ ≥ 0) then (
   some (.done (.inr false)))
  else (
   some (.next (w64 (i_ + 1)))))
 else (
  some (.done (.inl ())))
def VD (l_ : List (List Int)) : Option Bool :=
 Option.bind (loop (fun s => YX l_ s) 1) fun t2 =>
 match t2 with
 | .inl p => YZ
 | .inr p => some p
def VE (l_ : List (List Int)) (inputs : Int) : Option Int :=
 Option.bind (ku l_ inputs) fun r_ =>
 bif r_ != 0 then (
  some r_)
 else (
  Option.bind (VD l_) fun r_1 =>
  bif !r_1 then (
   some 1)
  else (
   Option.bind (kr l_) fun r_2 =>
   bif decide (r_2 > 65536) then (
    some 3)
   else (
    some 0)))
def kV (m_ : z6) (l_ : List (List Int)) : Option Int :=
 Option.bind (xQ m_) fun r_ =>
 bif r_ != 0 then (
  some r_)
 else (
  Option.bind (VE l_ m_.Inputs) fun r_1 =>
  some r_1)
def Yc : Option (Bool × Int) :=
 some (true, 0)
def k8 (all : List (List (List Int))) (x35 : Int) (x36 : Int) : Option (LR Unit Unit) :=
 Option.bind (idx all x35) fun all_e =>
 Option.bind (idx all x36) fun all_e1 =>
 Option.bind (wy all_e all_e1) fun r_2 =>
 bif r_2 then (
  some (.done ()))
 else (
  some (.next ()))
def Yd (m_ : z6) (all : List (List (List Int))) : Option (Bool × Int) :=
 Option.bind (vC ((m_.Rows.length : Nat) : Int)) fun r_1 =>
 Option.bind (yP r_1 (yOf (fun s x => k8 all x.1 x.2)) (.next ())) fun t3 =>
 match t3 with
 | .next _ => (
  Yc)
 | .done _ => (
  some (false, 0))
def Yb (m_ : z6) (l_ : List (List Int)) (all1 : List (List (List Int))) (x20 : Int) : Option (LR (List (List (List Int)) × Int) (List (List (List Int)))) :=
 bif decide (x20 < ((m_.Rows.length : Nat) : Int)) then (
  Option.bind (xx m_ l_ x20) fun r_3 =>
  gd (all1.length + ([r_3] : List (List (List Int))).length ≤ 4294967296) <|
  some (.next ((all1 ++ ([r_3] : List (List (List Int)))), w64 (x20 + 1))))
 else (
  some (.done all1))
def jI (m_ : z6) (l_ : List (List Int)) : Option (Bool × Int) :=
 Option.bind (kV m_ l_) fun r_ =>
 bif r_ != 0 then (
  some (false, r_))
 else (
  Option.bind (loop (fun s => Yb m_ l_ s.1 s.2) (([] : List (List (List Int))), 0)) fun t4 =>
  Yd m_ t4)
def kF (a_ : List Int) (b_ : List Int) : Option Bool :=
 some (((a_.length : Nat) : Int) == ((b_.length : Nat) : Int))
def yx : Option Bool :=
 some true
def yw (s1 : List (List Int)) (s2 : List (List Int)) (x17 : Int) : Option (LR Int (Unit ⊕ Bool)) :=
 bif decide (x17 < ((s1.length : Nat) : Int)) then (
  Option.bind (idx s1 x17) fun s_e =>
  Option.bind (idx s2 x17) fun s_e1 =>
  Option.bind (kF s_e s_e1) fun r_ =>
  bif !r_ then (
   some (.done (.inr false)))
  else (
   some (.next (w64 (x17 + 1)))))
 else (
  some (.done (.inl ())))
def xc (s1 : List (List Int)) (s2 : List (List Int)) (eq : Unit) : Option Bool :=
 bif ((s1.length : Nat) : Int) != ((s2.length : Nat) : Int) then (
  some false)
 else (
  Option.bind (loop (fun s => yw s1 s2 s) 0) fun t2 =>
  match t2 with
  | .inl p => yx
  | .inr p => some p)
def ka (out : List Int) : Option (List Int × Int) :=
 Option.bind (y4 out) fun r_2 =>
 some (r_2, 0)
def qg (x24 : Int) (out2 : List Int) : Option (LR (List Int × Int) (List Int)) :=
 some (.next (out2, w64 (x24 + 1)))
def k9 (m_ : z6) (l_ : List (List Int)) (responses : List (List Int)) (out1 : List Int) (x24 : Int) : Option (LR (List Int × Int) (List Int)) :=
 bif decide (x24 < ((m_.Rows.length : Nat) : Int)) then (
  Option.bind (xx m_ l_ x24) fun r_3 =>
  Option.bind (wy r_3 responses) fun r_4 =>
  bif r_4 then (
   gd (out1.length + ([x24] : List Int).length ≤ 4294967296) <|
   qg x24 (out1 ++ ([x24] : List Int)))
  else (
   qg x24 out1))
 else (
  some (.done out1))
def wj (m_ : z6) (l_ : List (List Int)) (responses : List (List Int)) : Option (List Int × Int) :=
 Option.bind (kV m_ l_) fun r_ =>
 bif r_ != 0 then (
  some (([] : List Int), r_))
 else (
  Option.bind (xc l_ responses ()) fun r_1 =>
  bif !r_1 then (
   some (([] : List Int), 16))
  else (
   Option.bind (loop (fun s => k9 m_ l_ responses s.1 s.2) (([] : List Int), 0)) fun t2 =>
   ka t2))
def Zo : Option Int :=
 some 0
def Zn (a_ : List Int) (b_ : List Int) (i_ : Int) : Option (LR Int (Unit ⊕ Int)) :=
 bif decide (i_ < ((a_.length : Nat) : Int)) then (
  Option.bind (idx a_ i_) fun a__e =>
  Option.bind (idx b_ i_) fun b__e =>
  bif decide (a__e < b__e) then (
   some (.done (.inr (-1))))
  else (
   Option.bind (idx a_ i_) fun a__e1 =>
   Option.bind (idx b_ i_) fun b__e1 =>
   bif decide (a__e1 > b__e1) then (
    some (.done (.inr 1)))
   else (
    some (.next (w64 (i_ + 1))))))
 else (
  some (.done (.inl ())))
def Xv (a_ : List Int) (b_ : List Int) : Option Int :=
 bif ((a_.length : Nat) : Int) != ((b_.length : Nat) : Int) then (
  bif decide (((a_.length : Nat) : Int) < ((b_.length : Nat) : Int)) then (
   some (-1))
  else (
   some 1))
 else (
  Option.bind (loop (fun s => Zn a_ b_ s) 0) fun t2 =>
  match t2 with
  | .inl p => Zo
  | .inr p => some p)
def Xx : Option Bool :=
 some true
def Xw (a_ : List (List Int)) (b_ : List (List Int)) (i_ : Int) : Option (LR Int (Unit ⊕ Bool)) :=
 bif decide (i_ < ((a_.length : Nat) : Int)) then (
  Option.bind (idx a_ i_) fun a__e =>
  Option.bind (idx b_ i_) fun b__e =>
  Option.bind (Xv a__e b__e) fun r_ =>
  bif r_ != 0 then (
   some (.done (.inr false)))
  else (
   some (.next (w64 (i_ + 1)))))
 else (
  some (.done (.inl ())))
def WR (a_ : List (List Int)) (b_ : List (List Int)) : Option Bool :=
 bif ((a_.length : Nat) : Int) != ((b_.length : Nat) : Int) then (
  some false)
 else (
  Option.bind (loop (fun s => Xw a_ b_ s) 0) fun t2 =>
  match t2 with
  | .inl p => Xx
  | .inr p => some p)
def ZM (a_ : List Int) (b_ : List Int) : Option Bool :=
 Option.bind (WR ([a_]) ([b_])) fun r_ =>
 bif r_ then (
  some (((a_.length : Nat) : Int) == ((a_.length : Nat) : Int)))
 else (
  some false)
def Ya (a_ : Int) (b_ : Int) (x2 : Int) : Option Bool :=
 bif a_ == x2 then (
  some true)
 else (
  some (b_ == x2))
def ut (m_ : z6) (x5 : Int) (out : List (List Int)) : Option (List (List Int) × Int) :=
 Option.bind (ZL out m_.Inputs) fun r_ =>
 some (r_.1, r_.2)
def yK (m_ : z6) (is : Int) (x51 : Int) (out1 : List (List Int)) (x16 : Int) (x17 : Int) : Option (LR (Int × List (List Int)) ((Int × List (List Int)))) :=
 Option.bind (Ya x16 x17 is) fun r_2 =>
 bif !r_2 then (
  some (.next (x51, out1)))
 else (
  Option.bind (vS m_ x16 x17) fun r_3 =>
  bif r_3.2.2 != 0 then (
   some (.done (r_3.2.2, out1)))
  else (
   gd (out1.length + ([r_3.1] : List (List Int)).length ≤ 4294967296) <|
   some (.next (x51, (out1 ++ ([r_3.1] : List (List Int)))))))
def vh (m_ : z6) (is : Int) : Option (List (List Int) × Int) :=
 Option.bind (vC ((m_.Rows.length : Nat) : Int)) fun r_1 =>
 Option.bind (yP r_1 (yOf (fun s x => yK m_ is s.1 s.2 x.1 x.2)) (.next (0, ([] : List (List Int))))) fun t2 =>
 match t2 with
 | .next (x51, out1) => (
  ut m_ x51 out1)
 | .done (x51, out1) => (
  some (([] : List (List Int)), x51))
def kX (m_ : z6) (s_ : Int) : Option (List (List Int) × Int) :=
 Option.bind (xQ m_) fun r_ =>
 bif r_ != 0 then (
  some (([] : List (List Int)), r_))
 else (
  bif decide (s_ < 0) then (
   some (([] : List (List Int)), 1))
  else (
   bif decide (s_ ≥ ((m_.Rows.length : Nat) : Int)) then (
    some (([] : List (List Int)), 1))
   else (
    Option.bind (vh m_ s_) fun r_1 =>
    some (r_1.1, r_1.2))))
def XB : Option z6 :=
 some (z6.mk 2 2 ([[(z8.mk 1 0), (z8.mk 0 0)], [(z8.mk 2 0), (z8.mk 1 1)], [(z8.mk 0 1), (z8.mk 2 0)]]))
def kD (l_ : List (List Int)) : Option (List (List Int)) :=
 some l_
def jH (a_ : List (List Int)) (b_ : List (List Int)) : Option Bool :=
 Option.bind (WR a_ b_) fun r_ =>
 bif r_ then (
  some (((a_.length : Nat) : Int) == ((a_.length : Nat) : Int)))
 else (
  some false)
def Zp (m_ : z6) (l_ : List (List Int)) (s_ : Int) : Option (List (List Int) × Int) :=
 Option.bind (kV m_ l_) fun r_ =>
 bif r_ != 0 then (
  some (([] : List (List Int)), r_))
 else (
  bif decide (s_ < 0) then (
   some (([] : List (List Int)), 1))
  else (
   bif decide (s_ ≥ ((m_.Rows.length : Nat) : Int)) then (
    some (([] : List (List Int)), 1))
   else (
    Option.bind (xx m_ l_ s_) fun r_1 =>
    some (r_1, 0))))
def XA : Option Bool :=
 Option.bind (XB) fun r_ =>
 Option.bind (kD ([[0], [1]])) fun r_1 =>
 Option.bind (j6 r_) fun r_2 =>
 Option.bind (kX r_ 0) fun r_3 =>
 Option.bind (kX r_ 1) fun r_4 =>
 Option.bind (kX r_ 2) fun r_5 =>
 Option.bind (w9 r_) fun r_6 =>
 bif r_2.2 != 0 then (
  some false)
 else (
  bif r_3.2 != 0 then (
   some false)
  else (
   bif r_4.2 != 0 then (
    some false)
   else (
    bif r_5.2 != 0 then (
     some false)
    else (
     bif r_6.2 != 0 then (
      some false)
     else (
      Option.bind (jH r_2.1 r_1) fun r_7 =>
      bif !r_7 then (
       some false)
      else (
       Option.bind (jH r_3.1 r_1) fun r_8 =>
       bif !r_8 then (
        some false)
       else (
        Option.bind (jH r_4.1 r_1) fun r_9 =>
        bif !r_9 then (
         some false)
        else (
         gd ((0 : Int) ≤ 0 ∧ (0 : Int) ≤ 1 ∧ (1 : Int) ≤ ((r_1.length : Nat) : Int)) <|
         Option.bind (jH r_5.1 ((r_1.drop 0).take ((1 : Int).toNat - 0))) fun r_10 =>
         bif !r_10 then (
          some false)
         else (
          Option.bind (jH r_6.1 r_1) fun r_11 =>
          bif !r_11 then (
           some false)
          else (
           gd ((0 : Int) ≤ 0 ∧ (0 : Int) ≤ 1 ∧ (1 : Int) ≤ ((r_1.length : Nat) : Int)) <|
           Option.bind (jI r_ ((r_1.drop 0).take ((1 : Int).toNat - 0))) fun r_12 =>
           Option.bind (kD ([[0, 0]])) fun r_13 =>
           Option.bind (jI r_ r_13) fun r_14 =>
           Option.bind (Zp r_ r_1 1) fun r_15 =>
           Option.bind (kD ([[0], [0]])) fun r_16 =>
           Option.bind (wj r_ r_1 r_16) fun r_17 =>
           gd ((0 : Int) ≤ 0 ∧ (0 : Int) ≤ 1 ∧ (1 : Int) ≤ ((r_1.length : Nat) : Int)) <|
           Option.bind (kD ([[0]])) fun r_18 =>
           Option.bind (wj r_ ((r_1.drop 0).take ((1 : Int).toNat - 0)) r_18) fun r_19 =>
           gd ((0 : Int) ≤ 0 ∧ (0 : Int) ≤ 1 ∧ (1 : Int) ≤ ((r_1.length : Nat) : Int)) <|
           Option.bind (kD ([[7]])) fun r_20 =>
           Option.bind (wj r_ ((r_1.drop 0).take ((1 : Int).toNat - 0)) r_20) fun r_21 =>
           gd ((0 : Int) ≤ 0 ∧ (0 : Int) ≤ 1 ∧ (1 : Int) ≤ ((r_1.length : Nat) : Int)) <|
           Option.bind (wj r_ ((r_1.drop 0).take ((1 : Int).toNat - 0)) []) fun r_22 =>
           bif r_12.2 == 0 then (
            bif r_14.2 == 0 then (
             bif r_15.2 == 0 then (
              bif r_17.2 == 0 then (
               bif r_19.2 == 0 then (
                bif r_21.2 == 0 then (
                 bif !r_12.1 then (
                  bif r_14.1 then (
                   Option.bind (jH r_15.1 r_1) fun r_23 =>
                   bif r_23 then (
                    Option.bind (ZM r_17.1 ([0])) fun r_24 =>
                    bif r_24 then (
                     Option.bind (ZM r_19.1 ([0, 1])) fun r_25 =>
                     bif r_25 then (
                      bif ((r_21.1.length : Nat) : Int) == 0 then (
                       some (r_22.2 == 16))
                      else (
                       some false))
                     else (
                      some false))
                    else (
                     some false))
                   else (
                    some false))
                  else (
                   some false))
                 else (
                  some false))
                else (
                 some false))
               else (
                some false))
              else (
               some false))
             else (
              some false))
            else (
             some false))
           else (
            some false)))))))))))
def vO : Option Bool :=
 Option.bind (XA) fun r_5 =>
 some r_5
def xO (n_ : Int) (x123 : List (List Int)) (x124 : Int) (x127 : Bool) (x130 : List (List Int)) (x131 : List Int) (x132 : List Int) (x133 : Int) (x134 : Bool) (x137 : List (List Int)) (x140 : List Int) (x141 : List Int) (x142 : Int) (x145 : Bool) (x148 : Int) (x149 : Bool) (x152 : List (List Int)) (x153 : Int) (x156 : Bool) : Option (LR Int (Unit ⊕ Bool)) :=
 some (.next (w64 (n_ + 1)))
def wD (n_ : Int) (m_Rows : List (List z8)) : Option (LR Int (Unit ⊕ Bool)) :=
 Option.bind (idx m_Rows (w64 (n_ - 1))) fun m_Row_e =>
 Option.bind (idx m_Row_e 0) fun m_Row_e_e =>
 Option.bind (j6 (z6.mk 1 2 (m_Rows.set (w64 (n_ - 1)).toNat (m_Row_e.set (0 : Int).toNat (z8.mk m_Row_e_e.To 1))))) fun r_6 =>
 Option.bind (w9 (z6.mk 1 2 (m_Rows.set (w64 (n_ - 1)).toNat (m_Row_e.set (0 : Int).toNat (z8.mk m_Row_e_e.To 1))))) fun r_7 =>
 Option.bind (kX (z6.mk 1 2 (m_Rows.set (w64 (n_ - 1)).toNat (m_Row_e.set (0 : Int).toNat (z8.mk m_Row_e_e.To 1)))) 0) fun r_8 =>
 bif r_6.2 != 0 then (
  some (.done (.inr false)))
 else (
  bif ((r_6.1.length : Nat) : Int) != (w64 (n_ - 1)) then (
   some (.done (.inr false)))
  else (
   Option.bind (idx r_6.1 0) fun u_ =>
   bif ((u_.length : Nat) : Int) != 1 then (
    some (.done (.inr false)))
   else (
    Option.bind (idx r_6.1 (w64 (n_ - 2))) fun u_1 =>
    bif ((u_1.length : Nat) : Int) != (w64 (n_ - 1)) then (
     some (.done (.inr false)))
    else (
     bif r_8.2 != 0 then (
      some (.done (.inr false)))
     else (
      bif ((r_8.1.length : Nat) : Int) != (w64 (n_ - 1)) then (
       some (.done (.inr false)))
      else (
       bif decide (n_ > 13) then (
        bif r_7.2 != 3 then (
         some (.done (.inr false)))
        else (
         xO n_ r_6.1 ((r_6.1.length : Nat) : Int) (((r_6.1.length : Nat) : Int) != (w64 (n_ - 1))) r_6.1 u_ u_ ((u_.length : Nat) : Int) (((u_.length : Nat) : Int) != 1) r_6.1 u_1 u_1 ((u_1.length : Nat) : Int) (((u_1.length : Nat) : Int) != (w64 (n_ - 1))) r_8.2 (r_8.2 != 0) r_8.1 ((r_8.1.length : Nat) : Int) (((r_8.1.length : Nat) : Int) != (w64 (n_ - 1)))))
       else (
        bif r_7.2 != 0 then (
         some (.done (.inr false)))
        else (
         bif ((r_7.1.length : Nat) : Int) != 1 then (
          some (.done (.inr false)))
         else (
          Option.bind (idx r_7.1 0) fun u_2 =>
          bif ((u_2.length : Nat) : Int) != (w64 (n_ - 1)) then (
           some (.done (.inr false)))
          else (
           xO n_ r_6.1 ((r_6.1.length : Nat) : Int) (((r_6.1.length : Nat) : Int) != (w64 (n_ - 1))) r_6.1 u_ u_ ((u_.length : Nat) : Int) (((u_.length : Nat) : Int) != 1) r_6.1 u_1 u_1 ((u_1.length : Nat) : Int) (((u_1.length : Nat) : Int) != (w64 (n_ - 1))) r_8.2 (r_8.2 != 0) r_8.1 ((r_8.1.length : Nat) : Int) (((r_8.1.length : Nat) : Int) != (w64 (n_ - 1)))))))))))))
def y8 (n_ : Int) (m_Rows1 : List (List z8)) (s_ : Int) : Option (LR (List (List z8) × Int) (List (List z8))) :=
 bif decide (s_ < n_) then (
  gd ((n_ : Int) ≠ 0) <|
  gd (m_Rows1.length + ([[(z8.mk (Int.tmod (w64 (s_ + 1)) n_) 0)]] : List (List z8)).length ≤ 4294967296) <|
  some (.next ((m_Rows1 ++ ([[(z8.mk (Int.tmod (w64 (s_ + 1)) n_) 0)]] : List (List z8))), w64 (s_ + 1))))
 else (
  some (.done m_Rows1))
def zX (n_ : Int) : Option (LR Int (Unit ⊕ Bool)) :=
 bif decide (n_ < 15) then (
  Option.bind (loop (fun s => y8 n_ s.1 s.2) (([] : List (List z8)), 0)) fun t5 =>
  wD n_ t5)
 else (
  some (.done (.inl ())))
def qY : Option Bool :=
 Option.bind (j6 (z6.mk 2 1 ([[(z8.mk 0 0), (z8.mk 0 0)]]))) fun r_ =>
 Option.bind (w9 (z6.mk 2 1 ([[(z8.mk 0 0), (z8.mk 0 0)]]))) fun r_1 =>
 Option.bind (jI (z6.mk 2 1 ([[(z8.mk 0 0), (z8.mk 0 0)]])) []) fun r_2 =>
 Option.bind (wj (z6.mk 2 1 ([[(z8.mk 0 0), (z8.mk 0 0)]])) [] []) fun r_3 =>
 bif r_.2 != 0 then (
  some false)
 else (
  bif r_1.2 != 0 then (
   some false)
  else (
   bif r_2.2 != 0 then (
    some false)
   else (
    bif r_3.2 != 0 then (
     some false)
    else (
     bif (w64 (((r_.1.length : Nat) : Int) + ((r_1.1.length : Nat) : Int))) != 0 then (
      some false)
     else (
      bif !r_2.1 then (
       some false)
      else (
       Option.bind (ZM r_3.1 ([0])) fun r_4 =>
       bif !r_4 then (
        some false)
       else (
        Option.bind (loop (fun s => zX s) 2) fun t2 =>
        match t2 with
        | .inl p => vO
        | .inr p => some p)))))))
abbrev F0_ := UM (eI .i64)
abbrev F1_ := eOs 1 true (eI .i64)
abbrev F2_ := eSl 1 true (eI .i64)
abbrev F3_ := eSl 1 false (eI .i64)
abbrev F4_ := eOs 1 false (eI .i64)
abbrev F5_ := z65 F0_
abbrev F6_ := uU (eI .i64) (eI .i64)
abbrev F7_ := eSl 1 true F2_
abbrev F8_ := eOs 1 true F2_
abbrev F9_ := eSl 1 true F3_
abbrev vL := eSl 1 false F3_
abbrev zaR := eOs 1 false F3_
abbrev z8w := eSl 2 true F6_
abbrev z1q := eOs 2 true F6_
abbrev uE := eSl 2 false F6_
abbrev Q7 := XF (eI .i64) F5_
abbrev zhw := eSl 1 true z8w
abbrev zhv := eSl 1 false uE
abbrev z2A := wa (eI .i64) (eI .i64) zhw
abbrev yq := wa (eI .i64) (eI .i64) zhv
abbrev Q6 := eSp yq
def rpN {α : Type _} (n : Nat) (a : α) (l : List α) : List α := Nat.rec l (fun _ r => a :: r) n
abbrev aLn (n : Nat) : H := .a (.atom (.int .i64 ((n : Nat) : Int)))
end Go.Own

namespace Go.Proofs
open Go.Shelf
def Tryz.so118_ren : Go.Shelf.Ren := ⟨fun | 6 => 118 | 15 => 139 | 14 => 138 | 28 => 161 | 29 => 162 | 20 => 153 | 21 => 154 | 22 => 155 | 23 => 156 | 24 => 157 | 25 => 158 | 26 => 159 | 27 => 160 | 46 => 169 | 47 => 170 | 48 => 171 | 49 => 172 | 50 => 173 | 57 => 174 | n => n, fun | 22 => 32 | 24 => 40 | 25 => 91 | 3 => 3 | 39 => 78 | 0 => 0 | 53 => 104 | 55 => 106 | 4 => 4 | 46 => 180 | 45 => 179 | 50 => 184 | 5 => 5 | 9 => 9 | 66 => 194 | 70 => 198 | 76 => 200 | 77 => 201 | n => n, fun | n => n⟩
theorem Tryz.so118 : Go.Proofs.SlLaysF0.n6 Tryz.prog Tryz.so118_ren := {
 mixed := by kernel_rfl
 f6 := ⟨Tryz.f118.name, by decide, Tryz.func118.trans (congrArg some (by kernel_rfl))⟩
 f14 := ⟨Tryz.f138.name, by decide, Tryz.func138.trans (congrArg some (by kernel_rfl))⟩
 f15 := Tryz.func139.trans (congrArg some (by kernel_rfl))
 f20 := ⟨Tryz.f153.name, by decide, Tryz.func153.trans (congrArg some (by kernel_rfl))⟩
 f21 := ⟨Tryz.f154.name, by decide, Tryz.func154.trans (congrArg some (by kernel_rfl))⟩
 f22 := ⟨Tryz.f155.name, by decide, Tryz.func155.trans (congrArg some (by kernel_rfl))⟩
 f23 := ⟨Tryz.f156.name, by decide, Tryz.func156.trans (congrArg some (by kernel_rfl))⟩
 f24 := ⟨Tryz.f157.name, by decide, Tryz.func157.trans (congrArg some (by kernel_rfl))⟩
 f25 := ⟨Tryz.f158.name, by decide, Tryz.func158.trans (congrArg some (by kernel_rfl))⟩
 f26 := ⟨Tryz.f159.name, by decide, Tryz.func159.trans (congrArg some (by kernel_rfl))⟩
 f27 := ⟨Tryz.f160.name, by decide, Tryz.func160.trans (congrArg some (by kernel_rfl))⟩
 f28 := Tryz.func161.trans (congrArg some (by kernel_rfl))
 f29 := Tryz.func162.trans (congrArg some (by kernel_rfl))
 f46 := ⟨Tryz.f169.name, by decide, Tryz.func169.trans (congrArg some (by kernel_rfl))⟩
 f47 := Tryz.func170.trans (congrArg some (by kernel_rfl))
 f48 := Tryz.func171.trans (congrArg some (by kernel_rfl))
 f49 := ⟨Tryz.f172.name, by decide, Tryz.func172.trans (congrArg some (by kernel_rfl))⟩
 f50 := ⟨Tryz.f173.name, by decide, Tryz.func173.trans (congrArg some (by kernel_rfl))⟩
 f57 := ⟨Tryz.f174.name, by decide, Tryz.func174.trans (congrArg some (by kernel_rfl))⟩
 t0 := Tryz.underlying0
 a0 := Tryz.isAgg0
 z0 := Tryz.sizeOf0
 v0 := Tryz.zeroValue0
 t3 := Tryz.underlying3
 a3 := Tryz.isAgg3
 z3 := Tryz.sizeOf3
 v3 := Tryz.zeroValue3
 t4 := Tryz.underlying4
 a4 := Tryz.isAgg4
 z4 := Tryz.sizeOf4
 v4 := Tryz.zeroValue4
 t5 := Tryz.underlying5
 a5 := Tryz.isAgg5
 z5 := Tryz.sizeOf5
 v5 := Tryz.zeroValue5
 t9 := Tryz.underlying9
 a9 := Tryz.isAgg9
 z9 := Tryz.sizeOf9
 v9 := Tryz.zeroValue9
 t22 := Tryz.underlying32
 a22 := Tryz.isAgg32
 z22 := Tryz.sizeOf32
 v22 := Tryz.zeroValue32
 t25 := Tryz.underlying91
 a25 := Tryz.isAgg91
 z25 := Tryz.sizeOf91
 v25 := Tryz.zeroValue91
 t39 := Tryz.underlying78
 a39 := Tryz.isAgg78
 z39 := Tryz.sizeOf78
 v39 := Tryz.zeroValue78
 t45 := Tryz.underlying179
 a45 := Tryz.isAgg179
 z45 := Tryz.sizeOf179
 v45 := Tryz.zeroValue179
 t46 := Tryz.underlying180
 a46 := Tryz.isAgg180
 z46 := Tryz.sizeOf180
 v46 := Tryz.zeroValue180
 t50 := Tryz.underlying184
 a50 := Tryz.isAgg184
 z50 := Tryz.sizeOf184
 v50 := Tryz.zeroValue184
 t53 := Tryz.underlying104
 a53 := Tryz.isAgg104
 z53 := Tryz.sizeOf104
 v53 := Tryz.zeroValue104
 t55 := Tryz.underlying106
 a55 := Tryz.isAgg106
 z55 := Tryz.sizeOf106
 v55 := Tryz.zeroValue106
 t66 := Tryz.underlying194
 a66 := Tryz.isAgg194
 z66 := Tryz.sizeOf194
 v66 := Tryz.zeroValue194
 t70 := Tryz.underlying198
 a70 := Tryz.isAgg198
 z70 := Tryz.sizeOf198
 v70 := Tryz.zeroValue198
 t76 := Tryz.underlying200
 a76 := Tryz.isAgg200
 z76 := Tryz.sizeOf200
 v76 := Tryz.zeroValue200
 t77 := Tryz.underlying201
 a77 := Tryz.isAgg201
 z77 := Tryz.sizeOf201
 v77 := Tryz.zeroValue201 }
end Go.Proofs
