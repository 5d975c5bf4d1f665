/- -/
import Derived.Test.YthnpknbgpmlbhaaGreatPartB
import Derived.Test.YthnpknbgpmlbhaaGreatProg
import Derived.Test.YthnpknbgpmlbhaaGreatPartC
import Derived.Test.YthnpknbgpmlbhaaGreatPartD
import Derived.Shelf.SlSortCmp.NoneTotal
import Derived.Ground.SlsfProg
set_option linter.unusedVariables false
set_option linter.unusedSimpArgs false
namespace Go.Ex
open Go.Proofs
def i64 : EI := ⟨.func, 1, 8, some [.nilFunc], false⟩
theorem q3 : EqP Tryz.prog 3 [.int .i64 0] false 1 := zaw (k := .int .i64) Tryz.underlying3 ⟨_, (by kernel_rfl : Tryz.prog.info? 3 = some Tryz.t3), rfl⟩ rfl
theorem q67 : EqP Tryz.prog 67 (Ww [([.int .i64 0], false), ([.int .i64 0], false)]) true 2 := Vk Tryz.underlying67 (by kernel_rfl) ⟨_, (by kernel_rfl : Tryz.prog.info? 67 = some Tryz.t67), rfl⟩ (by decide) (yu.cons (by decide) rfl (q3.mono (by decide)) (yu.cons (by decide) rfl (q3.mono (by decide)) (yu.nil)))
def i67 : EI := ⟨.struct [(0, 3), (1, 3)], 2, 16, some [.int .i64 0, .int .i64 0], true⟩
theorem ziW : zgQ Tryz.prog 67 i67 := ⟨⟨Tryz.t67, by kernel_rfl, rfl, rfl, fun z h => by cases h; exact ⟨_, rfl, rfl, z6h rfl, rfl, ⟨_, rfl⟩⟩⟩, ⟨_, Tryz.underlying67, by kernel_rfl, by
  intro f hf
  simp only [List.mem_cons, List.not_mem_nil, or_false] at hf
  rcases hf with rfl | rfl
  ·exact ⟨Tryz.t3, by kernel_rfl⟩
  ·exact ⟨Tryz.t3, by kernel_rfl⟩⟩, fun _ => z2A q67 rfl rfl (Nat.le_of_ble_eq_true (by kernel_rfl)) (by decide)⟩
theorem q68 : EqP Tryz.prog 68 (Ww [([.int .i64 0], false), ([.int .i64 0], false)]) true 2 := Vk Tryz.underlying68 (by kernel_rfl) ⟨_, (by kernel_rfl : Tryz.prog.info? 68 = some Tryz.t68), rfl⟩ (by decide) (yu.cons (by decide) rfl (q3.mono (by decide)) (yu.cons (by decide) rfl (q3.mono (by decide)) (yu.nil)))
def i68 : EI := ⟨.struct [(0, 3), (1, 3)], 2, 16, some [.int .i64 0, .int .i64 0], true⟩
theorem zeB : zgQ Tryz.prog 68 i68 := ⟨⟨Tryz.t68, by kernel_rfl, rfl, rfl, fun z h => by cases h; exact ⟨_, rfl, rfl, z6h rfl, rfl, ⟨_, rfl⟩⟩⟩, ⟨_, Tryz.underlying68, by kernel_rfl, by
  intro f hf
  simp only [List.mem_cons, List.not_mem_nil, or_false] at hf
  rcases hf with rfl | rfl
  ·exact ⟨Tryz.t3, by kernel_rfl⟩
  ·exact ⟨Tryz.t3, by kernel_rfl⟩⟩, fun _ => z2A q68 rfl rfl (Nat.le_of_ble_eq_true (by kernel_rfl)) (by decide)⟩
theorem zjz : EqP Tryz.prog 133 (Ww [([.int .i64 0], false), ([.int .i64 0], false), ([.int .i64 0], false)]) true 2 := Vk Tryz.underlying133 (by kernel_rfl) ⟨_, (by kernel_rfl : Tryz.prog.info? 133 = some Tryz.t133), rfl⟩ (by decide) (yu.cons (by decide) rfl (q3.mono (by decide)) (yu.cons (by decide) rfl (q3.mono (by decide)) (yu.cons (by decide) rfl (q3.mono (by decide)) (yu.nil))))
def zjE : EI := ⟨.struct [(0, 3), (1, 3), (2, 3)], 3, 24, some [.int .i64 0, .int .i64 0, .int .i64 0], true⟩
theorem zhl : zgQ Tryz.prog 133 zjE := ⟨⟨Tryz.t133, by kernel_rfl, rfl, rfl, fun z h => by cases h; exact ⟨_, rfl, rfl, z6h rfl, rfl, ⟨_, rfl⟩⟩⟩, ⟨_, Tryz.underlying133, by kernel_rfl, by
  intro f hf
  simp only [List.mem_cons, List.not_mem_nil, or_false] at hf
  rcases hf with rfl | rfl | rfl
  ·exact ⟨Tryz.t3, by kernel_rfl⟩
  ·exact ⟨Tryz.t3, by kernel_rfl⟩
  ·exact ⟨Tryz.t3, by kernel_rfl⟩⟩, fun _ => z2A zjz rfl rfl (Nat.le_of_ble_eq_true (by kernel_rfl)) (by decide)⟩
theorem zjy : EqP Tryz.prog 134 (Ww [([.int .i64 0], false), ([.int .i64 0], false), ([.int .i64 0], false)]) true 2 := Vk Tryz.underlying134 (by kernel_rfl) ⟨_, (by kernel_rfl : Tryz.prog.info? 134 = some Tryz.t134), rfl⟩ (by decide) (yu.cons (by decide) rfl (q3.mono (by decide)) (yu.cons (by decide) rfl (q3.mono (by decide)) (yu.cons (by decide) rfl (q3.mono (by decide)) (yu.nil))))
def zjD : EI := ⟨.struct [(0, 3), (1, 3), (2, 3)], 3, 24, some [.int .i64 0, .int .i64 0, .int .i64 0], true⟩
theorem zcI : zgQ Tryz.prog 134 zjD := ⟨⟨Tryz.t134, by kernel_rfl, rfl, rfl, fun z h => by cases h; exact ⟨_, rfl, rfl, z6h rfl, rfl, ⟨_, rfl⟩⟩⟩, ⟨_, Tryz.underlying134, by kernel_rfl, by
  intro f hf
  simp only [List.mem_cons, List.not_mem_nil, or_false] at hf
  rcases hf with rfl | rfl | rfl
  ·exact ⟨Tryz.t3, by kernel_rfl⟩
  ·exact ⟨Tryz.t3, by kernel_rfl⟩
  ·exact ⟨Tryz.t3, by kernel_rfl⟩⟩, fun _ => z2A zjy rfl rfl (Nat.le_of_ble_eq_true (by kernel_rfl)) (by decide)⟩
end Go.Ex

namespace Go.Own
open Go.Proofs
def zhk : Value → Bool
 | .int _ _ => true
 | _ => false
theorem z47 : ∀ {z vs us : List Value} {r : Bool}, z.all zhk = true → z.length = vs.length → xp vs us = some r → Go.Ex.z48 z vs = true ∧ Go.Ex.xp vs us = some r
 | [], [], us, r, _, _, h => by
  cases us with
  | nil => simp only [xp, Option.some.injEq] at h; subst h; exact ⟨rfl, rfl⟩
  | cons u us => simp [xp] at h
 | a :: z, v :: vs, us, r, hz, hl, h => by
  have q : ∃ k x u' k' y, v = .int k x ∧ us = .int k' y :: u' ∧ k = k' := by
   cases us with
   | nil => cases v <;> simp [xp] at h
   | cons u us =>
    cases v <;> cases u <;> simp [xp] at h
    exact ⟨_, _, _, _, _, rfl, rfl, h.1⟩
  obtain ⟨k, x, u', k', y, rfl, rfl, hk⟩ := q
  simp only [xp, hk, if_true, Option.map_eq_some_iff] at h
  obtain ⟨r', e1, rfl⟩ := h
  simp only [List.all_cons, Bool.and_eq_true] at hz
  obtain ⟨q1, q2⟩ := z47 hz.2 (by simpa using hl) e1
  refine ⟨?_, by simp [Go.Ex.xp, hk, q2]⟩
  cases a <;> first | (simp [zhk] at hz; done) | simpa [Go.Ex.z48] using q1
 | [], _ :: _, _, _, _, hl, _ => by simp at hl
 | _ :: _, [], _, _, _, hl, _ => by simp at hl
theorem z8p {P : Program} {t n : Nat} {i : Go.Ex.EI} (h : Go.Ex.zdo P t i) {z : List Value} (hz : i.zero = some z) (hi : z.all zhk = true) (hs : i.size = n) (hn : z.length = n) : zdo P t n := {
 guard := h.guard
 run := fun vs us r w hv hu he => by
  obtain ⟨q1, q2⟩ := z47 hi (by rw [hn, hv]) he
  exact h.run vs us r w (by rw [hs]; exact hv) (by rw [hs]; exact hu) (by simpa only [Go.Ex.zhm, hz] using q1) q2 }
theorem zF {S : zj} {h : Array Obj} {v : Value} (hv : v.oneCell' = true) : zH S h (.atom v) [v] [] := by simp only [zH, Rep]; exact ⟨⟨trivial, hv⟩, trivial⟩
theorem xF {S : zj} {h : Array Obj} (sz : Nat) : zH S h (.osl sz true []) [.slice none 0 0] [] := by
 simp only [zH]
 exact ⟨none, 0, rfl, (fun _ => rfl), Nat.le_refl _, Nat.zero_le _, by simp, .inl ⟨trivial, rfl, rfl, trivial⟩⟩
theorem ZP {S : zj} {h : Array Obj} {fs : List A} {cs : List Value} (q : zJ S h fs cs []) : zH S h (.agg fs) cs [] := by simpa only [zH] using q
theorem jE {S : zj} {h : Array Obj} : zJ S h [] [] [] := by simp [zJ]
theorem yI {S : zj} {h : Array Obj} {a : A} {fs : List A} {c1 c2 : List Value} (q1 : zH S h a c1 []) (q2 : zJ S h fs c2 []) : zJ S h (a :: fs) (c1 ++ c2) [] := by simp only [zJ]; exact ⟨c1, c2, [], [], rfl, rfl, q1, q2⟩
def ti1 : TI := ⟨.other, 1, 8, some (.atom .nilFunc), false⟩
theorem zdC : jU Tryz.prog 1 ti1 := ⟨⟨Tryz.t1, by kernel_rfl, rfl, rfl, fun z h => by cases h; exact ⟨_, rfl, rfl, fun S h => zF rfl⟩⟩, ⟨_, Tryz.underlying1, rfl⟩, by intro h; cases h⟩
def ti2 : TI := ⟨.int .i64, 1, 8, some (.atom (.int .i64 0)), false⟩
theorem zdB : jU Tryz.prog 2 ti2 := ⟨⟨Tryz.t2, by kernel_rfl, rfl, rfl, fun z h => by cases h; exact ⟨_, rfl, rfl, fun S h => zF rfl⟩⟩, Tryz.underlying2, by intro h; cases h⟩
def ti3 : TI := ⟨.int .i64, 1, 8, some (.atom (.int .i64 0)), false⟩
theorem zdA : jU Tryz.prog 3 ti3 := ⟨⟨Tryz.t3, by kernel_rfl, rfl, rfl, fun z h => by cases h; exact ⟨_, rfl, rfl, fun S h => zF rfl⟩⟩, Tryz.underlying3, by intro h; cases h⟩
def ti4 : TI := ⟨.bool, 1, 1, some (.atom (.bool false)), false⟩
theorem zdz : jU Tryz.prog 4 ti4 := ⟨⟨Tryz.t4, by kernel_rfl, rfl, rfl, fun z h => by cases h; exact ⟨_, rfl, rfl, fun S h => zF rfl⟩⟩, Tryz.underlying4, by intro h; cases h⟩
def ti5 : TI := ⟨.int .u8, 1, 1, some (.atom (.int .u8 0)), false⟩
theorem zdy : jU Tryz.prog 5 ti5 := ⟨⟨Tryz.t5, by kernel_rfl, rfl, rfl, fun z h => by cases h; exact ⟨_, rfl, rfl, fun S h => zF rfl⟩⟩, Tryz.underlying5, by intro h; cases h⟩
def ti9 : TI := ⟨.str, 1, 16, none, false⟩
theorem zdx : jU Tryz.prog 9 ti9 := ⟨⟨Tryz.t9, by kernel_rfl, rfl, rfl, fun z h => by cases h⟩, Tryz.underlying9, by intro h; cases h⟩
def ziA : TI := ⟨.slice 66, 1, 24, some (.osl 1 true []), false⟩
theorem zbP : jU Tryz.prog 22 ziA := ⟨⟨Tryz.t22, by kernel_rfl, rfl, rfl, fun z h => by cases h; exact ⟨_, rfl, rfl, fun S h => xF _⟩⟩, Tryz.underlying22, by intro h; cases h⟩
def ziz : TI := ⟨.slice 65, 1, 24, some (.osl 1 true []), false⟩
theorem zbO : jU Tryz.prog 25 ziz := ⟨⟨Tryz.t25, by kernel_rfl, rfl, rfl, fun z h => by cases h; exact ⟨_, rfl, rfl, fun S h => xF _⟩⟩, Tryz.underlying25, by intro h; cases h⟩
def ziy : TI := ⟨.struct [(0, 1), (1, 1), (2, 1)], 3, 40, some (.agg [.atom (.int .i64 0), .atom (.int .i64 0), .osl 1 true []]), false⟩
theorem zbN : jU Tryz.prog 27 ziy := ⟨⟨Tryz.t27, by kernel_rfl, rfl, rfl, fun z h => by cases h; exact ⟨_, rfl, rfl, fun S h => ZP (yI (zF rfl) (yI (zF rfl) (yI (xF _) (jE))))⟩⟩, ⟨_, Tryz.underlying27, by kernel_rfl, by
  intro f hf
  simp only [List.mem_cons, List.not_mem_nil, or_false] at hf
  rcases hf with rfl | rfl | rfl
  ·exact ⟨Tryz.t3, by kernel_rfl⟩
  ·exact ⟨Tryz.t3, by kernel_rfl⟩
  ·exact ⟨Tryz.t25, by kernel_rfl⟩⟩, by intro h; cases h⟩
def zix : TI := ⟨.slice 77, 1, 24, some (.osl 1 true []), false⟩
theorem zbM : jU Tryz.prog 29 zix := ⟨⟨Tryz.t29, by kernel_rfl, rfl, rfl, fun z h => by cases h; exact ⟨_, rfl, rfl, fun S h => xF _⟩⟩, Tryz.underlying29, by intro h; cases h⟩
def ziw : TI := ⟨.int .i64, 1, 8, some (.atom (.int .i64 0)), false⟩
theorem zbL : jU Tryz.prog 30 ziw := ⟨⟨Tryz.t30, by kernel_rfl, rfl, rfl, fun z h => by cases h; exact ⟨_, rfl, rfl, fun S h => zF rfl⟩⟩, Tryz.underlying30, by intro h; cases h⟩
def ziv : TI := ⟨.slice 60, 1, 24, some (.osl 1 true []), false⟩
theorem zbK : jU Tryz.prog 40 ziv := ⟨⟨Tryz.t40, by kernel_rfl, rfl, rfl, fun z h => by cases h; exact ⟨_, rfl, rfl, fun S h => xF _⟩⟩, Tryz.underlying40, by intro h; cases h⟩
def ziu : TI := ⟨.struct [(0, 1), (1, 1)], 2, 32, some (.agg [.atom (.int .u8 0), .osl 1 true []]), false⟩
theorem zbJ : jU Tryz.prog 42 ziu := ⟨⟨Tryz.t42, by kernel_rfl, rfl, rfl, fun z h => by cases h; exact ⟨_, rfl, rfl, fun S h => ZP (yI (zF rfl) (yI (xF _) (jE)))⟩⟩, ⟨_, Tryz.underlying42, by kernel_rfl, by
  intro f hf
  simp only [List.mem_cons, List.not_mem_nil, or_false] at hf
  rcases hf with rfl | rfl
  ·exact ⟨Tryz.t5, by kernel_rfl⟩
  ·exact ⟨Tryz.t40, by kernel_rfl⟩⟩, by intro h; cases h⟩
def zit : TI := ⟨.slice 4, 1, 24, some (.osl 1 true []), false⟩
theorem zbI : jU Tryz.prog 45 zit := ⟨⟨Tryz.t45, by kernel_rfl, rfl, rfl, fun z h => by cases h; exact ⟨_, rfl, rfl, fun S h => xF _⟩⟩, Tryz.underlying45, by intro h; cases h⟩
def zis : TI := ⟨.slice 45, 1, 24, some (.osl 1 true []), false⟩
theorem zbH : jU Tryz.prog 46 zis := ⟨⟨Tryz.t46, by kernel_rfl, rfl, rfl, fun z h => by cases h; exact ⟨_, rfl, rfl, fun S h => xF _⟩⟩, Tryz.underlying46, by intro h; cases h⟩
def zir : TI := ⟨.struct [(0, 1), (1, 1)], 2, 48, some (.agg [.osl 1 true [], .osl 1 true []]), false⟩
theorem zbG : jU Tryz.prog 48 zir := ⟨⟨Tryz.t48, by kernel_rfl, rfl, rfl, fun z h => by cases h; exact ⟨_, rfl, rfl, fun S h => ZP (yI (xF _) (yI (xF _) (jE)))⟩⟩, ⟨_, Tryz.underlying48, by kernel_rfl, by
  intro f hf
  simp only [List.mem_cons, List.not_mem_nil, or_false] at hf
  rcases hf with rfl | rfl
  ·exact ⟨Tryz.t45, by kernel_rfl⟩
  ·exact ⟨Tryz.t46, by kernel_rfl⟩⟩, by intro h; cases h⟩
def ziq : TI := ⟨.slice 5, 1, 24, some (.osl 1 true []), false⟩
theorem zbF : jU Tryz.prog 60 ziq := ⟨⟨Tryz.t60, by kernel_rfl, rfl, rfl, fun z h => by cases h; exact ⟨_, rfl, rfl, fun S h => xF _⟩⟩, Tryz.underlying60, by intro h; cases h⟩
def zio : TI := ⟨.struct [(0, 1), (1, 1), (2, 1), (3, 1), (4, 1)], 5, 56, some (.agg [.atom (.int .u8 0), .atom (.int .u8 0), .atom (.int .u8 0), .osl 1 true [], .osl 1 true []]), false⟩
theorem zbE : jU Tryz.prog 62 zio := ⟨⟨Tryz.t62, by kernel_rfl, rfl, rfl, fun z h => by cases h; exact ⟨_, rfl, rfl, fun S h => ZP (yI (zF rfl) (yI (zF rfl) (yI (zF rfl) (yI (xF _) (yI (xF _) (jE))))))⟩⟩, ⟨_, Tryz.underlying62, by kernel_rfl, by
  intro f hf
  simp only [List.mem_cons, List.not_mem_nil, or_false] at hf
  rcases hf with rfl | rfl | rfl | rfl | rfl
  ·exact ⟨Tryz.t5, by kernel_rfl⟩
  ·exact ⟨Tryz.t5, by kernel_rfl⟩
  ·exact ⟨Tryz.t5, by kernel_rfl⟩
  ·exact ⟨Tryz.t60, by kernel_rfl⟩
  ·exact ⟨Tryz.t22, by kernel_rfl⟩⟩, by intro h; cases h⟩
def zin : TI := ⟨.slice 68, 1, 24, some (.osl 2 true []), false⟩
theorem zbD : jU Tryz.prog 65 zin := ⟨⟨Tryz.t65, by kernel_rfl, rfl, rfl, fun z h => by cases h; exact ⟨_, rfl, rfl, fun S h => xF _⟩⟩, Tryz.underlying65, by intro h; cases h⟩
def zim : TI := ⟨.int .u16, 1, 2, some (.atom (.int .u16 0)), false⟩
theorem zbC : jU Tryz.prog 66 zim := ⟨⟨Tryz.t66, by kernel_rfl, rfl, rfl, fun z h => by cases h; exact ⟨_, rfl, rfl, fun S h => zF rfl⟩⟩, Tryz.underlying66, by intro h; cases h⟩
def zil : TI := ⟨.struct [(0, 1), (1, 1)], 2, 16, some (.agg [.atom (.int .i64 0), .atom (.int .i64 0)]), true⟩
theorem zbB : jU Tryz.prog 68 zil := ⟨⟨Tryz.t68, by kernel_rfl, rfl, rfl, fun z h => by cases h; exact ⟨_, rfl, rfl, fun S h => ZP (yI (zF rfl) (yI (zF rfl) (jE)))⟩⟩, ⟨_, Tryz.underlying68, by kernel_rfl, by
  intro f hf
  simp only [List.mem_cons, List.not_mem_nil, or_false] at hf
  rcases hf with rfl | rfl
  ·exact ⟨Tryz.t3, by kernel_rfl⟩
  ·exact ⟨Tryz.t3, by kernel_rfl⟩⟩, fun _ => z8p (Go.Ex.zeB.eqn rfl) rfl rfl rfl rfl⟩
def zik : TI := ⟨.slice 3, 1, 24, some (.osl 1 true []), false⟩
theorem zbA : jU Tryz.prog 77 zik := ⟨⟨Tryz.t77, by kernel_rfl, rfl, rfl, fun z h => by cases h; exact ⟨_, rfl, rfl, fun S h => xF _⟩⟩, Tryz.underlying77, by intro h; cases h⟩
def zij : TI := ⟨.other, 1, 8, some (.atom .nilFunc), false⟩
theorem zbz : jU Tryz.prog 82 zij := ⟨⟨Tryz.t82, by kernel_rfl, rfl, rfl, fun z h => by cases h; exact ⟨_, rfl, rfl, fun S h => zF rfl⟩⟩, ⟨_, Tryz.underlying82, rfl⟩, by intro h; cases h⟩
def zii : TI := ⟨.other, 1, 8, some (.atom .nilFunc), false⟩
theorem zby : jU Tryz.prog 83 zii := ⟨⟨Tryz.t83, by kernel_rfl, rfl, rfl, fun z h => by cases h; exact ⟨_, rfl, rfl, fun S h => zF rfl⟩⟩, ⟨_, Tryz.underlying83, rfl⟩, by intro h; cases h⟩
def zih : TI := ⟨.other, 1, 8, some (.atom .nilFunc), false⟩
theorem zbx : jU Tryz.prog 84 zih := ⟨⟨Tryz.t84, by kernel_rfl, rfl, rfl, fun z h => by cases h; exact ⟨_, rfl, rfl, fun S h => zF rfl⟩⟩, ⟨_, Tryz.underlying84, rfl⟩, by intro h; cases h⟩
def zig : TI := ⟨.other, 1, 8, some (.atom .nilFunc), false⟩
theorem zbw : jU Tryz.prog 85 zig := ⟨⟨Tryz.t85, by kernel_rfl, rfl, rfl, fun z h => by cases h; exact ⟨_, rfl, rfl, fun S h => zF rfl⟩⟩, ⟨_, Tryz.underlying85, rfl⟩, by intro h; cases h⟩
def zif : TI := ⟨.other, 1, 8, some (.atom .nilFunc), false⟩
theorem zbv : jU Tryz.prog 86 zif := ⟨⟨Tryz.t86, by kernel_rfl, rfl, rfl, fun z h => by cases h; exact ⟨_, rfl, rfl, fun S h => zF rfl⟩⟩, ⟨_, Tryz.underlying86, rfl⟩, by intro h; cases h⟩
def zie : TI := ⟨.other, 1, 8, some (.atom .nilFunc), false⟩
theorem zbu : jU Tryz.prog 87 zie := ⟨⟨Tryz.t87, by kernel_rfl, rfl, rfl, fun z h => by cases h; exact ⟨_, rfl, rfl, fun S h => zF rfl⟩⟩, ⟨_, Tryz.underlying87, rfl⟩, by intro h; cases h⟩
def zid : TI := ⟨.slice 102, 1, 24, some (.osl 2 true []), false⟩
theorem zbt : jU Tryz.prog 94 zid := ⟨⟨Tryz.t94, by kernel_rfl, rfl, rfl, fun z h => by cases h; exact ⟨_, rfl, rfl, fun S h => xF _⟩⟩, Tryz.underlying94, by intro h; cases h⟩
def zic : TI := ⟨.struct [(0, 1), (1, 1)], 2, 32, some (.agg [.atom (.int .i64 0), .osl 2 true []]), false⟩
theorem zbs : jU Tryz.prog 96 zic := ⟨⟨Tryz.t96, by kernel_rfl, rfl, rfl, fun z h => by cases h; exact ⟨_, rfl, rfl, fun S h => ZP (yI (zF rfl) (yI (xF _) (jE)))⟩⟩, ⟨_, Tryz.underlying96, by kernel_rfl, by
  intro f hf
  simp only [List.mem_cons, List.not_mem_nil, or_false] at hf
  rcases hf with rfl | rfl
  ·exact ⟨Tryz.t3, by kernel_rfl⟩
  ·exact ⟨Tryz.t94, by kernel_rfl⟩⟩, by intro h; cases h⟩
def zib : TI := ⟨.ptr 96, 1, 8, some (.atom (.pointer none)), false⟩
theorem zbr : jU Tryz.prog 97 zib := ⟨⟨Tryz.t97, by kernel_rfl, rfl, rfl, fun z h => by cases h; exact ⟨_, rfl, rfl, fun S h => zF rfl⟩⟩, Tryz.underlying97, by intro h; cases h⟩
def zia : TI := ⟨.other, 1, 8, some (.atom .nilFunc), false⟩
theorem zbq : jU Tryz.prog 98 zia := ⟨⟨Tryz.t98, by kernel_rfl, rfl, rfl, fun z h => by cases h; exact ⟨_, rfl, rfl, fun S h => zF rfl⟩⟩, ⟨_, Tryz.underlying98, rfl⟩, by intro h; cases h⟩
def zi9 : TI := ⟨.other, 1, 8, some (.atom .nilFunc), false⟩
theorem zbp : jU Tryz.prog 99 zi9 := ⟨⟨Tryz.t99, by kernel_rfl, rfl, rfl, fun z h => by cases h; exact ⟨_, rfl, rfl, fun S h => zF rfl⟩⟩, ⟨_, Tryz.underlying99, rfl⟩, by intro h; cases h⟩
def zdW : TI := ⟨.struct [(0, 1), (1, 1)], 2, 32, some (.agg [.osl 1 true [], .atom (.bool false)]), false⟩
theorem z9z : jU Tryz.prog 102 zdW := ⟨⟨Tryz.t102, by kernel_rfl, rfl, rfl, fun z h => by cases h; exact ⟨_, rfl, rfl, fun S h => ZP (yI (xF _) (yI (zF rfl) (jE)))⟩⟩, ⟨_, Tryz.underlying102, by kernel_rfl, by
  intro f hf
  simp only [List.mem_cons, List.not_mem_nil, or_false] at hf
  rcases hf with rfl | rfl
  ·exact ⟨Tryz.t77, by kernel_rfl⟩
  ·exact ⟨Tryz.t4, by kernel_rfl⟩⟩, by intro h; cases h⟩
def zdV : TI := ⟨.other, 1, 8, some (.atom .nilFunc), false⟩
theorem z9y : jU Tryz.prog 104 zdV := ⟨⟨Tryz.t104, by kernel_rfl, rfl, rfl, fun z h => by cases h; exact ⟨_, rfl, rfl, fun S h => zF rfl⟩⟩, ⟨_, Tryz.underlying104, rfl⟩, by intro h; cases h⟩
def zdU : TI := ⟨.other, 1, 8, none, false⟩
theorem z9x : jU Tryz.prog 109 zdU := ⟨⟨Tryz.t109, by kernel_rfl, rfl, rfl, fun z h => by cases h⟩, ⟨_, Tryz.underlying109, rfl⟩, by intro h; cases h⟩
def zdT : TI := ⟨.other, 1, 8, some (.atom .nilFunc), false⟩
theorem z9w : jU Tryz.prog 111 zdT := ⟨⟨Tryz.t111, by kernel_rfl, rfl, rfl, fun z h => by cases h; exact ⟨_, rfl, rfl, fun S h => zF rfl⟩⟩, ⟨_, Tryz.underlying111, rfl⟩, by intro h; cases h⟩
def zdS : TI := ⟨.other, 1, 8, some (.atom .nilFunc), false⟩
theorem z9v : jU Tryz.prog 116 zdS := ⟨⟨Tryz.t116, by kernel_rfl, rfl, rfl, fun z h => by cases h; exact ⟨_, rfl, rfl, fun S h => zF rfl⟩⟩, ⟨_, Tryz.underlying116, rfl⟩, by intro h; cases h⟩
def zdR : TI := ⟨.other, 1, 8, some (.atom .nilFunc), false⟩
theorem z9u : jU Tryz.prog 117 zdR := ⟨⟨Tryz.t117, by kernel_rfl, rfl, rfl, fun z h => by cases h; exact ⟨_, rfl, rfl, fun S h => zF rfl⟩⟩, ⟨_, Tryz.underlying117, rfl⟩, by intro h; cases h⟩
def zdQ : TI := ⟨.other, 1, 8, some (.atom .nilFunc), false⟩
theorem z9t : jU Tryz.prog 118 zdQ := ⟨⟨Tryz.t118, by kernel_rfl, rfl, rfl, fun z h => by cases h; exact ⟨_, rfl, rfl, fun S h => zF rfl⟩⟩, ⟨_, Tryz.underlying118, rfl⟩, by intro h; cases h⟩
def zdP : TI := ⟨.other, 1, 8, some (.atom .nilFunc), false⟩
theorem z9s : jU Tryz.prog 119 zdP := ⟨⟨Tryz.t119, by kernel_rfl, rfl, rfl, fun z h => by cases h; exact ⟨_, rfl, rfl, fun S h => zF rfl⟩⟩, ⟨_, Tryz.underlying119, rfl⟩, by intro h; cases h⟩
def zdO : TI := ⟨.struct [(0, 1), (1, 1)], 2, 32, some (.agg [.atom (.int .i64 0), .osl 1 true []]), false⟩
theorem z9r : jU Tryz.prog 122 zdO := ⟨⟨Tryz.t122, by kernel_rfl, rfl, rfl, fun z h => by cases h; exact ⟨_, rfl, rfl, fun S h => ZP (yI (zF rfl) (yI (xF _) (jE)))⟩⟩, ⟨_, Tryz.underlying122, by kernel_rfl, by
  intro f hf
  simp only [List.mem_cons, List.not_mem_nil, or_false] at hf
  rcases hf with rfl | rfl
  ·exact ⟨Tryz.t3, by kernel_rfl⟩
  ·exact ⟨Tryz.t77, by kernel_rfl⟩⟩, by intro h; cases h⟩
def zdN : TI := ⟨.other, 1, 8, some (.atom .nilFunc), false⟩
theorem z9q : jU Tryz.prog 125 zdN := ⟨⟨Tryz.t125, by kernel_rfl, rfl, rfl, fun z h => by cases h; exact ⟨_, rfl, rfl, fun S h => zF rfl⟩⟩, ⟨_, Tryz.underlying125, rfl⟩, by intro h; cases h⟩
def zdM : TI := ⟨.other, 1, 8, some (.atom .nilFunc), false⟩
theorem z9p : jU Tryz.prog 128 zdM := ⟨⟨Tryz.t128, by kernel_rfl, rfl, rfl, fun z h => by cases h; exact ⟨_, rfl, rfl, fun S h => zF rfl⟩⟩, ⟨_, Tryz.underlying128, rfl⟩, by intro h; cases h⟩
def zdL : TI := ⟨.other, 1, 8, some (.atom .nilFunc), false⟩
theorem z9o : jU Tryz.prog 130 zdL := ⟨⟨Tryz.t130, by kernel_rfl, rfl, rfl, fun z h => by cases h; exact ⟨_, rfl, rfl, fun S h => zF rfl⟩⟩, ⟨_, Tryz.underlying130, rfl⟩, by intro h; cases h⟩
def zdK : TI := ⟨.other, 1, 8, some (.atom .nilFunc), false⟩
theorem z9n : jU Tryz.prog 131 zdK := ⟨⟨Tryz.t131, by kernel_rfl, rfl, rfl, fun z h => by cases h; exact ⟨_, rfl, rfl, fun S h => zF rfl⟩⟩, ⟨_, Tryz.underlying131, rfl⟩, by intro h; cases h⟩
def zdJ : TI := ⟨.struct [(0, 1), (1, 1), (2, 1)], 3, 24, some (.agg [.atom (.int .i64 0), .atom (.int .i64 0), .atom (.int .i64 0)]), true⟩
theorem z9m : jU Tryz.prog 134 zdJ := ⟨⟨Tryz.t134, by kernel_rfl, rfl, rfl, fun z h => by cases h; exact ⟨_, rfl, rfl, fun S h => ZP (yI (zF rfl) (yI (zF rfl) (yI (zF rfl) (jE))))⟩⟩, ⟨_, Tryz.underlying134, by kernel_rfl, by
  intro f hf
  simp only [List.mem_cons, List.not_mem_nil, or_false] at hf
  rcases hf with rfl | rfl | rfl
  ·exact ⟨Tryz.t3, by kernel_rfl⟩
  ·exact ⟨Tryz.t3, by kernel_rfl⟩
  ·exact ⟨Tryz.t3, by kernel_rfl⟩⟩, fun _ => z8p (Go.Ex.zcI.eqn rfl) rfl rfl rfl rfl⟩
def zdI : TI := ⟨.other, 1, 8, some (.atom .nilFunc), false⟩
theorem z9l : jU Tryz.prog 138 zdI := ⟨⟨Tryz.t138, by kernel_rfl, rfl, rfl, fun z h => by cases h; exact ⟨_, rfl, rfl, fun S h => zF rfl⟩⟩, ⟨_, Tryz.underlying138, rfl⟩, by intro h; cases h⟩
def zdH : TI := ⟨.slice 29, 1, 24, some (.osl 1 true []), false⟩
theorem z9k : jU Tryz.prog 139 zdH := ⟨⟨Tryz.t139, by kernel_rfl, rfl, rfl, fun z h => by cases h; exact ⟨_, rfl, rfl, fun S h => xF _⟩⟩, Tryz.underlying139, by intro h; cases h⟩
def zdG : TI := ⟨.other, 1, 8, some (.atom .nilFunc), false⟩
theorem z9j : jU Tryz.prog 143 zdG := ⟨⟨Tryz.t143, by kernel_rfl, rfl, rfl, fun z h => by cases h; exact ⟨_, rfl, rfl, fun S h => zF rfl⟩⟩, ⟨_, Tryz.underlying143, rfl⟩, by intro h; cases h⟩
def zdF : TI := ⟨.slice 122, 1, 24, some (.osl 2 true []), false⟩
theorem z9i : jU Tryz.prog 144 zdF := ⟨⟨Tryz.t144, by kernel_rfl, rfl, rfl, fun z h => by cases h; exact ⟨_, rfl, rfl, fun S h => xF _⟩⟩, Tryz.underlying144, by intro h; cases h⟩
def zdE : TI := ⟨.other, 1, 8, some (.atom .nilFunc), false⟩
theorem z9h : jU Tryz.prog 148 zdE := ⟨⟨Tryz.t148, by kernel_rfl, rfl, rfl, fun z h => by cases h; exact ⟨_, rfl, rfl, fun S h => zF rfl⟩⟩, ⟨_, Tryz.underlying148, rfl⟩, by intro h; cases h⟩
def zdD : TI := ⟨.slice 134, 1, 24, some (.osl 3 true []), false⟩
theorem z9g : jU Tryz.prog 149 zdD := ⟨⟨Tryz.t149, by kernel_rfl, rfl, rfl, fun z h => by cases h; exact ⟨_, rfl, rfl, fun S h => xF _⟩⟩, Tryz.underlying149, by intro h; cases h⟩
def tiL : List (Nat × TI) := [(1, ti1), (2, ti2), (3, ti3), (4, ti4), (5, ti5), (9, ti9), (22, ziA), (25, ziz), (27, ziy), (29, zix), (30, ziw), (40, ziv), (42, ziu), (45, zit), (46, zis), (48, zir), (60, ziq), (62, zio), (65, zin), (66, zim), (68, zil), (77, zik), (82, zij), (83, zii), (84, zih), (85, zig), (86, zif), (87, zie), (94, zid), (96, zic), (97, zib), (98, zia), (99, zi9), (102, zdW), (104, zdV), (109, zdU), (111, zdT), (116, zdS), (117, zdR), (118, zdQ), (119, zdP), (122, zdO), (125, zdN), (128, zdM), (130, zdL), (131, zdK), (134, zdJ), (138, zdI), (139, zdH), (143, zdG), (144, zdF), (148, zdE), (149, zdD)]
def x6 : TT := fun t => (tiL.find? fun p => p.1 == t).map (·.2)
def z93 (P : Program) : List (Nat × TI) → Prop
 | [] => True
 | p :: l => jU P p.1 p.2 ∧ z93 P l
theorem z93.mem {P : Program} : ∀ {l : List (Nat × TI)}, z93 P l → ∀ p ∈ l, jU P p.1 p.2
 | p :: _, h, q, hq => by
  rcases List.mem_cons.1 hq with rfl | hq
  ·exact h.1
  ·exact z93.mem h.2 q hq
 | [], _, _, hq => by cases hq
theorem zdw : z93 Tryz.prog tiL := ⟨zdC, zdB, zdA, zdz, zdy, zdx, zbP, zbO, zbN, zbM, zbL, zbK, zbJ, zbI, zbH, zbG, zbF, zbE, zbD, zbC, zbB, zbA, zbz, zby, zbx, zbw, zbv, zbu, zbt, zbs, zbr, zbq, zbp, z9z, z9y, z9x, z9w, z9v, z9u, z9t, z9s, z9r, z9q, z9p, z9o, z9n, z9m, z9l, z9k, z9j, z9i, z9h, z9g, trivial⟩
theorem zp : w4 Tryz.prog x6 := by
 intro t i h
 unfold x6 at h
 rw [Option.map_eq_some_iff] at h
 obtain ⟨p, h1, rfl⟩ := h
 have h2 := List.find?_some h1
 have h3 := zdw.mem p (List.mem_of_find?_eq_some h1)
 rw [beq_iff_eq.1 h2] at h3
 exact h3
theorem zjN : x6 1 = some ⟨.other, 1, 8, some (.atom .nilFunc), false⟩ := rfl
theorem zjM : x6 2 = some ⟨.int .i64, 1, 8, some (.atom (.int .i64 0)), false⟩ := rfl
theorem zjL : x6 3 = some ⟨.int .i64, 1, 8, some (.atom (.int .i64 0)), false⟩ := rfl
theorem zjK : x6 4 = some ⟨.bool, 1, 1, some (.atom (.bool false)), false⟩ := rfl
theorem zjJ : x6 5 = some ⟨.int .u8, 1, 1, some (.atom (.int .u8 0)), false⟩ := rfl
theorem zjI : x6 9 = some ⟨.str, 1, 16, none, false⟩ := rfl
theorem zhV : x6 22 = some ⟨.slice 66, 1, 24, some (.osl 1 true []), false⟩ := rfl
theorem zhU : x6 25 = some ⟨.slice 65, 1, 24, some (.osl 1 true []), false⟩ := rfl
theorem zhT : x6 27 = some ⟨.struct [(0, 1), (1, 1), (2, 1)], 3, 40, some (.agg [.atom (.int .i64 0), .atom (.int .i64 0), .osl 1 true []]), false⟩ := rfl
theorem zhS : x6 29 = some ⟨.slice 77, 1, 24, some (.osl 1 true []), false⟩ := rfl
theorem zhR : x6 30 = some ⟨.int .i64, 1, 8, some (.atom (.int .i64 0)), false⟩ := rfl
theorem zhQ : x6 40 = some ⟨.slice 60, 1, 24, some (.osl 1 true []), false⟩ := rfl
theorem zhP : x6 42 = some ⟨.struct [(0, 1), (1, 1)], 2, 32, some (.agg [.atom (.int .u8 0), .osl 1 true []]), false⟩ := rfl
theorem zhO : x6 45 = some ⟨.slice 4, 1, 24, some (.osl 1 true []), false⟩ := rfl
theorem zhN : x6 46 = some ⟨.slice 45, 1, 24, some (.osl 1 true []), false⟩ := rfl
theorem zhM : x6 48 = some ⟨.struct [(0, 1), (1, 1)], 2, 48, some (.agg [.osl 1 true [], .osl 1 true []]), false⟩ := rfl
theorem zhL : x6 60 = some ⟨.slice 5, 1, 24, some (.osl 1 true []), false⟩ := rfl
theorem zhK : x6 62 = some ⟨.struct [(0, 1), (1, 1), (2, 1), (3, 1), (4, 1)], 5, 56, some (.agg [.atom (.int .u8 0), .atom (.int .u8 0), .atom (.int .u8 0), .osl 1 true [], .osl 1 true []]), false⟩ := rfl
theorem zhJ : x6 65 = some ⟨.slice 68, 1, 24, some (.osl 2 true []), false⟩ := rfl
theorem zhI : x6 66 = some ⟨.int .u16, 1, 2, some (.atom (.int .u16 0)), false⟩ := rfl
theorem zhH : x6 68 = some ⟨.struct [(0, 1), (1, 1)], 2, 16, some (.agg [.atom (.int .i64 0), .atom (.int .i64 0)]), true⟩ := rfl
theorem zhG : x6 77 = some ⟨.slice 3, 1, 24, some (.osl 1 true []), false⟩ := rfl
theorem zhF : x6 82 = some ⟨.other, 1, 8, some (.atom .nilFunc), false⟩ := rfl
theorem zhE : x6 83 = some ⟨.other, 1, 8, some (.atom .nilFunc), false⟩ := rfl
theorem zhD : x6 84 = some ⟨.other, 1, 8, some (.atom .nilFunc), false⟩ := rfl
theorem zhC : x6 85 = some ⟨.other, 1, 8, some (.atom .nilFunc), false⟩ := rfl
theorem zhB : x6 86 = some ⟨.other, 1, 8, some (.atom .nilFunc), false⟩ := rfl
theorem zhA : x6 87 = some ⟨.other, 1, 8, some (.atom .nilFunc), false⟩ := rfl
theorem zhz : x6 94 = some ⟨.slice 102, 1, 24, some (.osl 2 true []), false⟩ := rfl
theorem zhy : x6 96 = some ⟨.struct [(0, 1), (1, 1)], 2, 32, some (.agg [.atom (.int .i64 0), .osl 2 true []]), false⟩ := rfl
theorem zhx : x6 97 = some ⟨.ptr 96, 1, 8, some (.atom (.pointer none)), false⟩ := rfl
theorem zhw : x6 98 = some ⟨.other, 1, 8, some (.atom .nilFunc), false⟩ := rfl
theorem zhv : x6 99 = some ⟨.other, 1, 8, some (.atom .nilFunc), false⟩ := rfl
theorem zfh : x6 102 = some ⟨.struct [(0, 1), (1, 1)], 2, 32, some (.agg [.osl 1 true [], .atom (.bool false)]), false⟩ := rfl
theorem zfg : x6 104 = some ⟨.other, 1, 8, some (.atom .nilFunc), false⟩ := rfl
theorem zff : x6 109 = some ⟨.other, 1, 8, none, false⟩ := rfl
theorem zfe : x6 111 = some ⟨.other, 1, 8, some (.atom .nilFunc), false⟩ := rfl
theorem zfd : x6 116 = some ⟨.other, 1, 8, some (.atom .nilFunc), false⟩ := rfl
theorem zfc : x6 117 = some ⟨.other, 1, 8, some (.atom .nilFunc), false⟩ := rfl
theorem zfb : x6 118 = some ⟨.other, 1, 8, some (.atom .nilFunc), false⟩ := rfl
theorem zfa : x6 119 = some ⟨.other, 1, 8, some (.atom .nilFunc), false⟩ := rfl
theorem zf9 : x6 122 = some ⟨.struct [(0, 1), (1, 1)], 2, 32, some (.agg [.atom (.int .i64 0), .osl 1 true []]), false⟩ := rfl
theorem zf8 : x6 125 = some ⟨.other, 1, 8, some (.atom .nilFunc), false⟩ := rfl
theorem zf7 : x6 128 = some ⟨.other, 1, 8, some (.atom .nilFunc), false⟩ := rfl
theorem zf6 : x6 130 = some ⟨.other, 1, 8, some (.atom .nilFunc), false⟩ := rfl
theorem zf5 : x6 131 = some ⟨.other, 1, 8, some (.atom .nilFunc), false⟩ := rfl
theorem zf4 : x6 134 = some ⟨.struct [(0, 1), (1, 1), (2, 1)], 3, 24, some (.agg [.atom (.int .i64 0), .atom (.int .i64 0), .atom (.int .i64 0)]), true⟩ := rfl
theorem zf3 : x6 138 = some ⟨.other, 1, 8, some (.atom .nilFunc), false⟩ := rfl
theorem zf2 : x6 139 = some ⟨.slice 29, 1, 24, some (.osl 1 true []), false⟩ := rfl
theorem zf1 : x6 143 = some ⟨.other, 1, 8, some (.atom .nilFunc), false⟩ := rfl
theorem zf0 : x6 144 = some ⟨.slice 122, 1, 24, some (.osl 2 true []), false⟩ := rfl
theorem zeZ : x6 148 = some ⟨.other, 1, 8, some (.atom .nilFunc), false⟩ := rfl
theorem zeY : x6 149 = some ⟨.slice 134, 1, 24, some (.osl 3 true []), false⟩ := rfl
attribute [go_sem] zjN zjM zjL zjK zjJ zjI zhV zhU zhT zhS zhR zhQ zhP zhO zhN zhM zhL zhK zhJ zhI zhH zhG zhF zhE zhD zhC zhB zhA zhz zhy zhx zhw zhv zfh zfg zff zfe zfd zfc zfb zfa zf9 zf8 zf7 zf6 zf5 zf4 zf3 zf2 zf1 zf0 zeZ zeY
structure zD where
 States : Int
 Inputs : Int
 Outputs : Int
 Tree : List Int
 Edges : List Int
def kY (f0 : Int → A) (f1 : Int → A) (f2 : Int → A) (f3 : List Int → A) (f4 : List Int → A) (x : zD) : A := .agg [f0 x.States, f1 x.Inputs, f2 x.Outputs, f3 x.Tree, f4 x.Edges]
instance (f0 : Int → A) (f1 : Int → A) (f2 : Int → A) (f3 : List Int → A) (f4 : List Int → A) (g0 : Int → A) (g1 : Int → A) (g2 : Int → A) (g3 : List Int → A) (g4 : List Int → A) [h0 : Vo f0 g0] [h1 : Vo f1 g1] [h2 : Vo f2 g2] [h3 : Vo f3 g3] [h4 : Vo f4 g4] : Vo (kY f0 f1 f2 f3 f4) (kY g0 g1 g2 g3 g4) := ⟨fun x => by simp [kY, A.loose, A.looses, h0.lo, h1.lo, h2.lo, h3.lo, h4.lo]⟩
instance (f0 : Int → A) (f1 : Int → A) (f2 : Int → A) (f3 : List Int → A) (f4 : List Int → A) [h0 : uI f0] [h1 : uI f1] [h2 : uI f2] [h3 : uI f3] [h4 : uI f4] : uI (kY f0 f1 f2 f3 f4) := ⟨fun x y h => by
 simp only [kY, A.agg.injEq, List.cons.injEq, and_true] at h
 cases x; cases y
 simp only [zD.mk.injEq]
 exact ⟨h0.inj _ _ h.1, h1.inj _ _ h.2.1, h2.inj _ _ h.2.2.1, h3.inj _ _ h.2.2.2.1, h4.inj _ _ h.2.2.2.2⟩⟩
structure yf where
 Inputs : Int
 Words : List (List Int)
def kX (f0 : Int → A) (f1 : List (List Int) → A) (x : yf) : A := .agg [f0 x.Inputs, f1 x.Words]
instance (f0 : Int → A) (f1 : List (List Int) → A) (g0 : Int → A) (g1 : List (List Int) → A) [h0 : Vo f0 g0] [h1 : Vo f1 g1] : Vo (kX f0 f1) (kX g0 g1) := ⟨fun x => by simp [kX, A.loose, A.looses, h0.lo, h1.lo]⟩
instance (f0 : Int → A) (f1 : List (List Int) → A) [h0 : uI f0] [h1 : uI f1] : uI (kX f0 f1) := ⟨fun x y h => by
 simp only [kX, A.agg.injEq, List.cons.injEq, and_true] at h
 cases x; cases y
 simp only [yf.mk.injEq]
 exact ⟨h0.inj _ _ h.1, h1.inj _ _ h.2⟩⟩
structure za where
 To : Int
 Out : Int
def wT (f0 : Int → A) (f1 : Int → A) (x : za) : A := .agg [f0 x.To, f1 x.Out]
instance (f0 : Int → A) (f1 : Int → A) [h0 : z2X f0] [h1 : z2X f1] : z2X (wT f0 f1) := ⟨fun x => by simp [wT, A.isD, A.areD, h0.isD, h1.isD]⟩
instance (f0 : Int → A) (f1 : Int → A) (g0 : Int → A) (g1 : Int → A) [h0 : Vo f0 g0] [h1 : Vo f1 g1] : Vo (wT f0 f1) (wT g0 g1) := ⟨fun x => by simp [wT, A.loose, A.looses, h0.lo, h1.lo]⟩
instance (f0 : Int → A) (f1 : Int → A) (g0 : Int → A) (g1 : Int → A) [h0 : z6N f0 g0] [h1 : z6N f1 g1] : z6N (wT f0 f1) (wT g0 g1) := ⟨fun x => by simp [wT, A.live, A.lives, h0.live, h1.live], fun x => by simp [wT, A.shut, A.shuts, h0.sh, h1.sh]⟩
instance (f0 : Int → A) (f1 : Int → A) [h0 : uI f0] [h1 : uI f1] : uI (wT f0 f1) := ⟨fun x y h => by
 simp only [wT, A.agg.injEq, List.cons.injEq, and_true] at h
 cases x; cases y
 simp only [za.mk.injEq]
 exact ⟨h0.inj _ _ h.1, h1.inj _ _ h.2⟩⟩
structure z7 where
 Inputs : Int
 Outputs : Int
 Rows : List (List za)
def ub (f0 : Int → A) (f1 : Int → A) (f2 : List (List za) → A) (x : z7) : A := .agg [f0 x.Inputs, f1 x.Outputs, f2 x.Rows]
instance (f0 : Int → A) (f1 : Int → A) (f2 : List (List za) → A) (g0 : Int → A) (g1 : Int → A) (g2 : List (List za) → A) [h0 : Vo f0 g0] [h1 : Vo f1 g1] [h2 : Vo f2 g2] : Vo (ub f0 f1 f2) (ub g0 g1 g2) := ⟨fun x => by simp [ub, A.loose, A.looses, h0.lo, h1.lo, h2.lo]⟩
instance (f0 : Int → A) (f1 : Int → A) (f2 : List (List za) → A) [h0 : uI f0] [h1 : uI f1] [h2 : uI f2] : uI (ub f0 f1 f2) := ⟨fun x y h => by
 simp only [ub, A.agg.injEq, List.cons.injEq, and_true] at h
 cases x; cases y
 simp only [z7.mk.injEq]
 exact ⟨h0.inj _ _ h.1, h1.inj _ _ h.2.1, h2.inj _ _ h.2.2⟩⟩
structure zi where
 state_ : Int
 from_ : Int
 input_ : Int
def Ym (f0 : Int → A) (f1 : Int → A) (f2 : Int → A) (x : zi) : A := .agg [f0 x.state_, f1 x.from_, f2 x.input_]
instance (f0 : Int → A) (f1 : Int → A) (f2 : Int → A) [h0 : z2X f0] [h1 : z2X f1] [h2 : z2X f2] : z2X (Ym f0 f1 f2) := ⟨fun x => by simp [Ym, A.isD, A.areD, h0.isD, h1.isD, h2.isD]⟩
structure z8 where
 States : List Bool
 Edges : List (List Bool)
def ww (f0 : List Bool → A) (f1 : List (List Bool) → A) (x : z8) : A := .agg [f0 x.States, f1 x.Edges]
instance (f0 : List Bool → A) (f1 : List (List Bool) → A) (g0 : List Bool → A) (g1 : List (List Bool) → A) [h0 : Vo f0 g0] [h1 : Vo f1 g1] : Vo (ww f0 f1) (ww g0 g1) := ⟨fun x => by simp [ww, A.loose, A.looses, h0.lo, h1.lo]⟩
instance (f0 : List Bool → A) (f1 : List (List Bool) → A) [h0 : uI f0] [h1 : uI f1] : uI (ww f0 f1) := ⟨fun x y h => by
 simp only [ww, A.agg.injEq, List.cons.injEq, and_true] at h
 cases x; cases y
 simp only [z8.mk.injEq]
 exact ⟨h0.inj _ _ h.1, h1.inj _ _ h.2⟩⟩
structure zb where
 Next : List Int
 End : Bool
def yW (f0 : List Int → A) (f1 : Bool → A) (x : zb) : A := .agg [f0 x.Next, f1 x.End]
instance (f0 : List Int → A) (f1 : Bool → A) [h : zgx f0] : zgx (yW f0 f1) := ⟨fun x => by simp [yW, A.isD, A.areD, h.no]⟩
instance (f0 : List Int → A) (f1 : Bool → A) (g0 : List Int → A) (g1 : Bool → A) [h0 : Vo f0 g0] [h1 : Vo f1 g1] : Vo (yW f0 f1) (yW g0 g1) := ⟨fun x => by simp [yW, A.loose, A.looses, h0.lo, h1.lo]⟩
instance (f0 : List Int → A) (f1 : Bool → A) (g0 : List Int → A) (g1 : Bool → A) [h0 : z6N f0 g0] [h1 : z6N f1 g1] : z6N (yW f0 f1) (yW g0 g1) := ⟨fun x => by simp [yW, A.live, A.lives, h0.live, h1.live], fun x => by simp [yW, A.shut, A.shuts, h0.sh, h1.sh]⟩
instance (f0 : List Int → A) (f1 : Bool → A) [h0 : uI f0] [h1 : uI f1] : uI (yW f0 f1) := ⟨fun x y h => by
 simp only [yW, A.agg.injEq, List.cons.injEq, and_true] at h
 cases x; cases y
 simp only [zb.mk.injEq]
 exact ⟨h0.inj _ _ h.1, h1.inj _ _ h.2⟩⟩
structure zu where
 inputs_ : Int
 nodes_ : List zb
def z0o (f0 : Int → A) (f1 : List zb → A) (x : zu) : A := .agg [f0 x.inputs_, f1 x.nodes_]
structure zc where
 at_ : Int
 w_ : List Int
def xO (f0 : Int → A) (f1 : List Int → A) (x : zc) : A := .agg [f0 x.at_, f1 x.w_]
instance (f0 : Int → A) (f1 : List Int → A) [h0 : z2X f0] [h1 : z2X f1] : z2X (xO f0 f1) := ⟨fun x => by simp [xO, A.isD, A.areD, h0.isD, h1.isD]⟩
instance (f0 : Int → A) (f1 : List Int → A) (g0 : Int → A) (g1 : List Int → A) (x : zc) [∀ y, LeA (f0 y) (g0 y)] [∀ y, LeA (f1 y) (g1 y)] [∀ y, SzA (f0 y) (g0 y)] [∀ y, SzA (f1 y) (g1 y)] : LeA (xO f0 f1 x) (xO g0 g1 x) := by unfold xO; infer_instance
instance (f0 : Int → A) (f1 : List Int → A) (g0 : Int → A) (g1 : List Int → A) (x y : zc) [∀ y z, SzA (f0 y) (g0 z)] [∀ y z, SzA (f1 y) (g1 z)] : SzA (xO f0 f1 x) (xO g0 g1 y) := by unfold xO; infer_instance
def jj (l_ : List Int) (k_ : Int) : Option Int :=
 bif decide (k_ < ((l_.length : Nat) : Int)) then (
  Option.bind (idx l_ k_) fun l__e =>
  some (w64 (l__e)))
 else (
  some 0)
def ZM (x_ : zD) (m_Rows2 : List (List za)) : Option z7 :=
 some (z7.mk (w64 (1 + (w64 (Int.tmod x_.Inputs 3)))) (w64 (1 + (w64 (Int.tmod x_.Outputs 3)))) m_Rows2)
def ZL (s_ : Int) (m_Rows4 : List (List za)) : Option (LR (List (List za) × Int) (List (List za))) :=
 some (.next (m_Rows4, w64 (s_ + 1)))
def jC (i_ : Int) (m_Rows6 : List (List za)) : Option (LR (List (List za) × Int) (List (List za))) :=
 some (.next (m_Rows6, w64 (i_ + 1)))
def qu (x_ : zD) (s_ : Int) (m_Rows5 : List (List za)) (i_ : Int) : Option (LR (List (List za) × Int) (List (List za))) :=
 bif decide (i_ < (w64 (1 + (w64 (Int.tmod x_.Inputs 3))))) then (
  Option.bind (idx m_Rows5 s_) fun m_Row_e =>
  Option.bind (idx m_Row_e i_) fun m_Row_e_e =>
  bif decide (m_Row_e_e.To < 0) then (
   Option.bind (idx m_Rows5 s_) fun m_Row_e1 =>
   Option.bind (jj x_.Edges (w64 ((w64 (s_ * (w64 (1 + (w64 (Int.tmod x_.Inputs 3)))))) + i_))) fun r_ =>
   gd (((w64 (1 + (w64 (Int.tmod x_.States 6)))) : Int) ≠ 0) <|
   Option.bind (idx m_Row_e1 i_) fun m_Row_e_e1 =>
   jC i_ (m_Rows5.set s_.toNat (m_Row_e1.set i_.toNat (za.mk (Int.tmod r_ (w64 (1 + (w64 (Int.tmod x_.States 6))))) m_Row_e_e1.Out))))
  else (
   jC i_ m_Rows5))
 else (
  some (.done m_Rows5))
def qw (x_ : zD) (m_Rows3 : List (List za)) (s_ : Int) : Option (LR (List (List za) × Int) (List (List za))) :=
 bif decide (s_ < (w64 (1 + (w64 (Int.tmod x_.States 6))))) then (
  Option.bind (loop (fun s => qu x_ s_ s.1 s.2) (m_Rows3, 0)) fun t6 =>
  ZL s_ t6)
 else (
  some (.done m_Rows3))
def ZN (x_ : zD) (m_Rows1 : List (List za)) : Option z7 :=
 Option.bind (loop (fun s => qw x_ s.1 s.2) (m_Rows1, 0)) fun t4 =>
 ZM x_ t4
def ZK (s_1 : Int) (m_Rows8 : List (List za)) : Option (LR (List (List za) × Int) (List (List za))) :=
 some (.next (m_Rows8, w64 (s_1 + 1)))
def vp (x_ : zD) (m_Rows7 : List (List za)) (s_1 : Int) (k_ : Int) : Option (LR (List (List za) × Int) (List (List za))) :=
 gd (((w64 (1 + (w64 (Int.tmod x_.Inputs 3)))) : Int) ≠ 0) <|
 Option.bind (idx m_Rows7 (w64 (Int.tdiv k_ (w64 (1 + (w64 (Int.tmod x_.Inputs 3))))))) fun m_Row_e2 =>
 gd (((w64 (1 + (w64 (Int.tmod x_.Inputs 3)))) : Int) ≠ 0) <|
 Option.bind (idx m_Row_e2 (Int.tmod k_ (w64 (1 + (w64 (Int.tmod x_.Inputs 3)))))) fun m_Row_e_e2 =>
 ZK s_1 (m_Rows7.set (w64 (Int.tdiv k_ (w64 (1 + (w64 (Int.tmod x_.Inputs 3)))))).toNat (m_Row_e2.set (Int.tmod k_ (w64 (1 + (w64 (Int.tmod x_.Inputs 3))))).toNat (za.mk s_1 m_Row_e_e2.Out)))
def kP (x_ : zD) (m_Rows7 : List (List za)) (s_1 : Int) (free : List Int) : Option (LR (List (List za) × Int) (List (List za))) :=
 Option.bind (idx free 0) fun free_e =>
 bif decide ((w64 (s_1 - 1)) < ((x_.Tree.length : Nat) : Int)) then (
  Option.bind (idx x_.Tree (w64 (s_1 - 1))) fun Tree_e =>
  gd ((((free.length : Nat) : Int) : Int) ≠ 0) <|
  Option.bind (idx free (Int.tmod (w64 (Tree_e)) ((free.length : Nat) : Int))) fun free_e1 =>
  vp x_ m_Rows7 s_1 free_e1)
 else (
  vp x_ m_Rows7 s_1 free_e)
def qQ (k_1 : Int) (free2 : List Int) : Option (LR (List Int × Int) (List Int)) :=
 some (.next (free2, w64 (k_1 + 1)))
def uz (x_ : zD) (m_Rows7 : List (List za)) (s_1 : Int) (free1 : List Int) (k_1 : Int) : Option (LR (List Int × Int) (List Int)) :=
 bif decide (k_1 < (w64 (s_1 * (w64 (1 + (w64 (Int.tmod x_.Inputs 3))))))) then (
  gd (((w64 (1 + (w64 (Int.tmod x_.Inputs 3)))) : Int) ≠ 0) <|
  Option.bind (idx m_Rows7 (w64 (Int.tdiv k_1 (w64 (1 + (w64 (Int.tmod x_.Inputs 3))))))) fun m_Row_e3 =>
  gd (((w64 (1 + (w64 (Int.tmod x_.Inputs 3)))) : Int) ≠ 0) <|
  Option.bind (idx m_Row_e3 (Int.tmod k_1 (w64 (1 + (w64 (Int.tmod x_.Inputs 3)))))) fun m_Row_e_e3 =>
  bif decide (m_Row_e_e3.To < 0) then (
   gd (free1.length + ([k_1] : List Int).length ≤ 4294967296) <|
   qQ k_1 (free1 ++ ([k_1] : List Int)))
  else (
   qQ k_1 free1))
 else (
  some (.done free1))
def qt (x_ : zD) (m_Rows7 : List (List za)) (s_1 : Int) : Option (LR (List (List za) × Int) (List (List za))) :=
 bif decide (s_1 < (w64 (1 + (w64 (Int.tmod x_.States 6))))) then (
  Option.bind (loop (fun s => uz x_ m_Rows7 s_1 s.1 s.2) (([] : List Int), 0)) fun t12 =>
  kP x_ m_Rows7 s_1 t12)
 else (
  some (.done m_Rows7))
def ZO (x_ : zD) (m_Rows : List (List za)) : Option z7 :=
 Option.bind (loop (fun s => qt x_ s.1 s.2) (m_Rows, 1)) fun t8 =>
 ZN x_ t8
def kO (s_2 : Int) (m_Rows10 : List (List za)) : Option (LR (List (List za) × Int) (List (List za))) :=
 some (.next (m_Rows10, w64 (s_2 + 1)))
def kN (m_Rows9 : List (List za)) (s_2 : Int) (row : List za) : Option (LR (List (List za) × Int) (List (List za))) :=
 gd (m_Rows9.length + ([row] : List (List za)).length ≤ 4294967296) <|
 kO s_2 (m_Rows9 ++ ([row] : List (List za)))
def ux (x_ : zD) (s_2 : Int) (row1 : List za) (i_1 : Int) : Option (LR (List za × Int) (List za)) :=
 bif decide (i_1 < (w64 (1 + (w64 (Int.tmod x_.Inputs 3))))) then (
  Option.bind (jj x_.Edges (w64 ((w64 (s_2 * (w64 (1 + (w64 (Int.tmod x_.Inputs 3)))))) + i_1))) fun r_1 =>
  gd (((w64 (1 + (w64 (Int.tmod x_.States 6)))) : Int) ≠ 0) <|
  gd (((w64 (1 + (w64 (Int.tmod x_.Outputs 3)))) : Int) ≠ 0) <|
  gd (row1.length + ([(za.mk (-1) (Int.tmod (w64 (Int.tdiv r_1 (w64 (1 + (w64 (Int.tmod x_.States 6)))))) (w64 (1 + (w64 (Int.tmod x_.Outputs 3))))))] : List za).length ≤ 4294967296) <|
  some (.next ((row1 ++ ([(za.mk (-1) (Int.tmod (w64 (Int.tdiv r_1 (w64 (1 + (w64 (Int.tmod x_.States 6)))))) (w64 (1 + (w64 (Int.tmod x_.Outputs 3))))))] : List za)), w64 (i_1 + 1))))
 else (
  some (.done row1))
def uy (x_ : zD) (m_Rows9 : List (List za)) (s_2 : Int) : Option (LR (List (List za) × Int) (List (List za))) :=
 bif decide (s_2 < (w64 (1 + (w64 (Int.tmod x_.States 6))))) then (
  Option.bind (loop (fun s => ux x_ s_2 s.1 s.2) (([] : List za), 0)) fun t17 =>
  kN m_Rows9 s_2 t17)
 else (
  some (.done m_Rows9))
def Y2 (x_ : zD) : Option z7 :=
 gd ((6 : Int) ≠ 0) <|
 gd ((3 : Int) ≠ 0) <|
 gd ((3 : Int) ≠ 0) <|
 Option.bind (loop (fun s => uy x_ s.1 s.2) (([] : List (List za)), 0)) fun t14 =>
 ZO x_ t14
def ZJ : Option za :=
 some (za.mk (-1) (-1))
def jy (m_ : z7) (x_ : za) : Option Bool :=
 Option.bind (ZJ) fun r_ =>
 bif (x_.To == r_.To) && ((x_.Out == r_.Out) && true) then (
  some true)
 else (
  bif decide (x_.To ≥ 0) then (
   bif decide (x_.To < ((m_.Rows.length : Nat) : Int)) then (
    bif decide (x_.Out ≥ 0) then (
     some (decide (x_.Out < m_.Outputs)))
    else (
     some false))
   else (
    some false))
  else (
   some false))
def qV (x_ : za) (x1 : z7) : Option Bool :=
 Option.bind (jy x1 x_) fun r_ =>
 some (!r_)
def yR : Option Int :=
 some (-1)
def zI (s_ : List za) (f_ : z7) (x8 : Int) : Option (LR Int (Unit ⊕ Int)) :=
 bif decide (x8 < ((s_.length : Nat) : Int)) then (
  Option.bind (idx s_ x8) fun s__e =>
  Option.bind (qV s__e f_) fun r_ =>
  bif r_ then (
   some (.done (.inr x8)))
  else (
   some (.next (w64 (x8 + 1)))))
 else (
  some (.done (.inl ())))
def yn (s_ : List za) (f_ : z7) : Option Int :=
 Option.bind (loop (fun s => zI s_ f_ s) 0) fun t2 =>
 match t2 with
 | .inl p => yR
 | .inr p => some p
def zQ (s_ : List za) (f_ : z7) : Option Bool :=
 Option.bind (yn s_ f_) fun r_ =>
 some (decide (r_ ≥ 0))
def kr : Option Int :=
 some 0
def wy (m_ : z7) (x36 : Int) : Option (LR Int (Unit ⊕ Int)) :=
 bif decide (x36 < ((m_.Rows.length : Nat) : Int)) then (
  Option.bind (idx m_.Rows x36) fun Row_e =>
  bif ((Row_e.length : Nat) : Int) != m_.Inputs then (
   some (.done (.inr 1)))
  else (
   Option.bind (zQ Row_e m_) fun r_ =>
   bif r_ then (
    some (.done (.inr 1)))
   else (
    some (.next (w64 (x36 + 1))))))
 else (
  some (.done (.inl ())))
def vo (m_ : z7) : Option Int :=
 bif decide (m_.Inputs > 16) then (
  some 3)
 else (
  bif decide (m_.Outputs > 16) then (
   some 3)
  else (
   bif decide (((m_.Rows.length : Nat) : Int) > 64) then (
    some 3)
   else (
    bif decide (m_.Inputs < 1) then (
     some 1)
    else (
     bif decide (m_.Outputs < 1) then (
      some 1)
     else (
      bif decide (((m_.Rows.length : Nat) : Int) < 1) then (
       some 1)
      else (
       Option.bind (loop (fun s => wy m_ s) 0) fun t2 =>
       match t2 with
       | .inl p => kr
       | .inr p => some p))))))
def yM (rc_ : Int → (List Bool) → z7 → Option (List Bool × z7)) (Row_e : List za) (x1 : List Bool) (x2_Inputs : Int) (x2_Outputs : Int) (x2_Rows : List (List za)) (x24 : Int) : Option (LR (List Bool × Int × Int × List (List za) × Int) ((List Bool × z7))) :=
 bif decide (x24 < ((Row_e.length : Nat) : Int)) then (
  Option.bind (idx Row_e x24) fun Row_e_e =>
  Option.bind (rc_ Row_e_e.To x1 (z7.mk x2_Inputs x2_Outputs x2_Rows)) fun r_ =>
  some (.next (r_.1, r_.2.Inputs, r_.2.Outputs, r_.2.Rows, w64 (x24 + 1))))
 else (
  some (.done (x1, (z7.mk x2_Inputs x2_Outputs x2_Rows))))
def xH (rc_ : Int → (List Bool) → z7 → Option (List Bool × z7)) (s_ : Int) (y0 : List Bool) (y1 : z7) : Option (List Bool × z7) :=
 bif s_ == (-1) then (
  some (y0, y1))
 else (
  Option.bind (idx y0 s_) fun y_e =>
  bif y_e then (
   some (y0, y1))
  else (
   Option.bind (idx y0 s_) fun y_e1 =>
   Option.bind (idx y1.Rows s_) fun Row_e =>
   Option.bind (loop (fun s => yM rc_ Row_e s.1 s.2.1 s.2.2.1 s.2.2.2.1 s.2.2.2.2) ((y0.set s_.toNat true), y1.Inputs, y1.Outputs, y1.Rows, 0)) fun t1 =>
   some t1))
def yb (fu : Nat) : Int → (List Bool) → z7 → Option (List Bool × z7) := Nat.rec (motive := fun _ => Int → (List Bool) → z7 → Option (List Bool × z7)) (fun _ _ _ => none) (fun _ ih => xH ih) fu
def vn : Option Int :=
 some (-1)
def yo (s_ : List Bool) (v_ : Bool) (x8 : Int) : Option (LR Int (Unit ⊕ Int)) :=
 bif decide (x8 < ((s_.length : Nat) : Int)) then (
  Option.bind (idx s_ x8) fun s__e =>
  bif v_ == s__e then (
   some (.done (.inr x8)))
  else (
   some (.next (w64 (x8 + 1)))))
 else (
  some (.done (.inl ())))
def wP (s_ : List Bool) (v_ : Bool) : Option Int :=
 Option.bind (loop (fun s => yo s_ v_ s) 0) fun t2 =>
 match t2 with
 | .inl p => vn
 | .inr p => some p
def yZ (s_ : List Bool) (v_ : Bool) : Option Bool :=
 Option.bind (wP s_ v_) fun r_ =>
 some (decide (r_ ≥ 0))
def vb (m_ : z7) : Option (Bool × Int) :=
 Option.bind (vo m_) fun r_ =>
 bif r_ != 0 then (
  some (false, r_))
 else (
  gd ((0 : Int) ≤ ((m_.Rows.length : Nat) : Int) ∧ (((m_.Rows.length : Nat) : Int) : Int) ≤ 4294967296) <|
  Option.bind (yb Xq 0 (List.replicate ((m_.Rows.length : Nat) : Int).toNat false) m_) fun r_1 =>
  Option.bind (yZ r_1.1 false) fun r_2 =>
  some (!r_2, 0))
def kG (m_ : z7) (from_ : Int) : Option (z7 × Int) :=
 some (m_, from_)
def yC {σ : Type} (x38 : Int) (seen2 : List Bool) (queue2 : List zi) : Option (LR (List Bool × List zi × Int) ((σ × List Bool × List zi))) :=
 some (.next (seen2, queue2, w64 (x38 + 1)))
def xK {σ : Type} (queue_e : zi) (yr : σ × Bool) (Row_e : List za) (seen1 : List Bool) (queue1 : List zi) (x38 : Int) : Option (LR (List Bool × List zi × Int) ((σ × List Bool × List zi))) :=
 bif decide (x38 < ((Row_e.length : Nat) : Int)) then (
  Option.bind (idx Row_e x38) fun Row_e_e =>
  bif Row_e_e.To != (-1) then (
   Option.bind (idx seen1 Row_e_e.To) fun seen_e =>
   bif !seen_e then (
    Option.bind (idx seen1 Row_e_e.To) fun seen_e1 =>
    gd (queue1.length + ([(zi.mk Row_e_e.To queue_e.state_ x38)] : List zi).length ≤ 4294967296) <|
    yC x38 (seen1.set Row_e_e.To.toNat true) (queue1 ++ ([(zi.mk Row_e_e.To queue_e.state_ x38)] : List zi)))
   else (
    yC x38 seen1 queue1))
  else (
   yC x38 seen1 queue1))
 else (
  some (.done (yr.1, seen1, queue1)))
def wC {σ : Type} (x0 : z7) (yy : σ → zi → Option (σ × Bool)) (sg1 : σ) (seen : List Bool) (queue : List zi) : Option (LR (σ × List Bool × List zi) σ) :=
 bif decide (((queue.length : Nat) : Int) > 0) then (
  Option.bind (idx queue 0) fun queue_e =>
  gd ((0 : Int) ≤ 1 ∧ (1 : Int) ≤ ((queue.length : Nat) : Int)) <|
  Option.bind (yy sg1 queue_e) fun yr =>
  bif !yr.2 then (
   some (.done yr.1))
  else (
   Option.bind (idx x0.Rows queue_e.state_) fun Row_e =>
   Option.bind (loop (fun s => xK queue_e yr Row_e s.1 s.2.1 s.2.2) (seen, (queue.drop (1 : Int).toNat), 0)) fun t2 =>
   some (.next t2)))
 else (
  some (.done sg1))
def ug (x0 : z7) (x1 : Int) {σ : Type} (yy : σ → zi → Option (σ × Bool)) (sg : σ) : Option σ :=
 gd ((0 : Int) ≤ ((x0.Rows.length : Nat) : Int) ∧ (((x0.Rows.length : Nat) : Int) : Int) ≤ 4294967296) <|
 Option.bind (idx (List.replicate ((x0.Rows.length : Nat) : Int).toNat false) x1) fun u_e =>
 Option.bind (loop (fun s => wC x0 yy s.1 s.2.1 s.2.2) (sg, ((List.replicate ((x0.Rows.length : Nat) : Int).toNat false).set x1.toNat true), ([(zi.mk x1 (-1) (-1))] : List zi))) fun t1 =>
 some t1
def zR (s_ : List Int) : Option (List Int) :=
 gd (([] : List Int).length + s_.length ≤ 4294967296) <|
 some s_
def zV (s_ : List Int) : Option (List Int) :=
 gd ((0 : Int) ≤ 0 ∧ (0 : Int) ≤ ((s_.length : Nat) : Int) ∧ (((s_.length : Nat) : Int) : Int) ≤ ((s_.length : Nat) : Int) ∧ (((s_.length : Nat) : Int) : Int) ≤ ((s_.length : Nat) : Int)) <|
 some ((s_.drop 0).take (((s_.length : Nat) : Int).toNat - 0))
def kF (l_ : List (List Int)) (is : List Bool) : Option (List (List Int) × List Bool) :=
 some (l_, is)
def xM (l_1 : List (List Int)) (is1 : List Bool) (x20 : zi) : Option (LR (List (List Int) × List Bool) Empty) :=
 Option.bind (idx is1 x20.state_) fun is_e =>
 bif x20.from_ != (-1) then (
  Option.bind (idx l_1 x20.from_) fun l__e =>
  Option.bind (zR l__e) fun r_1 =>
  gd (r_1.length + ([x20.input_] : List Int).length ≤ 4294967296) <|
  Option.bind (zV (r_1 ++ ([x20.input_] : List Int))) fun r_2 =>
  Option.bind (idx l_1 x20.state_) fun l__e1 =>
  some (.next ((l_1.set x20.state_.toNat r_2), (is1.set x20.state_.toNat true))))
 else (
  some (.next (l_1, (is1.set x20.state_.toNat true))))
def Y3 (m_ : z7) (from_ : Int) : Option (List (List Int) × List Bool) :=
 gd ((0 : Int) ≤ ((m_.Rows.length : Nat) : Int) ∧ (((m_.Rows.length : Nat) : Int) : Int) ≤ 4294967296) <|
 gd ((0 : Int) ≤ ((m_.Rows.length : Nat) : Int) ∧ (((m_.Rows.length : Nat) : Int) : Int) ≤ 4294967296) <|
 Option.bind (kG m_ from_) fun r_ =>
 Option.bind (ug r_.1 r_.2 (yOf (fun s x => xM s.1 s.2 x)) (.next ((List.replicate ((m_.Rows.length : Nat) : Int).toNat ([] : List Int)), (List.replicate ((m_.Rows.length : Nat) : Int).toNat false)))) fun t2 =>
 match t2 with
 | .next (l_1, is1) => (
  kF l_1 is1)
 | .done z => nomatch z
def kR (m_ : z7) : Option (List (List Int) × List Bool × Int) :=
 Option.bind (vo m_) fun r_ =>
 bif r_ != 0 then (
  some (([] : List (List Int)), ([] : List Bool), r_))
 else (
  Option.bind (Y3 m_ 0) fun r_1 =>
  some (r_1.1, r_1.2, 0))
def Zy (c_ : Int) (x1 : Int) : Option Bool :=
 bif decide (c_ < 0) then (
  some true)
 else (
  some (decide (c_ ≥ x1)))
def wH : Option Int :=
 some (-1)
def yd (s_ : List Int) (f_ : Int) (x8 : Int) : Option (LR Int (Unit ⊕ Int)) :=
 bif decide (x8 < ((s_.length : Nat) : Int)) then (
  Option.bind (idx s_ x8) fun s__e =>
  Option.bind (Zy s__e f_) fun r_ =>
  bif r_ then (
   some (.done (.inr x8)))
  else (
   some (.next (w64 (x8 + 1)))))
 else (
  some (.done (.inl ())))
def w7 (s_ : List Int) (f_ : Int) : Option Int :=
 Option.bind (loop (fun s => yd s_ f_ s) 0) fun t2 =>
 match t2 with
 | .inl p => wH
 | .inr p => some p
def xk (s_ : List Int) (f_ : Int) : Option Bool :=
 Option.bind (w7 s_ f_) fun r_ =>
 some (decide (r_ ≥ 0))
def ke (w_ : List Int) (inputs : Int) : Option Int :=
 bif decide (inputs > 16) then (
  some 3)
 else (
  bif decide (((w_.length : Nat) : Int) > 256) then (
   some 3)
  else (
   bif decide (inputs < 1) then (
    some 1)
   else (
    Option.bind (xk w_ inputs) fun r_ =>
    bif r_ then (
     some 1)
    else (
     some 0))))
def YP : Option Int :=
 some 0
def ur (l_ : List (List Int)) (inputs : Int) (x19 : Int) : Option (LR Int (Unit ⊕ Int)) :=
 bif decide (x19 < ((l_.length : Nat) : Int)) then (
  Option.bind (idx l_ x19) fun l__e =>
  Option.bind (ke l__e inputs) fun r_ =>
  bif r_ != 0 then (
   some (.done (.inr r_)))
  else (
   some (.next (w64 (x19 + 1)))))
 else (
  some (.done (.inl ())))
def ki (l_ : List (List Int)) (inputs : Int) : Option Int :=
 bif decide (inputs > 16) then (
  some 3)
 else (
  bif decide (((l_.length : Nat) : Int) > 4096) then (
   some 3)
  else (
   bif decide (inputs < 1) then (
    some 1)
   else (
    Option.bind (loop (fun s => ur l_ inputs s) 0) fun t2 =>
    match t2 with
    | .inl p => YP
    | .inr p => some p)))
def v8 (s_ : List (List Int)) : Option (List (List Int)) :=
 gd (([] : List (List Int)).length + s_.length ≤ 4294967296) <|
 some s_
def jF (x_ : Int) : Option Bool :=
 some (x_ != x_)
def vQ (x_ : Int) (y_ : Int) : Option Int :=
 Option.bind (jF x_) fun r_ =>
 Option.bind (jF y_) fun r_1 =>
 bif r_ then (
  bif r_1 then (
   some 0)
  else (
   some (-1)))
 else (
  bif r_1 then (
   some 1)
  else (
   bif decide (x_ < y_) then (
    some (-1))
   else (
    bif decide (x_ > y_) then (
     some 1)
    else (
     some 0))))
def xN (s1 : List Int) (s2 : List Int) : Option Int :=
 bif decide (((s1.length : Nat) : Int) < ((s2.length : Nat) : Int)) then (
  some (-1))
 else (
  some 0)
def yp (s1 : List Int) (s2 : List Int) (x11 : Int) : Option (LR Int (Unit ⊕ Int)) :=
 bif decide (x11 < ((s1.length : Nat) : Int)) then (
  Option.bind (idx s1 x11) fun s_e =>
  bif decide (x11 ≥ ((s2.length : Nat) : Int)) then (
   some (.done (.inr 1)))
  else (
   Option.bind (idx s2 x11) fun s_e1 =>
   Option.bind (vQ s_e s_e1) fun r_ =>
   bif r_ != 0 then (
    some (.done (.inr r_)))
   else (
    some (.next (w64 (x11 + 1))))))
 else (
  some (.done (.inl ())))
def xG (s1 : List Int) (s2 : List Int) : Option Int :=
 Option.bind (loop (fun s => yp s1 s2 s) 0) fun t2 =>
 match t2 with
 | .inl p => xN s1 s2
 | .inr p => some p
def ZQ : Option Int :=
 some 0
def qA (vals : List Int) (x8 : Int) : Option (LR Int (Unit ⊕ Int)) :=
 bif decide (x8 < ((vals.length : Nat) : Int)) then (
  Option.bind (idx vals x8) fun val_e =>
  bif val_e != 0 then (
   some (.done (.inr val_e)))
  else (
   some (.next (w64 (x8 + 1)))))
 else (
  some (.done (.inl ())))
def Xr (vals : List Int) : Option Int :=
 Option.bind (loop (fun s => qA vals s) 0) fun t2 =>
 match t2 with
 | .inl p => ZQ
 | .inr p => some p
def x3 (a_ : List Int) (b_ : List Int) : Option Int :=
 Option.bind (vQ ((a_.length : Nat) : Int) ((b_.length : Nat) : Int)) fun r_ =>
 Option.bind (xG a_ b_) fun r_1 =>
 Option.bind (Xr ([r_, r_1])) fun r_2 =>
 some r_2
def uq (a_ : List Int) (b_ : List Int) : Option Bool :=
 Option.bind (x3 a_ b_) fun r_ =>
 some (r_ == 0)
def xV (s_ : List (List Int)) : Option (List (List Int)) :=
 some s_
def yV (k_ : Int) : Option (LR Int (Unit ⊕ List (List Int))) :=
 some (.next (w64 (k_ + 1)))
def y5 (s_1 : List (List Int)) (k_1 : Int) : Option (LR Int (Unit ⊕ List (List Int))) :=
 gd ((0 : Int) ≤ k_1 ∧ (k_1 : Int) ≤ ((s_1.length : Nat) : Int)) <|
 gd ((0 : Int) ≤ k_1 ∧ (k_1 : Int) ≤ ((s_1.length : Nat) : Int)) <|
 gd ((0 : Int) ≤ k_1 ∧ (k_1 : Int) ≤ (((s_1.take k_1.toNat ++ List.replicate (s_1.length - k_1.toNat) []).length : Nat) : Int)) <|
 some (.done (.inr ((s_1.take k_1.toNat ++ List.replicate (s_1.length - k_1.toNat) []).take k_1.toNat)))
def y4 (k2 : Int) (s_3 : List (List Int)) (k_3 : Int) : Option (LR (List (List Int) × Int × Int) ((List (List Int) × Int))) :=
 some (.next (s_3, k_3, w64 (k2 + 1)))
def zZ (k_ : Int) (s_2 : List (List Int)) (k_2 : Int) (k2 : Int) : Option (LR (List (List Int) × Int × Int) ((List (List Int) × Int))) :=
 bif decide (k2 < ((s_2.length - k_.toNat : Nat) : Int)) then (
  gd ((0 : Int) ≤ k_ ∧ (0 : Int) ≤ k2) <|
  Option.bind (idx s_2 (k_ + k2)) fun s__e2 =>
  gd ((0 : Int) ≤ k_ ∧ (0 : Int) ≤ w64 (k2 - 1)) <|
  Option.bind (idx s_2 (k_ + (w64 (k2 - 1)))) fun s__e3 =>
  Option.bind (uq s__e2 s__e3) fun r_1 =>
  bif !r_1 then (
   gd ((0 : Int) ≤ k_ ∧ (0 : Int) ≤ k2) <|
   Option.bind (idx s_2 (k_ + k2)) fun s__e4 =>
   Option.bind (idx s_2 k_2) fun s__e5 =>
   y4 k2 (s_2.set k_2.toNat s__e4) (w64 (k_2 + 1)))
  else (
   y4 k2 s_2 k_2))
 else (
  some (.done (s_2, k_2)))
def yj (s_ : List (List Int)) (k_ : Int) : Option (LR Int (Unit ⊕ List (List Int))) :=
 bif decide (k_ < ((s_.length : Nat) : Int)) then (
  Option.bind (idx s_ k_) fun s__e =>
  Option.bind (idx s_ (w64 (k_ - 1))) fun s__e1 =>
  Option.bind (uq s__e s__e1) fun r_ =>
  bif r_ then (
   gd ((0 : Int) ≤ k_ ∧ (k_ : Int) ≤ ((s_.length : Nat) : Int)) <|
   Option.bind (loop (fun s => zZ k_ s.1 s.2.1 s.2.2) (s_, k_, 1)) fun t5 =>
   y5 t5.1 t5.2)
  else (
   yV k_))
 else (
  some (.done (.inl ())))
def yD (s_ : List (List Int)) (eq : Unit) : Option (List (List Int)) :=
 bif decide (((s_.length : Nat) : Int) < 2) then (
  some s_)
 else (
  Option.bind (loop (fun s => yj s_ s) 1) fun t2 =>
  match t2 with
  | .inl p => xV s_
  | .inr p => some p)
def xl (s_ : List (List Int)) : Option (List (List Int)) :=
 some s_
def YO (n_ : Int) : Option Int :=
 some n_
def up (l_ : List (List Int)) (n_1 : Int) (x7 : Int) : Option (LR (Int × Int) Int) :=
 bif decide (x7 < ((l_.length : Nat) : Int)) then (
  Option.bind (idx l_ x7) fun l__e =>
  some (.next (w64 (n_1 + ((l__e.length : Nat) : Int)), w64 (x7 + 1))))
 else (
  some (.done n_1))
def qX (l_ : List (List Int)) : Option Int :=
 Option.bind (loop (fun s => up l_ s.1 s.2) (0, 0)) fun t2 =>
 YO t2
def jr (out : List (List Int × Bool)) : Option (List (List Int) × Int) :=
 gd (∀ q ∈ out, q.2 = true) <|
 some ((out.map (·.1)), 0)
def xP (r_2 : List (List Int)) (out2 : List (List Int × Bool)) (x24 : Int) : Option (LR ((List (List Int × Bool)) × Int) ((List (List Int × Bool)))) :=
 bif decide (x24 < ((r_2.length - (0 : Int).toNat : Nat) : Int)) then (
  gd ((0 : Int) ≤ 0 ∧ (0 : Int) ≤ x24) <|
  Option.bind (idx out2 (0 + x24)) fun out_e =>
  Option.bind (zR out_e.1) fun r_4 =>
  Option.bind (zV r_4) fun r_5 =>
  Option.bind (idx out2 x24) fun out_e1 =>
  some (.next ((out2.set x24.toNat (r_5, true)), w64 (x24 + 1))))
 else (
  some (.done out2))
def xx (l_ : List (List Int)) : Option (List (List Int) × Int) :=
 Option.bind (v8 l_) fun r_ =>
 Option.bind (z7g (fun x y => x3 x y) r_) fun sorted =>
 Option.bind (yD sorted ()) fun r_1 =>
 Option.bind (xl r_1) fun r_2 =>
 bif decide (((r_2.length : Nat) : Int) > 4096) then (
  some (([] : List (List Int)), 3))
 else (
  Option.bind (qX r_2) fun r_3 =>
  bif decide (r_3 > 65536) then (
   some (([] : List (List Int)), 3))
  else (
   Option.bind (loop (fun s => xP r_2 s.1 s.2) ((r_2.map fun q => (q, false)), 0)) fun t2 =>
   jr t2))
def Va (l_ : List (List Int)) (inputs : Int) : Option (List (List Int) × Int) :=
 Option.bind (ki l_ inputs) fun r_ =>
 bif r_ != 0 then (
  some (([] : List (List Int)), r_))
 else (
  Option.bind (xx l_) fun r_1 =>
  some (r_1.1, r_1.2))
def ud (m_ : z7) : Option (List (List Int) × Int) :=
 Option.bind (vb m_) fun r_ =>
 bif r_.2 != 0 then (
  some (([] : List (List Int)), r_.2))
 else (
  bif !r_.1 then (
   some (([] : List (List Int)), 11))
  else (
   Option.bind (kR m_) fun r_1 =>
   bif r_1.2.2 != 0 then (
    some (([] : List (List Int)), r_1.2.2))
   else (
    Option.bind (Va r_1.1 m_.Inputs) fun r_2 =>
    some (r_2.1, r_2.2))))
def YI (k_ : Int) (out1 : List (List Int)) (level1 : List (List Int)) (n_1 : Int) (x45 : Int) (x46 : Bool) (x58 : Bool) : Option (LR (List (List Int) × List (List Int) × Int × Int) ((List (List Int) × Int))) :=
 some (.next (out1, level1, n_1, w64 (k_ + 1)))
def YH (k_ : Int) (out2 : List (List Int)) (n_2 : Int) (x581 : Bool) (next : List (List Int)) : Option (LR (List (List Int) × List (List Int) × Int × Int) ((List (List Int) × Int))) :=
 YI k_ out2 next n_2 n_2 (decide (n_2 > 65536)) x581
def YG (x69 : Int) (next2 : List (List Int)) : Option (LR (List (List Int) × Int) (List (List Int))) :=
 some (.next (next2, w64 (x69 + 1)))
def wY (inputs : Int) (level_e : List Int) (next3 : List (List Int)) (x74 : Int) : Option (LR (List (List Int) × Int) (List (List Int))) :=
 bif decide (x74 < inputs) then (
  Option.bind (zV level_e) fun r_1 =>
  gd (r_1.length + ([x74] : List Int).length ≤ 4294967296) <|
  gd (next3.length + ([(r_1 ++ ([x74] : List Int))] : List (List Int)).length ≤ 4294967296) <|
  some (.next ((next3 ++ ([(r_1 ++ ([x74] : List Int))] : List (List Int))), w64 (x74 + 1))))
 else (
  some (.done next3))
def wZ (inputs : Int) (level : List (List Int)) (next1 : List (List Int)) (x69 : Int) : Option (LR (List (List Int) × Int) (List (List Int))) :=
 bif decide (x69 < ((level.length : Nat) : Int)) then (
  Option.bind (idx level x69) fun level_e =>
  Option.bind (loop (fun s => wY inputs level_e s.1 s.2) (next1, 0)) fun t8 =>
  YG x69 t8)
 else (
  some (.done next1))
def jd (inputs : Int) (to : Int) (level : List (List Int)) (k_ : Int) (out2 : List (List Int)) (n_2 : Int) (x581 : Bool) : Option (LR (List (List Int) × List (List Int) × Int × Int) ((List (List Int) × Int))) :=
 bif k_ == to then (
  Option.bind (xx out2) fun r_ =>
  some (.done (r_.1, r_.2)))
 else (
  Option.bind (loop (fun s => wZ inputs level s.1 s.2) (([] : List (List Int)), 0)) fun t6 =>
  YH k_ out2 n_2 x581 t6)
def je (inputs : Int) (to : Int) (level : List (List Int)) (k_ : Int) (out2 : List (List Int)) (n_2 : Int) : Option (LR (List (List Int) × List (List Int) × Int × Int) ((List (List Int) × Int))) :=
 bif decide (((out2.length : Nat) : Int) > 4096) then (
  some (.done (([] : List (List Int)), 3)))
 else (
  bif decide (n_2 > 65536) then (
   some (.done (([] : List (List Int)), 3)))
  else (
   bif decide (k_ < to) then (
    bif decide ((w64 (((level.length : Nat) : Int) * inputs)) > 4096) then (
     some (.done (([] : List (List Int)), 3)))
    else (
     jd inputs to level k_ out2 n_2 (decide ((w64 (((level.length : Nat) : Int) * inputs)) > 4096))))
   else (
    jd inputs to level k_ out2 n_2 false)))
def vX (inputs : Int) (from_ : Int) (to : Int) (out : List (List Int)) (level : List (List Int)) (n_ : Int) (k_ : Int) : Option (LR (List (List Int) × List (List Int) × Int × Int) ((List (List Int) × Int))) :=
 bif decide (k_ ≥ from_) then (
  gd (out.length + level.length ≤ 4294967296) <|
  je inputs to level k_ (out ++ level) (w64 (n_ + (w64 (k_ * ((level.length : Nat) : Int))))))
 else (
  je inputs to level k_ out n_)
def Xj (inputs : Int) (from_ : Int) (to : Int) : Option (List (List Int) × Int) :=
 bif decide (inputs > 16) then (
  some (([] : List (List Int)), 3))
 else (
  bif decide (inputs < 1) then (
   some (([] : List (List Int)), 1))
  else (
   bif decide (to < 0) then (
    some (([] : List (List Int)), 1))
   else (
    bif decide (to > 256) then (
     some (([] : List (List Int)), 3))
    else (
     Option.bind (loop (fun s => vX inputs from_ to s.1 s.2.1 s.2.2.1 s.2.2.2) (([] : List (List Int)), ([[]] : List (List Int)), 0, 0)) fun t1 =>
     some t1))))
def Xk (inputs : Int) (k_ : Int) : Option (List (List Int) × Int) :=
 Option.bind (Xj inputs 0 k_) fun r_ =>
 some (r_.1, r_.2)
def kI : Option Bool :=
 some true
def ut (l_ : List (List Int)) (i_ : Int) : Option (LR Int (Unit ⊕ Bool)) :=
 bif decide (i_ < ((l_.length : Nat) : Int)) then (
  Option.bind (idx l_ (w64 (i_ - 1))) fun l__e =>
  Option.bind (idx l_ i_) fun l__e1 =>
  Option.bind (x3 l__e l__e1) fun r_ =>
  bif decide (r_ ≥ 0) then (
   some (.done (.inr false)))
  else (
   some (.next (w64 (i_ + 1)))))
 else (
  some (.done (.inl ())))
def Y7 (l_ : List (List Int)) : Option Bool :=
 Option.bind (loop (fun s => ut l_ s) 1) fun t2 =>
 match t2 with
 | .inl p => kI
 | .inr p => some p
def uW (l_ : List (List Int)) (inputs : Int) : Option Int :=
 Option.bind (ki l_ inputs) fun r_ =>
 bif r_ != 0 then (
  some r_)
 else (
  Option.bind (Y7 l_) fun r_1 =>
  bif !r_1 then (
   some 1)
  else (
   Option.bind (qX l_) fun r_2 =>
   bif decide (r_2 > 65536) then (
    some 3)
   else (
    some 0)))
def ZB : Option Int :=
 some 0
def qg (inputs : Int) (l_ : List (List (List Int))) (x10 : Int) : Option (LR Int (Unit ⊕ Int)) :=
 bif decide (x10 < ((l_.length : Nat) : Int)) then (
  Option.bind (idx l_ x10) fun l__e =>
  Option.bind (uW l__e inputs) fun r_ =>
  bif r_ != 0 then (
   some (.done (.inr r_)))
  else (
   some (.next (w64 (x10 + 1)))))
 else (
  some (.done (.inl ())))
def Xi (inputs : Int) (l_ : List (List (List Int))) : Option Int :=
 Option.bind (loop (fun s => qg inputs l_ s) 0) fun t2 =>
 match t2 with
 | .inl p => ZB
 | .inr p => some p
def WK (b_ : List Int) : Option (List UInt8) :=
 some (u8s b_)
def vW (w_ : List Int) (b_1 : List Int) (x11 : Int) : Option (LR (List Int × Int) (List Int)) :=
 bif decide (x11 < ((w_.length : Nat) : Int)) then (
  Option.bind (idx w_ x11) fun w__e =>
  Option.bind (idx b_1 x11) fun b__e =>
  some (.next ((b_1.set x11.toNat (IntKind.u8.wrap (w__e))), w64 (x11 + 1))))
 else (
  some (.done b_1))
def WL (w_ : List Int) : Option (List UInt8) :=
 gd ((0 : Int) ≤ ((w_.length : Nat) : Int) ∧ (((w_.length : Nat) : Int) : Int) ≤ 4294967296) <|
 Option.bind (loop (fun s => vW w_ s.1 s.2) ((List.replicate ((w_.length : Nat) : Int).toNat (0 : Int)), 0)) fun t2 =>
 WK t2
def uV (out : List (List Int)) : Option (List (List Int) × Int) :=
 Option.bind (xx out) fun r_1 =>
 some (r_1.1, r_1.2)
def uU (x29 : Int) (seen1 : List ((List UInt8) × Bool)) (n_1 : Int) (out2 : List (List Int)) : Option (LR ((List ((List UInt8) × Bool)) × Int × List (List Int) × Int) (List (List Int) ⊕ (List (List Int) × Int))) :=
 some (.next (seen1, n_1, out2, w64 (x29 + 1)))
def vI (x35 : Int) (seen3 : List ((List UInt8) × Bool)) (n_3 : Int) (out4 : List (List Int)) : Option (LR ((List ((List UInt8) × Bool)) × Int × List (List Int) × Int) (((List ((List UInt8) × Bool)) × Int × List (List Int)) ⊕ (List (List Int) × Int))) :=
 bif decide (((out4.length : Nat) : Int) > 4096) then (
  some (.done (.inr (([] : List (List Int)), 3))))
 else (
  bif decide (n_3 > 65536) then (
   some (.done (.inr (([] : List (List Int)), 3))))
  else (
   some (.next (seen3, n_3, out4, w64 (x35 + 1)))))
def vH (b_ : List (List Int)) (a__e : List Int) (seen2 : List ((List UInt8) × Bool)) (n_2 : Int) (out3 : List (List Int)) (x35 : Int) : Option (LR ((List ((List UInt8) × Bool)) × Int × List (List Int) × Int) (((List ((List UInt8) × Bool)) × Int × List (List Int)) ⊕ (List (List Int) × Int))) :=
 bif decide (x35 < ((b_.length : Nat) : Int)) then (
  Option.bind (idx b_ x35) fun b__e =>
  Option.bind (zV a__e) fun r_2 =>
  gd (r_2.length + b__e.length ≤ 4294967296) <|
  bif decide ((((r_2 ++ b__e).length : Nat) : Int) > 256) then (
   some (.done (.inr (([] : List (List Int)), 3))))
  else (
   Option.bind (WL (r_2 ++ b__e)) fun r_3 =>
   Option.bind (some ((z1w seen2 r_3).getD false)) fun val =>
   bif !val then (
    gd (out3.length + ([(r_2 ++ b__e)] : List (List Int)).length ≤ 4294967296) <|
    vI x35 (z5L seen2 r_3 true) (w64 (n_2 + (((r_2 ++ b__e).length : Nat) : Int))) (out3 ++ ([(r_2 ++ b__e)] : List (List Int))))
   else (
    vI x35 seen2 n_2 out3)))
 else (
  some (.done (.inl (seen2, n_2, out3))))
def uT (a_ : List (List Int)) (b_ : List (List Int)) (seen : List ((List UInt8) × Bool)) (n_ : Int) (out1 : List (List Int)) (x29 : Int) : Option (LR ((List ((List UInt8) × Bool)) × Int × List (List Int) × Int) (List (List Int) ⊕ (List (List Int) × Int))) :=
 bif decide (x29 < ((a_.length : Nat) : Int)) then (
  Option.bind (idx a_ x29) fun a__e =>
  Option.bind (loop (fun s => vH b_ a__e s.1 s.2.1 s.2.2.1 s.2.2.2) (seen, n_, out1, 0)) fun t4 =>
  match t4 with
  | .inl p => uU x29 p.1 p.2.1 p.2.2
  | .inr p => some (.done (.inr p)))
 else (
  some (.done (.inl out1)))
def jg (a_ : List (List Int)) (b_ : List (List Int)) (inputs : Int) : Option (List (List Int) × Int) :=
 Option.bind (Xi inputs ([a_, b_])) fun r_ =>
 bif r_ != 0 then (
  some (([] : List (List Int)), r_))
 else (
  Option.bind (loop (fun s => uT a_ b_ s.1 s.2.1 s.2.2.1 s.2.2.2) (([] : List ((List UInt8) × Bool)), 0, ([] : List (List Int)), 0)) fun t2 =>
  match t2 with
  | .inl p => uV p
  | .inr p => some p)
def wK (m_ : z7) (k_ : Int) : Option (List (List Int) × Int) :=
 Option.bind (ud m_) fun r_ =>
 bif r_.2 != 0 then (
  some (([] : List (List Int)), r_.2))
 else (
  bif decide (k_ < 0) then (
   some (([] : List (List Int)), 1))
  else (
   Option.bind (Xk m_.Inputs k_) fun r_1 =>
   bif r_1.2 != 0 then (
    some (([] : List (List Int)), r_1.2))
   else (
    Option.bind (jg r_.1 r_1.1 m_.Inputs) fun r_2 =>
    some (r_2.1, r_2.2))))
def w9 (m_ : z7) : Option (List (List Int) × Int) :=
 Option.bind (wK m_ 1) fun r_ =>
 some (r_.1, r_.2)
def xy (m_ : z7) (l_ : List (List Int)) : Option Int :=
 Option.bind (vo m_) fun r_ =>
 bif r_ != 0 then (
  some r_)
 else (
  Option.bind (uW l_ m_.Inputs) fun r_1 =>
  some r_1)
def Yn (m_ : z7) (c_Edges : List (List Bool)) : Option z8 :=
 some (z8.mk (List.replicate ((m_.Rows.length : Nat) : Int).toNat false) c_Edges)
def wJ (m_ : z7) (c_Edges1 : List (List Bool)) (x17 : Int) : Option (LR (List (List Bool) × Int) (List (List Bool))) :=
 bif decide (x17 < ((m_.Rows.length : Nat) : Int)) then (
  gd ((0 : Int) ≤ m_.Inputs ∧ (m_.Inputs : Int) ≤ 4294967296) <|
  Option.bind (idx c_Edges1 x17) fun c_Edge_e =>
  some (.next ((c_Edges1.set x17.toNat (List.replicate m_.Inputs.toNat false)), w64 (x17 + 1))))
 else (
  some (.done c_Edges1))
def jk (m_ : z7) : Option z8 :=
 gd ((0 : Int) ≤ ((m_.Rows.length : Nat) : Int) ∧ (((m_.Rows.length : Nat) : Int) : Int) ≤ 4294967296) <|
 gd ((0 : Int) ≤ ((m_.Rows.length : Nat) : Int) ∧ (((m_.Rows.length : Nat) : Int) : Int) ≤ 4294967296) <|
 Option.bind (loop (fun s => wJ m_ s.1 s.2) ((List.replicate ((m_.Rows.length : Nat) : Int).toNat ([] : List Bool)), 0)) fun t2 =>
 Yn m_ t2
def vq {σ : Type} (yy : σ → (Int × Int) → Option σ) (m_ : z7) (w_ : List Int) (sg2 : σ) (s_ : Int) (x14 : Int) : Option (LR (σ × Int × Int) σ) :=
 bif decide (x14 < ((w_.length : Nat) : Int)) then (
  Option.bind (idx w_ x14) fun w__e =>
  Option.bind (idx m_.Rows s_) fun Row_e =>
  Option.bind (idx Row_e w__e) fun Row_e_e =>
  bif Row_e_e.To == (-1) then (
   some (.done sg2))
  else (
   Option.bind (yy sg2 (Row_e_e.To, w64 (x14 + 1))) fun sg3 =>
   some (.next (sg3, Row_e_e.To, w64 (x14 + 1)))))
 else (
  some (.done sg2))
def vt (m_ : z7) (w_ : List Int) {σ : Type} (yy : σ → (Int × Int) → Option σ) (sg : σ) : Option σ :=
 Option.bind (yy sg (0, 0)) fun sg1 =>
 Option.bind (loop (fun s => vq yy m_ w_ s.1 s.2.1 s.2.2) (sg1, 0, 0)) fun t1 =>
 some t1
def qz (x0 : List Int) (s_ : Int) (k_ : Int) (y1 : z8) : Option z8 :=
 bif k_ == ((x0.length : Nat) : Int) then (
  Option.bind (idx y1.States s_) fun State_e =>
  some (z8.mk (y1.States.set s_.toNat true) y1.Edges))
 else (
  bif k_ == (w64 (((x0.length : Nat) : Int) - 1)) then (
   Option.bind (idx y1.Edges s_) fun Edge_e =>
   Option.bind (idx x0 k_) fun x_e =>
   Option.bind (idx Edge_e x_e) fun Edge_e_e =>
   some (z8.mk y1.States (y1.Edges.set s_.toNat (Edge_e.set x_e.toNat true))))
  else (
   some y1))
def X3 (c_States : List Bool) (c_Edges : List (List Bool)) : Option z8 :=
 some (z8.mk c_States c_Edges)
def uA (m_ : z7) (l_ : List (List Int)) (c_States1 : List Bool) (c_Edges1 : List (List Bool)) (x12 : Int) : Option (LR (List Bool × List (List Bool) × Int) ((List Bool × List (List Bool)))) :=
 bif decide (x12 < ((l_.length : Nat) : Int)) then (
  Option.bind (idx l_ x12) fun l__e =>
  Option.bind (vt m_ l__e (fun s x => qz l__e x.1 x.2 s) (z8.mk c_States1 c_Edges1)) fun r_1 =>
  some (.next (r_1.States, r_1.Edges, w64 (x12 + 1))))
 else (
  some (.done (c_States1, c_Edges1)))
def kz (m_ : z7) (l_ : List (List Int)) : Option z8 :=
 Option.bind (jk m_) fun r_ =>
 Option.bind (loop (fun s => uA m_ l_ s.1 s.2.1 s.2.2) (r_.States, r_.Edges, 0)) fun t2 =>
 X3 t2.1 t2.2
def ve (is : Bool) : Option Bool :=
 some is
def uc (x_ : Bool) (x1 : Unit) : Option Bool :=
 Option.bind (ve x_) fun r_ =>
 some (!r_)
def wg : Option Int :=
 some (-1)
def y8 (s_ : List Bool) (x8 : Int) : Option (LR Int (Unit ⊕ Int)) :=
 bif decide (x8 < ((s_.length : Nat) : Int)) then (
  Option.bind (idx s_ x8) fun s__e =>
  Option.bind (uc s__e ()) fun r_ =>
  bif r_ then (
   some (.done (.inr x8)))
  else (
   some (.next (w64 (x8 + 1)))))
 else (
  some (.done (.inl ())))
def xD (s_ : List Bool) (f_ : Unit) : Option Int :=
 Option.bind (loop (fun s => y8 s_ s) 0) fun t2 =>
 match t2 with
 | .inl p => wg
 | .inr p => some p
def x5 (s_ : List Bool) (f_ : Unit) : Option Bool :=
 Option.bind (xD s_ ()) fun r_ =>
 some (decide (r_ ≥ 0))
def vP (l_ : List Bool) (is : Unit) : Option Bool :=
 Option.bind (x5 l_ ()) fun r_ =>
 some (!r_)
def yH (m_ : z7) (l_ : List (List Int)) : Option (Bool × Int) :=
 Option.bind (xy m_ l_) fun r_ =>
 bif r_ != 0 then (
  some (false, r_))
 else (
  Option.bind (kz m_ l_) fun r_1 =>
  Option.bind (vP r_1.States ()) fun r_2 =>
  some (r_2, 0))
def xa (is : Bool) : Option Bool :=
 some is
def wR (x_ : Bool) (x1 : Unit) : Option Bool :=
 Option.bind (xa x_) fun r_ =>
 some (!r_)
def xA : Option Int :=
 some (-1)
def zS (s_ : List Bool) (x8 : Int) : Option (LR Int (Unit ⊕ Int)) :=
 bif decide (x8 < ((s_.length : Nat) : Int)) then (
  Option.bind (idx s_ x8) fun s__e =>
  Option.bind (wR s__e ()) fun r_ =>
  bif r_ then (
   some (.done (.inr x8)))
  else (
   some (.next (w64 (x8 + 1)))))
 else (
  some (.done (.inl ())))
def x4 (s_ : List Bool) (f_ : Unit) : Option Int :=
 Option.bind (loop (fun s => zS s_ s) 0) fun t2 =>
 match t2 with
 | .inl p => xA
 | .inr p => some p
def yz (s_ : List Bool) (f_ : Unit) : Option Bool :=
 Option.bind (x4 s_ ()) fun r_ =>
 some (decide (r_ ≥ 0))
def wo (l_ : List Bool) (is : Unit) : Option Bool :=
 Option.bind (yz l_ ()) fun r_ =>
 some (!r_)
def xE (r_ : List Bool) : Option Bool :=
 Option.bind (wo r_ ()) fun r_1 =>
 some r_1
def vA (x_ : List Bool) (x1 : Unit) : Option Bool :=
 Option.bind (xE x_) fun r_ =>
 some (!r_)
def xU : Option Int :=
 some (-1)
def zY (s_ : List (List Bool)) (x8 : Int) : Option (LR Int (Unit ⊕ Int)) :=
 bif decide (x8 < ((s_.length : Nat) : Int)) then (
  Option.bind (idx s_ x8) fun s__e =>
  Option.bind (vA s__e ()) fun r_ =>
  bif r_ then (
   some (.done (.inr x8)))
  else (
   some (.next (w64 (x8 + 1)))))
 else (
  some (.done (.inl ())))
def xj (s_ : List (List Bool)) (f_ : Unit) : Option Int :=
 Option.bind (loop (fun s => zY s_ s) 0) fun t2 =>
 match t2 with
 | .inl p => xU
 | .inr p => some p
def yU (s_ : List (List Bool)) (f_ : Unit) : Option Bool :=
 Option.bind (xj s_ ()) fun r_ =>
 some (decide (r_ ≥ 0))
def vd (l_ : List (List Bool)) (is : Unit) : Option Bool :=
 Option.bind (yU l_ ()) fun r_ =>
 some (!r_)
def y6 (m_ : z7) (l_ : List (List Int)) : Option (Bool × Int) :=
 Option.bind (xy m_ l_) fun r_ =>
 bif r_ != 0 then (
  some (false, r_))
 else (
  Option.bind (kz m_ l_) fun r_1 =>
  Option.bind (vd r_1.Edges ()) fun r_2 =>
  some (r_2, 0))
def wX (b_ : zu) (n_Next : List Int) : Option (Int × zu) :=
 gd (b_.nodes_.length + ([(zb.mk n_Next false)] : List zb).length ≤ 4294967296) <|
 some (w64 ((((b_.nodes_ ++ ([(zb.mk n_Next false)] : List zb)).length : Nat) : Int) - 1), (zu.mk b_.inputs_ (b_.nodes_ ++ ([(zb.mk n_Next false)] : List zb))))
def yi (b_ : zu) (n_Next1 : List Int) (x14 : Int) : Option (LR (List Int × Int) (List Int)) :=
 bif decide (x14 < (((List.replicate b_.inputs_.toNat (0 : Int)).length : Nat) : Int)) then (
  Option.bind (idx n_Next1 x14) fun n_Next_e =>
  some (.next ((n_Next1.set x14.toNat (-1)), w64 (x14 + 1))))
 else (
  some (.done n_Next1))
def w6 (b_ : zu) : Option (Int × zu) :=
 gd ((0 : Int) ≤ b_.inputs_ ∧ (b_.inputs_ : Int) ≤ 4294967296) <|
 Option.bind (loop (fun s => yi b_ s.1 s.2) ((List.replicate b_.inputs_.toNat (0 : Int)), 0)) fun t2 =>
 wX b_ t2
def wn (b_inputs1 : Int) (b_nodes1 : List zb) (at_ : Int) : Option zu :=
 Option.bind (idx b_nodes1 at_) fun b_node_e =>
 some (zu.mk b_inputs1 (b_nodes1.set at_.toNat (zb.mk b_node_e.Next true)))
def xv (at_1 : Int) (x18 : Int) (w__e : Int) (b_inputs3 : Int) (b_nodes3 : List zb) : Option (LR (Int × List zb × Int × Int) ((Int × List zb × Int))) :=
 Option.bind (idx b_nodes3 at_1) fun b_node_e1 =>
 Option.bind (idx b_node_e1.Next w__e) fun Next_e =>
 some (.next (b_inputs3, b_nodes3, Next_e, w64 (x18 + 1)))
def wm (w_ : List Int) (b_inputs2 : Int) (b_nodes2 : List zb) (at_1 : Int) (x18 : Int) : Option (LR (Int × List zb × Int × Int) ((Int × List zb × Int))) :=
 bif decide (x18 < ((w_.length : Nat) : Int)) then (
  Option.bind (idx w_ x18) fun w__e =>
  Option.bind (idx b_nodes2 at_1) fun b_node_e2 =>
  Option.bind (idx b_node_e2.Next w__e) fun Next_e1 =>
  bif Next_e1 == (-1) then (
   Option.bind (w6 (zu.mk b_inputs2 b_nodes2)) fun r_ =>
   Option.bind (idx r_.2.nodes_ at_1) fun nodes__e =>
   Option.bind (idx nodes__e.Next w__e) fun Next_e2 =>
   xv at_1 x18 w__e r_.2.inputs_ (r_.2.nodes_.set at_1.toNat (zb.mk (nodes__e.Next.set w__e.toNat r_.1) nodes__e.End)))
  else (
   xv at_1 x18 w__e b_inputs2 b_nodes2))
 else (
  some (.done (b_inputs2, b_nodes2, at_1)))
def xw (w_ : List Int) (b_inputs : Int) (b_nodes : List zb) : Option zu :=
 Option.bind (loop (fun s => wm w_ s.1 s.2.1 s.2.2.1 s.2.2.2) (b_inputs, b_nodes, 0, 0)) fun t3 =>
 wn t3.1 t3.2.1 t3.2.2
def vG (w_ : List Int) (b_ : zu) : Option zu :=
 bif ((b_.nodes_.length : Nat) : Int) == 0 then (
  Option.bind (w6 b_) fun r_1 =>
  xw w_ r_1.2.inputs_ r_1.2.nodes_)
 else (
  xw w_ b_.inputs_ b_.nodes_)
def Y6 (b_inputs : Int) (b_nodes : List zb) : Option zu :=
 some (zu.mk b_inputs b_nodes)
def Y5 (l_ : List (List Int)) (b_inputs1 : Int) (b_nodes1 : List zb) (x13 : Int) : Option (LR (Int × List zb × Int) ((Int × List zb))) :=
 bif decide (x13 < ((l_.length : Nat) : Int)) then (
  Option.bind (idx l_ x13) fun l__e =>
  Option.bind (vG l__e (zu.mk b_inputs1 b_nodes1)) fun r_ =>
  some (.next (r_.inputs_, r_.nodes_, w64 (x13 + 1))))
 else (
  some (.done (b_inputs1, b_nodes1)))
def V9 (l_ : List (List Int)) (inputs : Int) : Option zu :=
 Option.bind (loop (fun s => Y5 l_ s.1 s.2.1 s.2.2) (inputs, ([] : List zb), 0)) fun t2 =>
 Y6 t2.1 t2.2
def ZZ (nodes : List zb) : Option (List zb) :=
 some nodes
def jq {σ : Type} (sg2 : σ) (next : List zc) : Option (LR (σ × List zc) σ) :=
 some (.next (sg2, next))
def jp {σ : Type} (x19 : Int) (sg4 : σ) (next2 : List zc) : Option (LR (σ × List zc × Int) ((σ × List zc) ⊕ σ)) :=
 some (.next (sg4, next2, w64 (x19 + 1)))
def vE {σ : Type} (x34 : Int) (next4 : List zc) : Option (LR (List zc × Int) ((σ × List zc))) :=
 some (.next (next4, w64 (x34 + 1)))
def xe {σ : Type} (level_e : zc) (yr : σ × Bool) (x_e : zb) (next3 : List zc) (x34 : Int) : Option (LR (List zc × Int) ((σ × List zc))) :=
 bif decide (x34 < ((x_e.Next.length : Nat) : Int)) then (
  Option.bind (idx x_e.Next x34) fun Next_e =>
  bif Next_e != (-1) then (
   Option.bind (zV level_e.w_) fun r_ =>
   gd (r_.length + ([x34] : List Int).length ≤ 4294967296) <|
   gd (next3.length + ([(zc.mk Next_e (r_ ++ ([x34] : List Int)))] : List zc).length ≤ 4294967296) <|
   vE x34 (next3 ++ ([(zc.mk Next_e (r_ ++ ([x34] : List Int)))] : List zc)))
  else (
   vE x34 next3))
 else (
  some (.done (yr.1, next3)))
def vC {σ : Type} (x0 : List zb) (yy : σ → zc → Option (σ × Bool)) (level1 : List zc) (sg3 : σ) (next1 : List zc) (x19 : Int) : Option (LR (σ × List zc × Int) ((σ × List zc) ⊕ σ)) :=
 bif decide (x19 < ((level1.length : Nat) : Int)) then (
  Option.bind (idx level1 x19) fun level_e =>
  Option.bind (yy sg3 level_e) fun yr =>
  bif !yr.2 then (
   some (.done (.inr yr.1)))
  else (
   Option.bind (idx x0 level_e.at_) fun x_e =>
   Option.bind (loop (fun s => xe level_e yr x_e s.1 s.2) (next1, 0)) fun t6 =>
   jp x19 t6.1 t6.2))
 else (
  some (.done (.inl (sg3, next1))))
def vD {σ : Type} (x0 : List zb) (yy : σ → zc → Option (σ × Bool)) (sg1 : σ) (level1 : List zc) : Option (LR (σ × List zc) σ) :=
 bif decide (((level1.length : Nat) : Int) > 0) then (
  Option.bind (loop (fun s => vC x0 yy level1 s.1 s.2.1 s.2.2) (sg1, ([] : List zc), 0)) fun t4 =>
  match t4 with
  | .inl p => jq p.1 p.2
  | .inr p => some (.done p))
 else (
  some (.done sg1))
def vF {σ : Type} (x0 : List zb) (yy : σ → zc → Option (σ × Bool)) (sg : σ) (level : List zc) : Option σ :=
 Option.bind (loop (fun s => vD x0 yy s.1 s.2) (sg, level)) fun t2 =>
 some t2
def vV (x0 : List zb) {σ : Type} (yy : σ → zc → Option (σ × Bool)) (sg : σ) : Option σ :=
 bif decide (((x0.length : Nat) : Int) > 0) then (
  vF x0 yy sg ([(zc.mk 0 [])] : List zc))
 else (
  vF x0 yy sg ([] : List zc))
def YF (k_ : Int) : Option Bool :=
 some (k_ != (-1))
def xT : Option Int :=
 some (-1)
def zX (s_ : List Int) (x8 : Int) : Option (LR Int (Unit ⊕ Int)) :=
 bif decide (x8 < ((s_.length : Nat) : Int)) then (
  Option.bind (idx s_ x8) fun s__e =>
  Option.bind (YF s__e) fun r_ =>
  bif r_ then (
   some (.done (.inr x8)))
  else (
   some (.next (w64 (x8 + 1)))))
 else (
  some (.done (.inl ())))
def xi (s_ : List Int) (f_ : Unit) : Option Int :=
 Option.bind (loop (fun s => zX s_ s) 0) fun t2 =>
 match t2 with
 | .inl p => xT
 | .inr p => some p
def yT (s_ : List Int) (f_ : Unit) : Option Bool :=
 Option.bind (xi s_ ()) fun r_ =>
 some (decide (r_ ≥ 0))
def Xh (n_ : zb) : Option Bool :=
 Option.bind (yT n_.Next ()) fun r_ =>
 some (!r_)
def yl (s_ : List (List Int)) : Option (List (List Int)) :=
 gd ((0 : Int) ≤ 0 ∧ (0 : Int) ≤ ((s_.length : Nat) : Int) ∧ (((s_.length : Nat) : Int) : Int) ≤ ((s_.length : Nat) : Int) ∧ (((s_.length : Nat) : Int) : Int) ≤ ((s_.length : Nat) : Int)) <|
 some ((s_.drop 0).take (((s_.length : Nat) : Int).toNat - 0))
def qR (out : List (List Int)) : Option (List (List Int)) :=
 Option.bind (yl out) fun r_ =>
 some r_
def ui (nodes : List zb) (out1 : List (List Int)) (x8 : zc) : Option (LR (List (List Int)) Empty) :=
 Option.bind (idx nodes x8.at_) fun node_e =>
 Option.bind (Xh node_e) fun r_2 =>
 bif r_2 then (
  Option.bind (zR x8.w_) fun r_3 =>
  Option.bind (zV r_3) fun r_4 =>
  gd (out1.length + ([r_4] : List (List Int)).length ≤ 4294967296) <|
  some (.next (out1 ++ ([r_4] : List (List Int)))))
 else (
  some (.next out1))
def js (nodes : List zb) (is : Unit) : Option (List (List Int)) :=
 Option.bind (ZZ nodes) fun r_1 =>
 Option.bind (vV r_1 (yOf (fun s x => ui nodes s x)) (.next ([] : List (List Int)))) fun t2 =>
 match t2 with
 | .next out1 => (
  qR out1)
 | .done z => nomatch z
def jf (l_ : List (List Int)) (inputs : Int) : Option (List (List Int) × Int) :=
 Option.bind (uW l_ inputs) fun r_ =>
 bif r_ != 0 then (
  some (([] : List (List Int)), r_))
 else (
  Option.bind (V9 l_ inputs) fun r_1 =>
  Option.bind (js r_1.nodes_ ()) fun r_2 =>
  some (r_2, 0))
def wj (x1 : List Int) (x2 : z7) (s_ : Int) (k_ : Int) (y0 : z8) : Option z8 :=
 Option.bind (idx y0.States s_) fun State_e =>
 bif decide (k_ < ((x1.length : Nat) : Int)) then (
  Option.bind (idx x2.Rows s_) fun Row_e =>
  Option.bind (idx x1 k_) fun x_e =>
  Option.bind (idx Row_e x_e) fun Row_e_e =>
  bif Row_e_e.To != (-1) then (
   Option.bind (idx y0.Edges s_) fun Edge_e =>
   Option.bind (idx x1 k_) fun x_e1 =>
   Option.bind (idx Edge_e x_e1) fun Edge_e_e =>
   some (z8.mk (y0.States.set s_.toNat true) (y0.Edges.set s_.toNat (Edge_e.set x_e1.toNat true))))
  else (
   some (z8.mk (y0.States.set s_.toNat true) y0.Edges)))
 else (
  some (z8.mk (y0.States.set s_.toNat true) y0.Edges))
def kA (c_States : List Bool) (c_Edges : List (List Bool)) : Option (z8 × Int) :=
 some ((z8.mk c_States c_Edges), 0)
def wz (m_ : z7) (l_ : List (List Int)) (c_States1 : List Bool) (c_Edges1 : List (List Bool)) (x21 : Int) : Option (LR (List Bool × List (List Bool) × Int) ((List Bool × List (List Bool)))) :=
 bif decide (x21 < ((l_.length : Nat) : Int)) then (
  Option.bind (idx l_ x21) fun l__e =>
  Option.bind (vt m_ l__e (fun s x => wj l__e m_ x.1 x.2 s) (z8.mk c_States1 c_Edges1)) fun r_2 =>
  some (.next (r_2.States, r_2.Edges, w64 (x21 + 1))))
 else (
  some (.done (c_States1, c_Edges1)))
def xc (m_ : z7) (l_ : List (List Int)) : Option (z8 × Int) :=
 Option.bind (xy m_ l_) fun r_ =>
 bif r_ != 0 then (
  some ((z8.mk [] []), r_))
 else (
  Option.bind (jk m_) fun r_1 =>
  Option.bind (loop (fun s => wz m_ l_ s.1 s.2.1 s.2.2) (r_1.States, r_1.Edges, 0)) fun t2 =>
  kA t2.1 t2.2)
def wi (x_ : yf) : Option Int :=
 gd ((3 : Int) ≠ 0) <|
 some (w64 (1 + (w64 (Int.tmod x_.Inputs 3))))
def X1 (out : List (List Int)) : Option (List (List Int)) :=
 some out
def kM (i_ : Int) (out2 : List (List Int)) : Option (LR (List (List Int) × Int) (List (List Int))) :=
 some (.next (out2, w64 (i_ + 1)))
def kL (out1 : List (List Int)) (i_ : Int) (w_ : List Int) : Option (LR (List (List Int) × Int) (List (List Int))) :=
 gd (out1.length + ([w_] : List (List Int)).length ≤ 4294967296) <|
 kM i_ (out1 ++ ([w_] : List (List Int)))
def uw (x_ : yf) (i_ : Int) (w_1 : List Int) (k_ : Int) : Option (LR (List Int × Int) (List Int)) :=
 Option.bind (idx x_.Words i_) fun Word_e =>
 bif decide (k_ < ((Word_e.length : Nat) : Int)) then (
  bif decide (k_ < 12) then (
   Option.bind (idx x_.Words i_) fun Word_e1 =>
   Option.bind (idx Word_e1 k_) fun Word_e_e =>
   Option.bind (wi x_) fun r_ =>
   gd ((r_ : Int) ≠ 0) <|
   gd (w_1.length + ([Int.tmod (w64 (Word_e_e)) r_] : List Int).length ≤ 4294967296) <|
   some (.next ((w_1 ++ ([Int.tmod (w64 (Word_e_e)) r_] : List Int)), w64 (k_ + 1))))
  else (
   some (.done w_1)))
 else (
  some (.done w_1))
def qP (x_ : yf) (out1 : List (List Int)) (i_ : Int) : Option (LR (List (List Int) × Int) (List (List Int))) :=
 bif decide (i_ < ((x_.Words.length : Nat) : Int)) then (
  bif decide (i_ < 40) then (
   Option.bind (loop (fun s => uw x_ i_ s.1 s.2) (([] : List Int), 0)) fun t5 =>
   kL out1 i_ t5)
  else (
   some (.done out1)))
 else (
  some (.done out1))
def Yk (x_ : yf) : Option (List (List Int)) :=
 Option.bind (loop (fun s => qP x_ s.1 s.2) (([] : List (List Int)), 0)) fun t2 =>
 X1 t2
def Zp : Option Int :=
 some 0
def uo (a_ : List Int) (b_ : List Int) (i_ : Int) : Option (LR Int (Unit ⊕ Int)) :=
 bif decide (i_ < ((a_.length : Nat) : Int)) then (
  Option.bind (idx a_ i_) fun a__e =>
  Option.bind (idx b_ i_) fun b__e =>
  bif decide (a__e < b__e) then (
   some (.done (.inr (-1))))
  else (
   Option.bind (idx a_ i_) fun a__e1 =>
   Option.bind (idx b_ i_) fun b__e1 =>
   bif decide (a__e1 > b__e1) then (
    some (.done (.inr 1)))
   else (
    some (.next (w64 (i_ + 1))))))
 else (
  some (.done (.inl ())))
def u9 (a_ : List Int) (b_ : List Int) : Option Int :=
 bif ((a_.length : Nat) : Int) != ((b_.length : Nat) : Int) then (
  bif decide (((a_.length : Nat) : Int) < ((b_.length : Nat) : Int)) then (
   some (-1))
  else (
   some 1))
 else (
  Option.bind (loop (fun s => uo a_ b_ s) 0) fun t2 =>
  match t2 with
  | .inl p => Zp
  | .inr p => some p)
def YJ (w_ : List Int) (low : Int) (l_1 : List (List Int)) : Option (List (List Int)) :=
 gd (([] : List Int).length + w_.length ≤ 4294967296) <|
 Option.bind (idx l_1 low) fun l__e =>
 some (l_1.set low.toNat w_)
def kU (low : Int) (l_2 : List (List Int)) (i_ : Int) : Option (LR (List (List Int) × Int) (List (List Int))) :=
 bif decide (i_ > low) then (
  Option.bind (idx l_2 (w64 (i_ - 1))) fun l__e1 =>
  Option.bind (idx l_2 i_) fun l__e2 =>
  some (.next ((l_2.set i_.toNat l__e1), w64 (i_ - 1))))
 else (
  some (.done l_2))
def ji (l_ : List (List Int)) (w_ : List Int) (low : Int) : Option (List (List Int)) :=
 gd (l_.length + ([[]] : List (List Int)).length ≤ 4294967296) <|
 Option.bind (loop (fun s => kU low s.1 s.2) ((l_ ++ ([[]] : List (List Int))), w64 ((((l_ ++ ([[]] : List (List Int))).length : Nat) : Int) - 1))) fun t4 =>
 YJ w_ low t4
def YK (l_ : List (List Int)) (w_ : List Int) (low : Int) : Option (List (List Int)) :=
 bif decide (low < ((l_.length : Nat) : Int)) then (
  Option.bind (idx l_ low) fun l__e3 =>
  Option.bind (u9 l__e3 w_) fun r_ =>
  bif r_ == 0 then (
   some l_)
  else (
   ji l_ w_ low))
 else (
  ji l_ w_ low)
def kT (l_ : List (List Int)) (w_ : List Int) (low1 : Int) (high : Int) : Option (LR (Int × Int) Int) :=
 bif decide (low1 < high) then (
  gd ((2 : Int) ≠ 0) <|
  Option.bind (idx l_ (w64 (Int.tdiv (w64 (low1 + high)) 2))) fun l__e4 =>
  Option.bind (u9 l__e4 w_) fun r_1 =>
  bif decide (r_1 < 0) then (
   some (.next (w64 ((w64 (Int.tdiv (w64 (low1 + high)) 2)) + 1), high)))
  else (
   some (.next (low1, w64 (Int.tdiv (w64 (low1 + high)) 2)))))
 else (
  some (.done low1))
def WU (l_ : List (List Int)) (w_ : List Int) : Option (List (List Int)) :=
 Option.bind (loop (fun s => kT l_ w_ s.1 s.2) (0, ((l_.length : Nat) : Int))) fun t5 =>
 YK l_ w_ t5
def XS (out : List (List Int)) : Option (List (List Int)) :=
 some out
def va (l_ : List (List Int)) (out1 : List (List Int)) (i_ : Int) : Option (LR (List (List Int) × Int) (List (List Int))) :=
 bif decide (i_ < ((l_.length : Nat) : Int)) then (
  Option.bind (idx l_ i_) fun l__e =>
  Option.bind (WU out1 l__e) fun r_ =>
  some (.next (r_, w64 (i_ + 1))))
 else (
  some (.done out1))
def Y0 (l_ : List (List Int)) : Option (List (List Int)) :=
 Option.bind (loop (fun s => va l_ s.1 s.2) (([] : List (List Int)), 0)) fun t2 =>
 XS t2
def Xp (x_ : yf) : Option (List (List Int)) :=
 Option.bind (Yk x_) fun r_ =>
 Option.bind (Y0 r_) fun r_1 =>
 some r_1
def jB (out : List (List Int)) : Option (List (List Int)) :=
 Option.bind (Y0 out) fun r_ =>
 some r_
def jA (i_ : Int) (out2 : List (List Int)) : Option (LR (List (List Int) × Int) (List (List Int))) :=
 some (.next (out2, w64 (i_ + 1)))
def jz (out1 : List (List Int)) (i_ : Int) (w_ : List Int) : Option (LR (List (List Int) × Int) (List (List Int))) :=
 gd (out1.length + ([w_] : List (List Int)).length ≤ 4294967296) <|
 jA i_ (out1 ++ ([w_] : List (List Int)))
def vM (l_ : List (List Int)) (inputs : Int) (i_ : Int) (w_1 : List Int) (k_ : Int) : Option (LR (List Int × Int) (List Int)) :=
 Option.bind (idx l_ i_) fun l__e =>
 bif decide (k_ < ((l__e.length : Nat) : Int)) then (
  Option.bind (idx l_ i_) fun l__e1 =>
  Option.bind (idx l__e1 k_) fun l__e_e =>
  gd ((inputs : Int) ≠ 0) <|
  gd (w_1.length + ([Int.tmod l__e_e inputs] : List Int).length ≤ 4294967296) <|
  some (.next ((w_1 ++ ([Int.tmod l__e_e inputs] : List Int)), w64 (k_ + 1))))
 else (
  some (.done w_1))
def vN (l_ : List (List Int)) (inputs : Int) (out1 : List (List Int)) (i_ : Int) : Option (LR (List (List Int) × Int) (List (List Int))) :=
 bif decide (i_ < ((l_.length : Nat) : Int)) then (
  Option.bind (loop (fun s => vM l_ inputs i_ s.1 s.2) (([] : List Int), 0)) fun t5 =>
  jz out1 i_ t5)
 else (
  some (.done out1))
def kV (l_ : List (List Int)) (inputs : Int) : Option (List (List Int)) :=
 Option.bind (loop (fun s => vN l_ inputs s.1 s.2) (([] : List (List Int)), 0)) fun t2 =>
 jB t2
def qS (x0 : zb) : Option Bool :=
 some true
def u4 (out : List (List Int)) : Option (List (List Int)) :=
 Option.bind (yl out) fun r_ =>
 some r_
def wD (nodes : List zb) (out1 : List (List Int)) (x8 : zc) : Option (LR (List (List Int)) Empty) :=
 Option.bind (idx nodes x8.at_) fun node_e =>
 Option.bind (qS node_e) fun r_2 =>
 bif r_2 then (
  Option.bind (zR x8.w_) fun r_3 =>
  Option.bind (zV r_3) fun r_4 =>
  gd (out1.length + ([r_4] : List (List Int)).length ≤ 4294967296) <|
  some (.next (out1 ++ ([r_4] : List (List Int)))))
 else (
  some (.next out1))
def uh (nodes : List zb) (is : Unit) : Option (List (List Int)) :=
 Option.bind (ZZ nodes) fun r_1 =>
 Option.bind (vV r_1 (yOf (fun s x => wD nodes s x)) (.next ([] : List (List Int)))) fun t2 =>
 match t2 with
 | .next out1 => (
  u4 out1)
 | .done z => nomatch z
def Xz (l_ : List (List Int)) : Option (List (List Int) × Int) :=
 bif decide (((l_.length : Nat) : Int) > 4096) then (
  some (([] : List (List Int)), 3))
 else (
  Option.bind (qX l_) fun r_ =>
  bif decide (r_ > 65536) then (
   some (([] : List (List Int)), 3))
  else (
   some (l_, 0)))
def qK (l_ : List (List Int)) (inputs : Int) : Option (List (List Int) × Int) :=
 Option.bind (uW l_ inputs) fun r_ =>
 bif r_ != 0 then (
  some (([] : List (List Int)), r_))
 else (
  Option.bind (V9 l_ inputs) fun r_1 =>
  bif decide (((r_1.nodes_.length : Nat) : Int) > 4096) then (
   some (([] : List (List Int)), 3))
  else (
   Option.bind (uh r_1.nodes_ ()) fun r_2 =>
   Option.bind (Xz r_2) fun r_3 =>
   some (r_3.1, r_3.2)))
def XR : Option Bool :=
 some true
def XQ (s_ : Int) : Option (LR Int (Unit ⊕ Bool)) :=
 some (.next (w64 (s_ + 1)))
def qn (a_ : z8) (b_ : z8) (s_ : Int) (i_ : Int) : Option (LR Int (Unit ⊕ Bool)) :=
 Option.bind (idx a_.Edges s_) fun Edge_e2 =>
 bif decide (i_ < ((Edge_e2.length : Nat) : Int)) then (
  Option.bind (idx a_.Edges s_) fun Edge_e3 =>
  Option.bind (idx Edge_e3 i_) fun Edge_e_e =>
  Option.bind (idx b_.Edges s_) fun Edge_e4 =>
  Option.bind (idx Edge_e4 i_) fun Edge_e_e1 =>
  bif !(Edge_e_e == Edge_e_e1) then (
   some (.done (.inr false)))
  else (
   some (.next (w64 (i_ + 1)))))
 else (
  some (.done (.inl ())))
def qo (a_ : z8) (b_ : z8) (s_ : Int) : Option (LR Int (Unit ⊕ Bool)) :=
 bif decide (s_ < ((a_.Edges.length : Nat) : Int)) then (
  Option.bind (idx a_.Edges s_) fun Edge_e =>
  Option.bind (idx b_.Edges s_) fun Edge_e1 =>
  bif ((Edge_e.length : Nat) : Int) != ((Edge_e1.length : Nat) : Int) then (
   some (.done (.inr false)))
  else (
   Option.bind (loop (fun s => qn a_ b_ s_ s) 0) fun t5 =>
   match t5 with
   | .inl p => XQ s_
   | .inr p => some (.done (.inr p))))
 else (
  some (.done (.inl ())))
def ZF (a_ : z8) (b_ : z8) : Option Bool :=
 Option.bind (loop (fun s => qo a_ b_ s) 0) fun t3 =>
 match t3 with
 | .inl p => XR
 | .inr p => some p
def qm (a_ : z8) (b_ : z8) (s_1 : Int) : Option (LR Int (Unit ⊕ Bool)) :=
 bif decide (s_1 < ((a_.States.length : Nat) : Int)) then (
  Option.bind (idx a_.States s_1) fun State_e =>
  Option.bind (idx b_.States s_1) fun State_e1 =>
  bif !(State_e == State_e1) then (
   some (.done (.inr false)))
  else (
   some (.next (w64 (s_1 + 1)))))
 else (
  some (.done (.inl ())))
def kq (a_ : z8) (b_ : z8) : Option Bool :=
 bif ((a_.States.length : Nat) : Int) != ((b_.States.length : Nat) : Int) then (
  some false)
 else (
  bif ((a_.Edges.length : Nat) : Int) != ((b_.Edges.length : Nat) : Int) then (
   some false)
  else (
   Option.bind (loop (fun s => qm a_ b_ s) 0) fun t6 =>
   match t6 with
   | .inl p => ZF a_ b_
   | .inr p => some p))
def XY : Option z7 :=
 some (z7.mk 2 2 ([[(za.mk 1 0), (za.mk 0 0)], [(za.mk 2 1), (za.mk (-1) (-1))], [(za.mk 0 0), (za.mk 2 1)]]))
def ku (l_ : List (List Int)) : Option (List (List Int)) :=
 some l_
def XU : Option Bool :=
 some true
def XT (a_ : List (List Int)) (b_ : List (List Int)) (i_ : Int) : Option (LR Int (Unit ⊕ Bool)) :=
 bif decide (i_ < ((a_.length : Nat) : Int)) then (
  Option.bind (idx a_ i_) fun a__e =>
  Option.bind (idx b_ i_) fun b__e =>
  Option.bind (u9 a__e b__e) fun r_ =>
  bif r_ != 0 then (
   some (.done (.inr false)))
  else (
   some (.next (w64 (i_ + 1)))))
 else (
  some (.done (.inl ())))
def Qu (a_ : List (List Int)) (b_ : List (List Int)) : Option Bool :=
 bif ((a_.length : Nat) : Int) != ((b_.length : Nat) : Int) then (
  some false)
 else (
  Option.bind (loop (fun s => XT a_ b_ s) 0) fun t2 =>
  match t2 with
  | .inl p => XU
  | .inr p => some p)
def Xo (a_ : List (List Int)) (b_ : List (List Int)) : Option Bool :=
 Option.bind (Qu a_ b_) fun r_ =>
 bif r_ then (
  some (((a_.length : Nat) : Int) == ((a_.length : Nat) : Int)))
 else (
  some false)
def XX : Option Bool :=
 Option.bind (XY) fun r_ =>
 Option.bind (ku ([[], [0], [1], [0, 0], [0, 1], [0, 0, 0], [0, 0, 1]])) fun r_1 =>
 Option.bind (ku ([[], [0], [0, 0]])) fun r_2 =>
 Option.bind (ud r_) fun r_3 =>
 Option.bind (w9 r_) fun r_4 =>
 Option.bind (wK r_ 0) fun r_5 =>
 Option.bind (wK r_ (-1)) fun r_6 =>
 Option.bind (ku ([[1], [0, 1, 0]])) fun r_7 =>
 Option.bind (xc r_ r_7) fun r_8 =>
 bif r_3.2 != 0 then (
  some false)
 else (
  bif r_4.2 != 0 then (
   some false)
  else (
   bif r_5.2 != 0 then (
    some false)
   else (
    bif r_6.2 != 1 then (
     some false)
    else (
     bif r_8.2 != 0 then (
      some false)
     else (
      Option.bind (Xo r_3.1 r_2) fun r_9 =>
      bif !r_9 then (
       some false)
      else (
       Option.bind (Xo r_4.1 r_1) fun r_10 =>
       bif !r_10 then (
        some false)
       else (
        Option.bind (Xo r_5.1 r_2) fun r_11 =>
        bif !r_11 then (
         some false)
        else (
         Option.bind (kq r_8.1 (z8.mk ([true, true, false]) ([[true, true], [false, false], [false, false]]))) fun r_12 =>
         bif !r_12 then (
          some false)
         else (
          Option.bind (yH r_ r_2) fun r_13 =>
          Option.bind (ku ([[0, 0]])) fun r_14 =>
          Option.bind (yH r_ r_14) fun r_15 =>
          Option.bind (y6 r_ r_1) fun r_16 =>
          Option.bind (ku ([[0], [1]])) fun r_17 =>
          Option.bind (y6 r_ r_17) fun r_18 =>
          bif r_13.2 == 0 then (
           bif r_15.2 == 0 then (
            bif r_16.2 == 0 then (
             bif r_18.2 == 0 then (
              bif r_13.1 then (
               bif !r_15.1 then (
                bif r_16.1 then (
                 some (!r_18.1))
                else (
                 some false))
               else (
                some false))
              else (
               some false))
             else (
              some false))
            else (
             some false))
           else (
            some false))
          else (
           some false))))))))))
def wQ (y_ : yf) (r_ : z7) : Option Bool :=
 Option.bind (Xp y_) fun r_7 =>
 Option.bind (kV r_7 r_.Inputs) fun r_8 =>
 Option.bind (jf r_8 r_.Inputs) fun r_9 =>
 Option.bind (qK r_8 r_.Inputs) fun r_10 =>
 Option.bind (xc r_ r_8) fun r_11 =>
 Option.bind (xc r_ r_9.1) fun r_12 =>
 Option.bind (xc r_ r_10.1) fun r_13 =>
 bif r_9.2 == 0 then (
  bif r_10.2 == 0 then (
   bif r_11.2 == 0 then (
    bif r_12.2 == 0 then (
     bif r_13.2 == 0 then (
      Option.bind (kq r_11.1 r_12.1) fun r_14 =>
      bif r_14 then (
       Option.bind (kq r_11.1 r_13.1) fun r_15 =>
       bif r_15 then (
        Option.bind (XX) fun r_16 =>
        some r_16)
       else (
        some false))
      else (
       some false))
     else (
      some false))
    else (
     some false))
   else (
    some false))
  else (
   some false))
 else (
  some false)
def uF (s_ : Int) : Option (LR Int (Unit ⊕ Bool)) :=
 some (.next (w64 (s_ + 1)))
def yY (r_6 : z8 × Int) (s_ : Int) (i_ : Int) : Option (LR Int (Unit ⊕ Bool)) :=
 Option.bind (idx r_6.1.Edges s_) fun Edge_e =>
 bif decide (i_ < ((Edge_e.length : Nat) : Int)) then (
  Option.bind (idx r_6.1.Edges s_) fun Edge_e1 =>
  Option.bind (idx Edge_e1 i_) fun Edge_e_e =>
  bif !Edge_e_e then (
   some (.done (.inr false)))
  else (
   Option.bind (idx r_6.1.States s_) fun State_e =>
   bif !State_e then (
    some (.done (.inr false)))
   else (
    some (.next (w64 (i_ + 1))))))
 else (
  some (.done (.inl ())))
def yq (r_6 : z8 × Int) (s_ : Int) : Option (LR Int (Unit ⊕ Bool)) :=
 bif decide (s_ < ((r_6.1.Edges.length : Nat) : Int)) then (
  Option.bind (loop (fun s => yY r_6 s_ s) 0) fun t4 =>
  match t4 with
  | .inl p => uF s_
  | .inr p => some (.done (.inr p)))
 else (
  some (.done (.inl ())))
def ua (x_ : zD) (y_ : yf) : Option Bool :=
 Option.bind (Y2 (zD.mk x_.States x_.Inputs x_.Outputs x_.Tree x_.Edges)) fun r_ =>
 Option.bind (ud r_) fun r_1 =>
 Option.bind (w9 r_) fun r_2 =>
 bif r_1.2 != 0 then (
  some false)
 else (
  bif r_2.2 != 0 then (
   some false)
  else (
   Option.bind (yH r_ r_1.1) fun r_3 =>
   Option.bind (y6 r_ r_2.1) fun r_4 =>
   Option.bind (jf r_2.1 r_.Inputs) fun r_5 =>
   Option.bind (xc r_ r_5.1) fun r_6 =>
   bif r_3.2 != 0 then (
    some false)
   else (
    bif r_4.2 != 0 then (
     some false)
    else (
     bif r_5.2 != 0 then (
      some false)
     else (
      bif r_6.2 != 0 then (
       some false)
      else (
       bif !r_3.1 then (
        some false)
       else (
        bif !r_4.1 then (
         some false)
        else (
         Option.bind (loop (fun s => yq r_6 s) 0) fun t2 =>
         match t2 with
         | .inl p => wQ y_ r_
         | .inr p => some p))))))))
abbrev F0_ := eSl 1 false (eI .u8)
abbrev F1_ := eSl 1 true (eI .i64)
abbrev F2_ := eOs 1 true (eI .i64)
abbrev F3_ := eSl 1 false (eI .u16)
abbrev F4_ := eSl 1 false (eI .i64)
abbrev F5_ := eOs 1 false (eI .i64)
abbrev F6_ := eOs 1 true (eOs 1 true eB)
abbrev F7_ := eSl 1 true (eSl 1 true eB)
abbrev F8_ := eSl 1 false (eSl 1 false eB)
abbrev F9_ := wT (eI .i64) (eI .i64)
abbrev Zd := eSl 1 true F1_
abbrev zjS := eSl 1 false F0_
abbrev uH := eSl 1 false F4_
abbrev z6M := eOs 1 false F4_
abbrev kc := yW F2_ eB
abbrev zdn := yW F1_ eB
abbrev Xd := yW F4_ eB
abbrev zj6 := eSl 2 true F9_
abbrev vB := eSl 2 false F9_
abbrev jT := eOs 2 false F9_
abbrev jn := Ym (eI .i64) (eI .i64) (eI .i64)
abbrev zgP := xO (eI .i64) F1_
abbrev Xw := xO (eI .i64) F4_
abbrev zjR := eOs 2 false kc
abbrev zbl := eSl 2 false Xd
abbrev z0S := kX (eI .u8) zjS
abbrev zjQ := eSl 1 true zj6
abbrev zjP := eSl 1 false vB
abbrev zgw := ww (eOs 1 true eB) F6_
abbrev z6l := ww (eSl 1 true eB) F7_
abbrev z32 := ww (eSl 1 false eB) F8_
abbrev zgv := z0o (eI .i64) zjR
abbrev Vz := kY (eI .u8) (eI .u8) (eI .u8) F0_ F3_
abbrev z92 := ub (eI .i64) (eI .i64) zjQ
abbrev uf := ub (eI .i64) (eI .i64) zjP
abbrev zaU := eSp uf
def rpN {α : Type _} (n : Nat) (a : α) (l : List α) : List α := Nat.rec l (fun _ r => a :: r) n
end Go.Own

namespace Go.Proofs
open Go.Shelf
def Tryz.so104_ren : Go.Shelf.Ren := ⟨fun | 6 => 104 | 15 => 119 | 14 => 118 | 28 => 131 | 29 => 132 | 20 => 123 | 21 => 124 | 22 => 125 | 23 => 126 | 24 => 127 | 25 => 128 | 26 => 129 | 27 => 130 | 46 => 134 | 47 => 135 | 48 => 136 | 49 => 137 | 50 => 138 | 57 => 139 | n => n, fun | 22 => 29 | 24 => 77 | 25 => 90 | 3 => 3 | 39 => 152 | 0 => 0 | 53 => 164 | 55 => 166 | 4 => 4 | 46 => 157 | 45 => 156 | 50 => 161 | 5 => 5 | 9 => 9 | 66 => 167 | 70 => 171 | 76 => 173 | 77 => 174 | n => n, fun | n => n⟩
theorem Tryz.so104 : Go.Proofs.SlLaysF0.n6 Tryz.prog Tryz.so104_ren := {
 mixed := by kernel_rfl
 f6 := ⟨Tryz.f104.name, by decide, Tryz.func104.trans (congrArg some (by kernel_rfl))⟩
 f14 := ⟨Tryz.f118.name, by decide, Tryz.func118.trans (congrArg some (by kernel_rfl))⟩
 f15 := Tryz.func119.trans (congrArg some (by kernel_rfl))
 f20 := ⟨Tryz.f123.name, by decide, Tryz.func123.trans (congrArg some (by kernel_rfl))⟩
 f21 := ⟨Tryz.f124.name, by decide, Tryz.func124.trans (congrArg some (by kernel_rfl))⟩
 f22 := ⟨Tryz.f125.name, by decide, Tryz.func125.trans (congrArg some (by kernel_rfl))⟩
 f23 := ⟨Tryz.f126.name, by decide, Tryz.func126.trans (congrArg some (by kernel_rfl))⟩
 f24 := ⟨Tryz.f127.name, by decide, Tryz.func127.trans (congrArg some (by kernel_rfl))⟩
 f25 := ⟨Tryz.f128.name, by decide, Tryz.func128.trans (congrArg some (by kernel_rfl))⟩
 f26 := ⟨Tryz.f129.name, by decide, Tryz.func129.trans (congrArg some (by kernel_rfl))⟩
 f27 := ⟨Tryz.f130.name, by decide, Tryz.func130.trans (congrArg some (by kernel_rfl))⟩
 f28 := Tryz.func131.trans (congrArg some (by kernel_rfl))
 f29 := Tryz.func132.trans (congrArg some (by kernel_rfl))
 f46 := ⟨Tryz.f134.name, by decide, Tryz.func134.trans (congrArg some (by kernel_rfl))⟩
 f47 := Tryz.func135.trans (congrArg some (by kernel_rfl))
 f48 := Tryz.func136.trans (congrArg some (by kernel_rfl))
 f49 := ⟨Tryz.f137.name, by decide, Tryz.func137.trans (congrArg some (by kernel_rfl))⟩
 f50 := ⟨Tryz.f138.name, by decide, Tryz.func138.trans (congrArg some (by kernel_rfl))⟩
 f57 := ⟨Tryz.f139.name, by decide, Tryz.func139.trans (congrArg some (by kernel_rfl))⟩
 t0 := Tryz.underlying0
 a0 := Tryz.isAgg0
 z0 := Tryz.sizeOf0
 v0 := Tryz.zeroValue0
 t3 := Tryz.underlying3
 a3 := Tryz.isAgg3
 z3 := Tryz.sizeOf3
 v3 := Tryz.zeroValue3
 t4 := Tryz.underlying4
 a4 := Tryz.isAgg4
 z4 := Tryz.sizeOf4
 v4 := Tryz.zeroValue4
 t5 := Tryz.underlying5
 a5 := Tryz.isAgg5
 z5 := Tryz.sizeOf5
 v5 := Tryz.zeroValue5
 t9 := Tryz.underlying9
 a9 := Tryz.isAgg9
 z9 := Tryz.sizeOf9
 v9 := Tryz.zeroValue9
 t22 := Tryz.underlying29
 a22 := Tryz.isAgg29
 z22 := Tryz.sizeOf29
 v22 := Tryz.zeroValue29
 t25 := Tryz.underlying90
 a25 := Tryz.isAgg90
 z25 := Tryz.sizeOf90
 v25 := Tryz.zeroValue90
 t39 := Tryz.underlying152
 a39 := Tryz.isAgg152
 z39 := Tryz.sizeOf152
 v39 := Tryz.zeroValue152
 t45 := Tryz.underlying156
 a45 := Tryz.isAgg156
 z45 := Tryz.sizeOf156
 v45 := Tryz.zeroValue156
 t46 := Tryz.underlying157
 a46 := Tryz.isAgg157
 z46 := Tryz.sizeOf157
 v46 := Tryz.zeroValue157
 t50 := Tryz.underlying161
 a50 := Tryz.isAgg161
 z50 := Tryz.sizeOf161
 v50 := Tryz.zeroValue161
 t53 := Tryz.underlying164
 a53 := Tryz.isAgg164
 z53 := Tryz.sizeOf164
 v53 := Tryz.zeroValue164
 t55 := Tryz.underlying166
 a55 := Tryz.isAgg166
 z55 := Tryz.sizeOf166
 v55 := Tryz.zeroValue166
 t66 := Tryz.underlying167
 a66 := Tryz.isAgg167
 z66 := Tryz.sizeOf167
 v66 := Tryz.zeroValue167
 t70 := Tryz.underlying171
 a70 := Tryz.isAgg171
 z70 := Tryz.sizeOf171
 v70 := Tryz.zeroValue171
 t76 := Tryz.underlying173
 a76 := Tryz.isAgg173
 z76 := Tryz.sizeOf173
 v76 := Tryz.zeroValue173
 t77 := Tryz.underlying174
 a77 := Tryz.isAgg174
 z77 := Tryz.sizeOf174
 v77 := Tryz.zeroValue174 }
end Go.Proofs
