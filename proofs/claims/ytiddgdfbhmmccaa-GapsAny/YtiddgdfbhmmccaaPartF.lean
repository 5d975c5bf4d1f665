/- -/
import Derived.Test.YtiddgdfbhmmccaaPartC
import Derived.Test.YtiddgdfbhmmccaaProg
import Derived.Test.YtiddgdfbhmmccaaPartD
import Derived.Test.YtiddgdfbhmmccaaPartE
noncomputable section
set_option linter.unusedVariables false
set_option linter.unusedSimpArgs false
namespace Go.Ex
open Go.Proofs
def i1 : EI := ⟨.func, 1, 8, some [.nilFunc], false⟩
theorem zcW : yj Try.prog 1 i1 := ⟨⟨Try.t1, by kernel_rfl, rfl, rfl, fun z h => by cases h; exact ⟨_, rfl, rfl, zh rfl, rfl, rfl⟩⟩, ⟨_, _, _, Try.underlying1⟩, by intro h; cases h⟩
def i2 : EI := ⟨.int .i64, 1, 8, some [.int .i64 0], false⟩
theorem zcV : yj Try.prog 2 i2 := ⟨⟨Try.t2, by kernel_rfl, rfl, rfl, fun z h => by cases h; exact ⟨_, rfl, rfl, zh rfl, rfl, rfl⟩⟩, Try.underlying2, by intro h; cases h⟩
def i3 : EI := ⟨.int .i64, 1, 8, some [.int .i64 0], false⟩
theorem zcU : yj Try.prog 3 i3 := ⟨⟨Try.t3, by kernel_rfl, rfl, rfl, fun z h => by cases h; exact ⟨_, rfl, rfl, zh rfl, rfl, rfl⟩⟩, Try.underlying3, by intro h; cases h⟩
def i4 : EI := ⟨.bool, 1, 1, some [.bool false], false⟩
theorem zcT : yj Try.prog 4 i4 := ⟨⟨Try.t4, by kernel_rfl, rfl, rfl, fun z h => by cases h; exact ⟨_, rfl, rfl, zh rfl, rfl, rfl⟩⟩, Try.underlying4, by intro h; cases h⟩
def i5 : EI := ⟨.int .u8, 1, 1, some [.int .u8 0], false⟩
theorem zcS : yj Try.prog 5 i5 := ⟨⟨Try.t5, by kernel_rfl, rfl, rfl, fun z h => by cases h; exact ⟨_, rfl, rfl, zh rfl, rfl, rfl⟩⟩, Try.underlying5, by intro h; cases h⟩
def i9 : EI := ⟨.str, 1, 16, some [.string ⟨#[]⟩], false⟩
theorem zcR : yj Try.prog 9 i9 := ⟨⟨Try.t9, by kernel_rfl, rfl, rfl, fun z h => by cases h; exact ⟨_, rfl, rfl, zh rfl, rfl, rfl⟩⟩, Try.underlying9, by intro h; cases h⟩
def i12 : EI := ⟨.int .u64, 1, 8, some [.int .u64 0], false⟩
theorem zaC : yj Try.prog 12 i12 := ⟨⟨Try.t12, by kernel_rfl, rfl, rfl, fun z h => by cases h; exact ⟨_, rfl, rfl, zh rfl, rfl, rfl⟩⟩, Try.underlying12, by intro h; cases h⟩
def i13 : EI := ⟨.struct [(0, 9), (1, 12)], 2, 24, some [.string ⟨#[]⟩, .int .u64 0], false⟩
theorem zaB : yj Try.prog 13 i13 := ⟨⟨Try.t13, by kernel_rfl, rfl, rfl, fun z h => by cases h; exact ⟨_, rfl, rfl, zh rfl, rfl, ⟨_, rfl⟩⟩⟩, ⟨_, Try.underlying13, by kernel_rfl, by
  intro f hf
  simp only [List.mem_cons, List.not_mem_nil, or_false] at hf
  rcases hf with rfl | rfl
  ·exact ⟨Try.t9, by kernel_rfl⟩
  ·exact ⟨Try.t12, by kernel_rfl⟩⟩, by intro h; cases h⟩
def i20 : EI := ⟨.iface, 1, 16, some [.nilIface], false⟩
theorem zaA : yj Try.prog 20 i20 := ⟨⟨Try.t20, by kernel_rfl, rfl, rfl, fun z h => by cases h; exact ⟨_, rfl, rfl, zh rfl, rfl, rfl⟩⟩, ⟨_, Try.underlying20⟩, by intro h; cases h⟩
def i21 : EI := ⟨.int .i32, 1, 4, some [.int .i32 0], false⟩
theorem zaz : yj Try.prog 21 i21 := ⟨⟨Try.t21, by kernel_rfl, rfl, rfl, fun z h => by cases h; exact ⟨_, rfl, rfl, zh rfl, rfl, rfl⟩⟩, Try.underlying21, by intro h; cases h⟩
def i22 : EI := ⟨.slice 50, 1, 24, some [.slice none 0 0], false⟩
theorem zay : yj Try.prog 22 i22 := ⟨⟨Try.t22, by kernel_rfl, rfl, rfl, fun z h => by cases h; exact ⟨_, rfl, rfl, zh rfl, rfl, rfl⟩⟩, Try.underlying22, by intro h; cases h⟩
def i23 : EI := ⟨.struct [(0, 3), (1, 3), (2, 22)], 3, 40, some [.int .i64 0, .int .i64 0, .slice none 0 0], false⟩
theorem zax : yj Try.prog 23 i23 := ⟨⟨Try.t23, by kernel_rfl, rfl, rfl, fun z h => by cases h; exact ⟨_, rfl, rfl, zh rfl, rfl, ⟨_, rfl⟩⟩⟩, ⟨_, Try.underlying23, by kernel_rfl, by
  intro f hf
  simp only [List.mem_cons, List.not_mem_nil, or_false] at hf
  rcases hf with rfl | rfl | rfl
  ·exact ⟨Try.t3, by kernel_rfl⟩
  ·exact ⟨Try.t3, by kernel_rfl⟩
  ·exact ⟨Try.t22, by kernel_rfl⟩⟩, by intro h; cases h⟩
def i24 : EI := ⟨.struct [(0, 3), (1, 3), (2, 22)], 3, 40, some [.int .i64 0, .int .i64 0, .slice none 0 0], false⟩
theorem zaw : yj Try.prog 24 i24 := ⟨⟨Try.t24, by kernel_rfl, rfl, rfl, fun z h => by cases h; exact ⟨_, rfl, rfl, zh rfl, rfl, ⟨_, rfl⟩⟩⟩, ⟨_, Try.underlying24, by kernel_rfl, by
  intro f hf
  simp only [List.mem_cons, List.not_mem_nil, or_false] at hf
  rcases hf with rfl | rfl | rfl
  ·exact ⟨Try.t3, by kernel_rfl⟩
  ·exact ⟨Try.t3, by kernel_rfl⟩
  ·exact ⟨Try.t22, by kernel_rfl⟩⟩, by intro h; cases h⟩
def i25 : EI := ⟨.slice 34, 1, 24, some [.slice none 0 0], false⟩
theorem zav : yj Try.prog 25 i25 := ⟨⟨Try.t25, by kernel_rfl, rfl, rfl, fun z h => by cases h; exact ⟨_, rfl, rfl, zh rfl, rfl, rfl⟩⟩, Try.underlying25, by intro h; cases h⟩
def i26 : EI := ⟨.struct [(0, 24), (3, 25), (4, 3)], 5, 72, some [.int .i64 0, .int .i64 0, .slice none 0 0, .slice none 0 0, .int .i64 0], false⟩
theorem zau : yj Try.prog 26 i26 := ⟨⟨Try.t26, by kernel_rfl, rfl, rfl, fun z h => by cases h; exact ⟨_, rfl, rfl, zh rfl, rfl, ⟨_, rfl⟩⟩⟩, ⟨_, Try.underlying26, by kernel_rfl, by
  intro f hf
  simp only [List.mem_cons, List.not_mem_nil, or_false] at hf
  rcases hf with rfl | rfl | rfl
  ·exact ⟨Try.t24, by kernel_rfl⟩
  ·exact ⟨Try.t25, by kernel_rfl⟩
  ·exact ⟨Try.t3, by kernel_rfl⟩⟩, by intro h; cases h⟩
def i27 : EI := ⟨.struct [(0, 24), (3, 25), (4, 3)], 5, 72, some [.int .i64 0, .int .i64 0, .slice none 0 0, .slice none 0 0, .int .i64 0], false⟩
theorem zat : yj Try.prog 27 i27 := ⟨⟨Try.t27, by kernel_rfl, rfl, rfl, fun z h => by cases h; exact ⟨_, rfl, rfl, zh rfl, rfl, ⟨_, rfl⟩⟩⟩, ⟨_, Try.underlying27, by kernel_rfl, by
  intro f hf
  simp only [List.mem_cons, List.not_mem_nil, or_false] at hf
  rcases hf with rfl | rfl | rfl
  ·exact ⟨Try.t24, by kernel_rfl⟩
  ·exact ⟨Try.t25, by kernel_rfl⟩
  ·exact ⟨Try.t3, by kernel_rfl⟩⟩, by intro h; cases h⟩
def i28 : EI := ⟨.func, 1, 8, some [.nilFunc], false⟩
theorem zas : yj Try.prog 28 i28 := ⟨⟨Try.t28, by kernel_rfl, rfl, rfl, fun z h => by cases h; exact ⟨_, rfl, rfl, zh rfl, rfl, rfl⟩⟩, ⟨_, _, _, Try.underlying28⟩, by intro h; cases h⟩
def i29 : EI := ⟨.func, 1, 8, some [.nilFunc], false⟩
theorem zar : yj Try.prog 29 i29 := ⟨⟨Try.t29, by kernel_rfl, rfl, rfl, fun z h => by cases h; exact ⟨_, rfl, rfl, zh rfl, rfl, rfl⟩⟩, ⟨_, _, _, Try.underlying29⟩, by intro h; cases h⟩
def i30 : EI := ⟨.func, 1, 8, some [.nilFunc], false⟩
theorem zaq : yj Try.prog 30 i30 := ⟨⟨Try.t30, by kernel_rfl, rfl, rfl, fun z h => by cases h; exact ⟨_, rfl, rfl, zh rfl, rfl, rfl⟩⟩, ⟨_, _, _, Try.underlying30⟩, by intro h; cases h⟩
def i31 : EI := ⟨.int .i64, 1, 8, some [.int .i64 0], false⟩
theorem zap : yj Try.prog 31 i31 := ⟨⟨Try.t31, by kernel_rfl, rfl, rfl, fun z h => by cases h; exact ⟨_, rfl, rfl, zh rfl, rfl, rfl⟩⟩, Try.underlying31, by intro h; cases h⟩
def i33 : EI := ⟨.func, 1, 8, some [.nilFunc], false⟩
theorem zao : yj Try.prog 33 i33 := ⟨⟨Try.t33, by kernel_rfl, rfl, rfl, fun z h => by cases h; exact ⟨_, rfl, rfl, zh rfl, rfl, rfl⟩⟩, ⟨_, _, _, Try.underlying33⟩, by intro h; cases h⟩
def i34 : EI := ⟨.slice 3, 1, 24, some [.slice none 0 0], false⟩
theorem zan : yj Try.prog 34 i34 := ⟨⟨Try.t34, by kernel_rfl, rfl, rfl, fun z h => by cases h; exact ⟨_, rfl, rfl, zh rfl, rfl, rfl⟩⟩, Try.underlying34, by intro h; cases h⟩
def i36 : EI := ⟨.func, 1, 8, some [.nilFunc], false⟩
theorem zam : yj Try.prog 36 i36 := ⟨⟨Try.t36, by kernel_rfl, rfl, rfl, fun z h => by cases h; exact ⟨_, rfl, rfl, zh rfl, rfl, rfl⟩⟩, ⟨_, _, _, Try.underlying36⟩, by intro h; cases h⟩
def i38 : EI := ⟨.func, 1, 8, some [.nilFunc], false⟩
theorem zal : yj Try.prog 38 i38 := ⟨⟨Try.t38, by kernel_rfl, rfl, rfl, fun z h => by cases h; exact ⟨_, rfl, rfl, zh rfl, rfl, rfl⟩⟩, ⟨_, _, _, Try.underlying38⟩, by intro h; cases h⟩
def i39 : EI := ⟨.func, 1, 8, some [.nilFunc], false⟩
theorem zak : yj Try.prog 39 i39 := ⟨⟨Try.t39, by kernel_rfl, rfl, rfl, fun z h => by cases h; exact ⟨_, rfl, rfl, zh rfl, rfl, rfl⟩⟩, ⟨_, _, _, Try.underlying39⟩, by intro h; cases h⟩
def i40 : EI := ⟨.func, 1, 8, some [.nilFunc], false⟩
theorem zaj : yj Try.prog 40 i40 := ⟨⟨Try.t40, by kernel_rfl, rfl, rfl, fun z h => by cases h; exact ⟨_, rfl, rfl, zh rfl, rfl, rfl⟩⟩, ⟨_, _, _, Try.underlying40⟩, by intro h; cases h⟩
def i41 : EI := ⟨.func, 1, 8, some [.nilFunc], false⟩
theorem zai : yj Try.prog 41 i41 := ⟨⟨Try.t41, by kernel_rfl, rfl, rfl, fun z h => by cases h; exact ⟨_, rfl, rfl, zh rfl, rfl, rfl⟩⟩, ⟨_, _, _, Try.underlying41⟩, by intro h; cases h⟩
def i43 : EI := ⟨.func, 1, 8, some [.nilFunc], false⟩
theorem zah : yj Try.prog 43 i43 := ⟨⟨Try.t43, by kernel_rfl, rfl, rfl, fun z h => by cases h; exact ⟨_, rfl, rfl, zh rfl, rfl, rfl⟩⟩, ⟨_, _, _, Try.underlying43⟩, by intro h; cases h⟩
def i44 : EI := ⟨.func, 1, 8, some [.nilFunc], false⟩
theorem zag : yj Try.prog 44 i44 := ⟨⟨Try.t44, by kernel_rfl, rfl, rfl, fun z h => by cases h; exact ⟨_, rfl, rfl, zh rfl, rfl, rfl⟩⟩, ⟨_, _, _, Try.underlying44⟩, by intro h; cases h⟩
def i45 : EI := ⟨.func, 1, 8, some [.nilFunc], false⟩
theorem zaf : yj Try.prog 45 i45 := ⟨⟨Try.t45, by kernel_rfl, rfl, rfl, fun z h => by cases h; exact ⟨_, rfl, rfl, zh rfl, rfl, rfl⟩⟩, ⟨_, _, _, Try.underlying45⟩, by intro h; cases h⟩
def i47 : EI := ⟨.func, 1, 8, some [.nilFunc], false⟩
theorem zae : yj Try.prog 47 i47 := ⟨⟨Try.t47, by kernel_rfl, rfl, rfl, fun z h => by cases h; exact ⟨_, rfl, rfl, zh rfl, rfl, rfl⟩⟩, ⟨_, _, _, Try.underlying47⟩, by intro h; cases h⟩
def i48 : EI := ⟨.func, 1, 8, some [.nilFunc], false⟩
theorem zad : yj Try.prog 48 i48 := ⟨⟨Try.t48, by kernel_rfl, rfl, rfl, fun z h => by cases h; exact ⟨_, rfl, rfl, zh rfl, rfl, rfl⟩⟩, ⟨_, _, _, Try.underlying48⟩, by intro h; cases h⟩
def i49 : EI := ⟨.func, 1, 8, some [.nilFunc], false⟩
theorem zac : yj Try.prog 49 i49 := ⟨⟨Try.t49, by kernel_rfl, rfl, rfl, fun z h => by cases h; exact ⟨_, rfl, rfl, zh rfl, rfl, rfl⟩⟩, ⟨_, _, _, Try.underlying49⟩, by intro h; cases h⟩
def i50 : EI := ⟨.slice 59, 1, 24, some [.slice none 0 0], false⟩
theorem zab : yj Try.prog 50 i50 := ⟨⟨Try.t50, by kernel_rfl, rfl, rfl, fun z h => by cases h; exact ⟨_, rfl, rfl, zh rfl, rfl, rfl⟩⟩, Try.underlying50, by intro h; cases h⟩
def i51 : EI := ⟨.func, 1, 8, some [.nilFunc], false⟩
theorem zaa : yj Try.prog 51 i51 := ⟨⟨Try.t51, by kernel_rfl, rfl, rfl, fun z h => by cases h; exact ⟨_, rfl, rfl, zh rfl, rfl, rfl⟩⟩, ⟨_, _, _, Try.underlying51⟩, by intro h; cases h⟩
def i52 : EI := ⟨.func, 1, 8, some [.nilFunc], false⟩
theorem za9 : yj Try.prog 52 i52 := ⟨⟨Try.t52, by kernel_rfl, rfl, rfl, fun z h => by cases h; exact ⟨_, rfl, rfl, zh rfl, rfl, rfl⟩⟩, ⟨_, _, _, Try.underlying52⟩, by intro h; cases h⟩
def i53 : EI := ⟨.func, 1, 8, some [.nilFunc], false⟩
theorem za8 : yj Try.prog 53 i53 := ⟨⟨Try.t53, by kernel_rfl, rfl, rfl, fun z h => by cases h; exact ⟨_, rfl, rfl, zh rfl, rfl, rfl⟩⟩, ⟨_, _, _, Try.underlying53⟩, by intro h; cases h⟩
def i54 : EI := ⟨.func, 1, 8, some [.nilFunc], false⟩
theorem za7 : yj Try.prog 54 i54 := ⟨⟨Try.t54, by kernel_rfl, rfl, rfl, fun z h => by cases h; exact ⟨_, rfl, rfl, zh rfl, rfl, rfl⟩⟩, ⟨_, _, _, Try.underlying54⟩, by intro h; cases h⟩
def i55 : EI := ⟨.func, 1, 8, some [.nilFunc], false⟩
theorem za6 : yj Try.prog 55 i55 := ⟨⟨Try.t55, by kernel_rfl, rfl, rfl, fun z h => by cases h; exact ⟨_, rfl, rfl, zh rfl, rfl, rfl⟩⟩, ⟨_, _, _, Try.underlying55⟩, by intro h; cases h⟩
def i56 : EI := ⟨.func, 1, 8, some [.nilFunc], false⟩
theorem za5 : yj Try.prog 56 i56 := ⟨⟨Try.t56, by kernel_rfl, rfl, rfl, fun z h => by cases h; exact ⟨_, rfl, rfl, zh rfl, rfl, rfl⟩⟩, ⟨_, _, _, Try.underlying56⟩, by intro h; cases h⟩
def i57 : EI := ⟨.func, 1, 8, some [.nilFunc], false⟩
theorem za4 : yj Try.prog 57 i57 := ⟨⟨Try.t57, by kernel_rfl, rfl, rfl, fun z h => by cases h; exact ⟨_, rfl, rfl, zh rfl, rfl, rfl⟩⟩, ⟨_, _, _, Try.underlying57⟩, by intro h; cases h⟩
theorem q3 : EqP Try.prog 3 [.int .i64 0] false 1 := z4X (k := .int .i64) Try.underlying3 ⟨_, (by kernel_rfl : Try.prog.info? 3 = some Try.t3), rfl⟩ rfl
theorem q58 : EqP Try.prog 58 (kn [([.int .i64 0], false), ([.int .i64 0], false)]) true 2 := Zo Try.underlying58 (by kernel_rfl) ⟨_, (by kernel_rfl : Try.prog.info? 58 = some Try.t58), rfl⟩ (by decide) (zZ.cons (by decide) rfl (q3.mono (by decide)) (zZ.cons (by decide) rfl (q3.mono (by decide)) (zZ.nil)))
def i58 : EI := ⟨.struct [(0, 3), (1, 3)], 2, 16, some [.int .i64 0, .int .i64 0], true⟩
theorem za3 : yj Try.prog 58 i58 := ⟨⟨Try.t58, by kernel_rfl, rfl, rfl, fun z h => by cases h; exact ⟨_, rfl, rfl, zh rfl, rfl, ⟨_, rfl⟩⟩⟩, ⟨_, Try.underlying58, by kernel_rfl, by
  intro f hf
  simp only [List.mem_cons, List.not_mem_nil, or_false] at hf
  rcases hf with rfl | rfl
  ·exact ⟨Try.t3, by kernel_rfl⟩
  ·exact ⟨Try.t3, by kernel_rfl⟩⟩, fun _ => kV q58 rfl rfl (Nat.le_of_ble_eq_true (by kernel_rfl)) (by decide)⟩
theorem q59 : EqP Try.prog 59 (kn [([.int .i64 0], false), ([.int .i64 0], false)]) true 2 := Zo Try.underlying59 (by kernel_rfl) ⟨_, (by kernel_rfl : Try.prog.info? 59 = some Try.t59), rfl⟩ (by decide) (zZ.cons (by decide) rfl (q3.mono (by decide)) (zZ.cons (by decide) rfl (q3.mono (by decide)) (zZ.nil)))
def i59 : EI := ⟨.struct [(0, 3), (1, 3)], 2, 16, some [.int .i64 0, .int .i64 0], true⟩
theorem za2 : yj Try.prog 59 i59 := ⟨⟨Try.t59, by kernel_rfl, rfl, rfl, fun z h => by cases h; exact ⟨_, rfl, rfl, zh rfl, rfl, ⟨_, rfl⟩⟩⟩, ⟨_, Try.underlying59, by kernel_rfl, by
  intro f hf
  simp only [List.mem_cons, List.not_mem_nil, or_false] at hf
  rcases hf with rfl | rfl
  ·exact ⟨Try.t3, by kernel_rfl⟩
  ·exact ⟨Try.t3, by kernel_rfl⟩⟩, fun _ => kV q59 rfl rfl (Nat.le_of_ble_eq_true (by kernel_rfl)) (by decide)⟩
def i60 : EI := ⟨.func, 1, 8, some [.nilFunc], false⟩
theorem za1 : yj Try.prog 60 i60 := ⟨⟨Try.t60, by kernel_rfl, rfl, rfl, fun z h => by cases h; exact ⟨_, rfl, rfl, zh rfl, rfl, rfl⟩⟩, ⟨_, _, _, Try.underlying60⟩, by intro h; cases h⟩
def i61 : EI := ⟨.func, 1, 8, some [.nilFunc], false⟩
theorem za0 : yj Try.prog 61 i61 := ⟨⟨Try.t61, by kernel_rfl, rfl, rfl, fun z h => by cases h; exact ⟨_, rfl, rfl, zh rfl, rfl, rfl⟩⟩, ⟨_, _, _, Try.underlying61⟩, by intro h; cases h⟩
def i62 : EI := ⟨.func, 1, 8, some [.nilFunc], false⟩
theorem z9Z : yj Try.prog 62 i62 := ⟨⟨Try.t62, by kernel_rfl, rfl, rfl, fun z h => by cases h; exact ⟨_, rfl, rfl, zh rfl, rfl, rfl⟩⟩, ⟨_, _, _, Try.underlying62⟩, by intro h; cases h⟩
def i63 : EI := ⟨.func, 1, 8, some [.nilFunc], false⟩
theorem z9Y : yj Try.prog 63 i63 := ⟨⟨Try.t63, by kernel_rfl, rfl, rfl, fun z h => by cases h; exact ⟨_, rfl, rfl, zh rfl, rfl, rfl⟩⟩, ⟨_, _, _, Try.underlying63⟩, by intro h; cases h⟩
def i64 : EI := ⟨.struct [(0, 24), (3, 25), (4, 63)], 5, 72, some [.int .i64 0, .int .i64 0, .slice none 0 0, .slice none 0 0, .nilFunc], false⟩
theorem z9X : yj Try.prog 64 i64 := ⟨⟨Try.t64, by kernel_rfl, rfl, rfl, fun z h => by cases h; exact ⟨_, rfl, rfl, zh rfl, rfl, ⟨_, rfl⟩⟩⟩, ⟨_, Try.underlying64, by kernel_rfl, by
  intro f hf
  simp only [List.mem_cons, List.not_mem_nil, or_false] at hf
  rcases hf with rfl | rfl | rfl
  ·exact ⟨Try.t24, by kernel_rfl⟩
  ·exact ⟨Try.t25, by kernel_rfl⟩
  ·exact ⟨Try.t63, by kernel_rfl⟩⟩, by intro h; cases h⟩
def i65 : EI := ⟨.struct [(0, 24), (3, 25), (4, 63)], 5, 72, some [.int .i64 0, .int .i64 0, .slice none 0 0, .slice none 0 0, .nilFunc], false⟩
theorem z9W : yj Try.prog 65 i65 := ⟨⟨Try.t65, by kernel_rfl, rfl, rfl, fun z h => by cases h; exact ⟨_, rfl, rfl, zh rfl, rfl, ⟨_, rfl⟩⟩⟩, ⟨_, Try.underlying65, by kernel_rfl, by
  intro f hf
  simp only [List.mem_cons, List.not_mem_nil, or_false] at hf
  rcases hf with rfl | rfl | rfl
  ·exact ⟨Try.t24, by kernel_rfl⟩
  ·exact ⟨Try.t25, by kernel_rfl⟩
  ·exact ⟨Try.t63, by kernel_rfl⟩⟩, by intro h; cases h⟩
def i66 : EI := ⟨.func, 1, 8, some [.nilFunc], false⟩
theorem z9V : yj Try.prog 66 i66 := ⟨⟨Try.t66, by kernel_rfl, rfl, rfl, fun z h => by cases h; exact ⟨_, rfl, rfl, zh rfl, rfl, rfl⟩⟩, ⟨_, _, _, Try.underlying66⟩, by intro h; cases h⟩
def i67 : EI := ⟨.func, 1, 8, some [.nilFunc], false⟩
theorem z9U : yj Try.prog 67 i67 := ⟨⟨Try.t67, by kernel_rfl, rfl, rfl, fun z h => by cases h; exact ⟨_, rfl, rfl, zh rfl, rfl, rfl⟩⟩, ⟨_, _, _, Try.underlying67⟩, by intro h; cases h⟩
def i68 : EI := ⟨.slice 24, 1, 24, some [.slice none 0 0], false⟩
theorem z9T : yj Try.prog 68 i68 := ⟨⟨Try.t68, by kernel_rfl, rfl, rfl, fun z h => by cases h; exact ⟨_, rfl, rfl, zh rfl, rfl, rfl⟩⟩, Try.underlying68, by intro h; cases h⟩
def i69 : EI := ⟨.func, 1, 8, some [.nilFunc], false⟩
theorem z9S : yj Try.prog 69 i69 := ⟨⟨Try.t69, by kernel_rfl, rfl, rfl, fun z h => by cases h; exact ⟨_, rfl, rfl, zh rfl, rfl, rfl⟩⟩, ⟨_, _, _, Try.underlying69⟩, by intro h; cases h⟩
def i70 : EI := ⟨.func, 1, 8, some [.nilFunc], false⟩
theorem z9R : yj Try.prog 70 i70 := ⟨⟨Try.t70, by kernel_rfl, rfl, rfl, fun z h => by cases h; exact ⟨_, rfl, rfl, zh rfl, rfl, rfl⟩⟩, ⟨_, _, _, Try.underlying70⟩, by intro h; cases h⟩
def i71 : EI := ⟨.func, 1, 8, some [.nilFunc], false⟩
theorem z9Q : yj Try.prog 71 i71 := ⟨⟨Try.t71, by kernel_rfl, rfl, rfl, fun z h => by cases h; exact ⟨_, rfl, rfl, zh rfl, rfl, rfl⟩⟩, ⟨_, _, _, Try.underlying71⟩, by intro h; cases h⟩
def i72 : EI := ⟨.func, 1, 8, some [.nilFunc], false⟩
theorem z9P : yj Try.prog 72 i72 := ⟨⟨Try.t72, by kernel_rfl, rfl, rfl, fun z h => by cases h; exact ⟨_, rfl, rfl, zh rfl, rfl, rfl⟩⟩, ⟨_, _, _, Try.underlying72⟩, by intro h; cases h⟩
def i73 : EI := ⟨.func, 1, 8, some [.nilFunc], false⟩
theorem z9O : yj Try.prog 73 i73 := ⟨⟨Try.t73, by kernel_rfl, rfl, rfl, fun z h => by cases h; exact ⟨_, rfl, rfl, zh rfl, rfl, rfl⟩⟩, ⟨_, _, _, Try.underlying73⟩, by intro h; cases h⟩
def i74 : EI := ⟨.func, 1, 8, some [.nilFunc], false⟩
theorem z9N : yj Try.prog 74 i74 := ⟨⟨Try.t74, by kernel_rfl, rfl, rfl, fun z h => by cases h; exact ⟨_, rfl, rfl, zh rfl, rfl, rfl⟩⟩, ⟨_, _, _, Try.underlying74⟩, by intro h; cases h⟩
def i75 : EI := ⟨.func, 1, 8, some [.nilFunc], false⟩
theorem z9M : yj Try.prog 75 i75 := ⟨⟨Try.t75, by kernel_rfl, rfl, rfl, fun z h => by cases h; exact ⟨_, rfl, rfl, zh rfl, rfl, rfl⟩⟩, ⟨_, _, _, Try.underlying75⟩, by intro h; cases h⟩
def i76 : EI := ⟨.func, 1, 8, some [.nilFunc], false⟩
theorem z9L : yj Try.prog 76 i76 := ⟨⟨Try.t76, by kernel_rfl, rfl, rfl, fun z h => by cases h; exact ⟨_, rfl, rfl, zh rfl, rfl, rfl⟩⟩, ⟨_, _, _, Try.underlying76⟩, by intro h; cases h⟩
def i77 : EI := ⟨.func, 1, 8, some [.nilFunc], false⟩
theorem z9K : yj Try.prog 77 i77 := ⟨⟨Try.t77, by kernel_rfl, rfl, rfl, fun z h => by cases h; exact ⟨_, rfl, rfl, zh rfl, rfl, rfl⟩⟩, ⟨_, _, _, Try.underlying77⟩, by intro h; cases h⟩
def i78 : EI := ⟨.func, 1, 8, some [.nilFunc], false⟩
theorem z9J : yj Try.prog 78 i78 := ⟨⟨Try.t78, by kernel_rfl, rfl, rfl, fun z h => by cases h; exact ⟨_, rfl, rfl, zh rfl, rfl, rfl⟩⟩, ⟨_, _, _, Try.underlying78⟩, by intro h; cases h⟩
def i79 : EI := ⟨.func, 1, 8, some [.nilFunc], false⟩
theorem z9I : yj Try.prog 79 i79 := ⟨⟨Try.t79, by kernel_rfl, rfl, rfl, fun z h => by cases h; exact ⟨_, rfl, rfl, zh rfl, rfl, rfl⟩⟩, ⟨_, _, _, Try.underlying79⟩, by intro h; cases h⟩
def i80 : EI := ⟨.func, 1, 8, some [.nilFunc], false⟩
theorem z9H : yj Try.prog 80 i80 := ⟨⟨Try.t80, by kernel_rfl, rfl, rfl, fun z h => by cases h; exact ⟨_, rfl, rfl, zh rfl, rfl, rfl⟩⟩, ⟨_, _, _, Try.underlying80⟩, by intro h; cases h⟩
def i81 : EI := ⟨.func, 1, 8, some [.nilFunc], false⟩
theorem z9G : yj Try.prog 81 i81 := ⟨⟨Try.t81, by kernel_rfl, rfl, rfl, fun z h => by cases h; exact ⟨_, rfl, rfl, zh rfl, rfl, rfl⟩⟩, ⟨_, _, _, Try.underlying81⟩, by intro h; cases h⟩
def i82 : EI := ⟨.func, 1, 8, some [.nilFunc], false⟩
theorem z9F : yj Try.prog 82 i82 := ⟨⟨Try.t82, by kernel_rfl, rfl, rfl, fun z h => by cases h; exact ⟨_, rfl, rfl, zh rfl, rfl, rfl⟩⟩, ⟨_, _, _, Try.underlying82⟩, by intro h; cases h⟩
def i83 : EI := ⟨.slice 4, 1, 24, some [.slice none 0 0], false⟩
theorem z9E : yj Try.prog 83 i83 := ⟨⟨Try.t83, by kernel_rfl, rfl, rfl, fun z h => by cases h; exact ⟨_, rfl, rfl, zh rfl, rfl, rfl⟩⟩, Try.underlying83, by intro h; cases h⟩
def i84 : EI := ⟨.func, 1, 8, some [.nilFunc], false⟩
theorem z9D : yj Try.prog 84 i84 := ⟨⟨Try.t84, by kernel_rfl, rfl, rfl, fun z h => by cases h; exact ⟨_, rfl, rfl, zh rfl, rfl, rfl⟩⟩, ⟨_, _, _, Try.underlying84⟩, by intro h; cases h⟩
def i85 : EI := ⟨.func, 1, 8, some [.nilFunc], false⟩
theorem z9C : yj Try.prog 85 i85 := ⟨⟨Try.t85, by kernel_rfl, rfl, rfl, fun z h => by cases h; exact ⟨_, rfl, rfl, zh rfl, rfl, rfl⟩⟩, ⟨_, _, _, Try.underlying85⟩, by intro h; cases h⟩
def i86 : EI := ⟨.struct [(0, 31), (1, 45)], 2, 16, some [.int .i64 0, .nilFunc], false⟩
theorem z9B : yj Try.prog 86 i86 := ⟨⟨Try.t86, by kernel_rfl, rfl, rfl, fun z h => by cases h; exact ⟨_, rfl, rfl, zh rfl, rfl, ⟨_, rfl⟩⟩⟩, ⟨_, Try.underlying86, by kernel_rfl, by
  intro f hf
  simp only [List.mem_cons, List.not_mem_nil, or_false] at hf
  rcases hf with rfl | rfl
  ·exact ⟨Try.t31, by kernel_rfl⟩
  ·exact ⟨Try.t45, by kernel_rfl⟩⟩, by intro h; cases h⟩
def i87 : EI := ⟨.struct [(0, 31), (1, 45)], 2, 16, some [.int .i64 0, .nilFunc], false⟩
theorem z9A : yj Try.prog 87 i87 := ⟨⟨Try.t87, by kernel_rfl, rfl, rfl, fun z h => by cases h; exact ⟨_, rfl, rfl, zh rfl, rfl, ⟨_, rfl⟩⟩⟩, ⟨_, Try.underlying87, by kernel_rfl, by
  intro f hf
  simp only [List.mem_cons, List.not_mem_nil, or_false] at hf
  rcases hf with rfl | rfl
  ·exact ⟨Try.t31, by kernel_rfl⟩
  ·exact ⟨Try.t45, by kernel_rfl⟩⟩, by intro h; cases h⟩
def i88 : EI := ⟨.array 3 87, 6, 48, some [.int .i64 0, .nilFunc, .int .i64 0, .nilFunc, .int .i64 0, .nilFunc], false⟩
theorem z9z : yj Try.prog 88 i88 := ⟨⟨Try.t88, by kernel_rfl, rfl, rfl, fun z h => by cases h; exact ⟨_, rfl, rfl, zh rfl, rfl, ⟨_, rfl⟩⟩⟩, Try.underlying88, by intro h; cases h⟩
def i89 : EI := ⟨.func, 1, 8, some [.nilFunc], false⟩
theorem z9y : yj Try.prog 89 i89 := ⟨⟨Try.t89, by kernel_rfl, rfl, rfl, fun z h => by cases h; exact ⟨_, rfl, rfl, zh rfl, rfl, rfl⟩⟩, ⟨_, _, _, Try.underlying89⟩, by intro h; cases h⟩
def i90 : EI := ⟨.ptr 59, 1, 8, some [.pointer none], false⟩
theorem z9x : yj Try.prog 90 i90 := ⟨⟨Try.t90, by kernel_rfl, rfl, rfl, fun z h => by cases h; exact ⟨_, rfl, rfl, zh rfl, rfl, rfl⟩⟩, Try.underlying90, by intro h; cases h⟩
def i91 : EI := ⟨.func, 1, 8, some [.nilFunc], false⟩
theorem z9w : yj Try.prog 91 i91 := ⟨⟨Try.t91, by kernel_rfl, rfl, rfl, fun z h => by cases h; exact ⟨_, rfl, rfl, zh rfl, rfl, rfl⟩⟩, ⟨_, _, _, Try.underlying91⟩, by intro h; cases h⟩
def i92 : EI := ⟨.func, 1, 8, some [.nilFunc], false⟩
theorem z9v : yj Try.prog 92 i92 := ⟨⟨Try.t92, by kernel_rfl, rfl, rfl, fun z h => by cases h; exact ⟨_, rfl, rfl, zh rfl, rfl, rfl⟩⟩, ⟨_, _, _, Try.underlying92⟩, by intro h; cases h⟩
def i93 : EI := ⟨.func, 1, 8, some [.nilFunc], false⟩
theorem z9u : yj Try.prog 93 i93 := ⟨⟨Try.t93, by kernel_rfl, rfl, rfl, fun z h => by cases h; exact ⟨_, rfl, rfl, zh rfl, rfl, rfl⟩⟩, ⟨_, _, _, Try.underlying93⟩, by intro h; cases h⟩
def i94 : EI := ⟨.func, 1, 8, some [.nilFunc], false⟩
theorem z9t : yj Try.prog 94 i94 := ⟨⟨Try.t94, by kernel_rfl, rfl, rfl, fun z h => by cases h; exact ⟨_, rfl, rfl, zh rfl, rfl, rfl⟩⟩, ⟨_, _, _, Try.underlying94⟩, by intro h; cases h⟩
def i95 : EI := ⟨.slice 83, 1, 24, some [.slice none 0 0], false⟩
theorem z9s : yj Try.prog 95 i95 := ⟨⟨Try.t95, by kernel_rfl, rfl, rfl, fun z h => by cases h; exact ⟨_, rfl, rfl, zh rfl, rfl, rfl⟩⟩, Try.underlying95, by intro h; cases h⟩
def i96 : EI := ⟨.func, 1, 8, some [.nilFunc], false⟩
theorem z9r : yj Try.prog 96 i96 := ⟨⟨Try.t96, by kernel_rfl, rfl, rfl, fun z h => by cases h; exact ⟨_, rfl, rfl, zh rfl, rfl, rfl⟩⟩, ⟨_, _, _, Try.underlying96⟩, by intro h; cases h⟩
def i98 : EI := ⟨.func, 1, 8, some [.nilFunc], false⟩
theorem z9q : yj Try.prog 98 i98 := ⟨⟨Try.t98, by kernel_rfl, rfl, rfl, fun z h => by cases h; exact ⟨_, rfl, rfl, zh rfl, rfl, rfl⟩⟩, ⟨_, _, _, Try.underlying98⟩, by intro h; cases h⟩
def zeo : EI := ⟨.func, 1, 8, some [.nilFunc], false⟩
theorem z7Q : yj Try.prog 100 zeo := ⟨⟨Try.t100, by kernel_rfl, rfl, rfl, fun z h => by cases h; exact ⟨_, rfl, rfl, zh rfl, rfl, rfl⟩⟩, ⟨_, _, _, Try.underlying100⟩, by intro h; cases h⟩
theorem zct : EqP Try.prog 101 (z2a 2 [.int .i64 0]) true 2 := WY Try.underlying101 q3 ⟨_, (by kernel_rfl : Try.prog.info? 101 = some Try.t101), rfl⟩
def zen : EI := ⟨.array 2 3, 2, 16, some [.int .i64 0, .int .i64 0], true⟩
theorem z7P : yj Try.prog 101 zen := ⟨⟨Try.t101, by kernel_rfl, rfl, rfl, fun z h => by cases h; exact ⟨_, rfl, rfl, zh rfl, rfl, ⟨_, rfl⟩⟩⟩, Try.underlying101, fun _ => kV zct rfl rfl (Nat.le_of_ble_eq_true (by kernel_rfl)) (by decide)⟩
def zem : EI := ⟨.slice 101, 1, 24, some [.slice none 0 0], false⟩
theorem z7O : yj Try.prog 102 zem := ⟨⟨Try.t102, by kernel_rfl, rfl, rfl, fun z h => by cases h; exact ⟨_, rfl, rfl, zh rfl, rfl, rfl⟩⟩, Try.underlying102, by intro h; cases h⟩
def zel : EI := ⟨.func, 1, 8, some [.nilFunc], false⟩
theorem z7N : yj Try.prog 103 zel := ⟨⟨Try.t103, by kernel_rfl, rfl, rfl, fun z h => by cases h; exact ⟨_, rfl, rfl, zh rfl, rfl, rfl⟩⟩, ⟨_, _, _, Try.underlying103⟩, by intro h; cases h⟩
def zek : EI := ⟨.func, 1, 8, some [.nilFunc], false⟩
theorem z7M : yj Try.prog 104 zek := ⟨⟨Try.t104, by kernel_rfl, rfl, rfl, fun z h => by cases h; exact ⟨_, rfl, rfl, zh rfl, rfl, rfl⟩⟩, ⟨_, _, _, Try.underlying104⟩, by intro h; cases h⟩
def zej : EI := ⟨.func, 1, 8, some [.nilFunc], false⟩
theorem z7L : yj Try.prog 105 zej := ⟨⟨Try.t105, by kernel_rfl, rfl, rfl, fun z h => by cases h; exact ⟨_, rfl, rfl, zh rfl, rfl, rfl⟩⟩, ⟨_, _, _, Try.underlying105⟩, by intro h; cases h⟩
def zei : EI := ⟨.func, 1, 8, some [.nilFunc], false⟩
theorem z7K : yj Try.prog 106 zei := ⟨⟨Try.t106, by kernel_rfl, rfl, rfl, fun z h => by cases h; exact ⟨_, rfl, rfl, zh rfl, rfl, rfl⟩⟩, ⟨_, _, _, Try.underlying106⟩, by intro h; cases h⟩
def zeh : EI := ⟨.func, 1, 8, some [.nilFunc], false⟩
theorem z7J : yj Try.prog 107 zeh := ⟨⟨Try.t107, by kernel_rfl, rfl, rfl, fun z h => by cases h; exact ⟨_, rfl, rfl, zh rfl, rfl, rfl⟩⟩, ⟨_, _, _, Try.underlying107⟩, by intro h; cases h⟩
def zeg : EI := ⟨.func, 1, 8, some [.nilFunc], false⟩
theorem z7I : yj Try.prog 108 zeg := ⟨⟨Try.t108, by kernel_rfl, rfl, rfl, fun z h => by cases h; exact ⟨_, rfl, rfl, zh rfl, rfl, rfl⟩⟩, ⟨_, _, _, Try.underlying108⟩, by intro h; cases h⟩
def zef : EI := ⟨.func, 1, 8, some [.nilFunc], false⟩
theorem z7H : yj Try.prog 109 zef := ⟨⟨Try.t109, by kernel_rfl, rfl, rfl, fun z h => by cases h; exact ⟨_, rfl, rfl, zh rfl, rfl, rfl⟩⟩, ⟨_, _, _, Try.underlying109⟩, by intro h; cases h⟩
def zee : EI := ⟨.func, 1, 8, some [.nilFunc], false⟩
theorem z7G : yj Try.prog 110 zee := ⟨⟨Try.t110, by kernel_rfl, rfl, rfl, fun z h => by cases h; exact ⟨_, rfl, rfl, zh rfl, rfl, rfl⟩⟩, ⟨_, _, _, Try.underlying110⟩, by intro h; cases h⟩
def zed : EI := ⟨.func, 1, 8, some [.nilFunc], false⟩
theorem z7F : yj Try.prog 111 zed := ⟨⟨Try.t111, by kernel_rfl, rfl, rfl, fun z h => by cases h; exact ⟨_, rfl, rfl, zh rfl, rfl, rfl⟩⟩, ⟨_, _, _, Try.underlying111⟩, by intro h; cases h⟩
def zec : EI := ⟨.func, 1, 8, some [.nilFunc], false⟩
theorem z7E : yj Try.prog 112 zec := ⟨⟨Try.t112, by kernel_rfl, rfl, rfl, fun z h => by cases h; exact ⟨_, rfl, rfl, zh rfl, rfl, rfl⟩⟩, ⟨_, _, _, Try.underlying112⟩, by intro h; cases h⟩
def zeb : EI := ⟨.func, 1, 8, some [.nilFunc], false⟩
theorem z7D : yj Try.prog 113 zeb := ⟨⟨Try.t113, by kernel_rfl, rfl, rfl, fun z h => by cases h; exact ⟨_, rfl, rfl, zh rfl, rfl, rfl⟩⟩, ⟨_, _, _, Try.underlying113⟩, by intro h; cases h⟩
def zea : EI := ⟨.func, 1, 8, some [.nilFunc], false⟩
theorem z7C : yj Try.prog 114 zea := ⟨⟨Try.t114, by kernel_rfl, rfl, rfl, fun z h => by cases h; exact ⟨_, rfl, rfl, zh rfl, rfl, rfl⟩⟩, ⟨_, _, _, Try.underlying114⟩, by intro h; cases h⟩
def ze9 : EI := ⟨.func, 1, 8, some [.nilFunc], false⟩
theorem z7B : yj Try.prog 115 ze9 := ⟨⟨Try.t115, by kernel_rfl, rfl, rfl, fun z h => by cases h; exact ⟨_, rfl, rfl, zh rfl, rfl, rfl⟩⟩, ⟨_, _, _, Try.underlying115⟩, by intro h; cases h⟩
def ze8 : EI := ⟨.func, 1, 8, some [.nilFunc], false⟩
theorem z7A : yj Try.prog 116 ze8 := ⟨⟨Try.t116, by kernel_rfl, rfl, rfl, fun z h => by cases h; exact ⟨_, rfl, rfl, zh rfl, rfl, rfl⟩⟩, ⟨_, _, _, Try.underlying116⟩, by intro h; cases h⟩
def ze7 : EI := ⟨.func, 1, 8, some [.nilFunc], false⟩
theorem z7z : yj Try.prog 117 ze7 := ⟨⟨Try.t117, by kernel_rfl, rfl, rfl, fun z h => by cases h; exact ⟨_, rfl, rfl, zh rfl, rfl, rfl⟩⟩, ⟨_, _, _, Try.underlying117⟩, by intro h; cases h⟩
def ze6 : EI := ⟨.func, 1, 8, some [.nilFunc], false⟩
theorem z7y : yj Try.prog 118 ze6 := ⟨⟨Try.t118, by kernel_rfl, rfl, rfl, fun z h => by cases h; exact ⟨_, rfl, rfl, zh rfl, rfl, rfl⟩⟩, ⟨_, _, _, Try.underlying118⟩, by intro h; cases h⟩
def ze5 : EI := ⟨.func, 1, 8, some [.nilFunc], false⟩
theorem z7x : yj Try.prog 119 ze5 := ⟨⟨Try.t119, by kernel_rfl, rfl, rfl, fun z h => by cases h; exact ⟨_, rfl, rfl, zh rfl, rfl, rfl⟩⟩, ⟨_, _, _, Try.underlying119⟩, by intro h; cases h⟩
def ze4 : EI := ⟨.func, 1, 8, some [.nilFunc], false⟩
theorem z7w : yj Try.prog 120 ze4 := ⟨⟨Try.t120, by kernel_rfl, rfl, rfl, fun z h => by cases h; exact ⟨_, rfl, rfl, zh rfl, rfl, rfl⟩⟩, ⟨_, _, _, Try.underlying120⟩, by intro h; cases h⟩
def ze3 : EI := ⟨.func, 1, 8, some [.nilFunc], false⟩
theorem z7v : yj Try.prog 121 ze3 := ⟨⟨Try.t121, by kernel_rfl, rfl, rfl, fun z h => by cases h; exact ⟨_, rfl, rfl, zh rfl, rfl, rfl⟩⟩, ⟨_, _, _, Try.underlying121⟩, by intro h; cases h⟩
def ze2 : EI := ⟨.map 127 3, 1, 8, some [.map none], false⟩
theorem z7u : yj Try.prog 122 ze2 := ⟨⟨Try.t122, by kernel_rfl, rfl, rfl, fun z h => by cases h; exact ⟨_, rfl, rfl, zh rfl, rfl, rfl⟩⟩, Try.underlying122, by intro h; cases h⟩
theorem zeP : EqP Try.prog 123 (z2a 16 [.int .i64 0, .int .i64 0]) true 3 := WY Try.underlying123 zct ⟨_, (by kernel_rfl : Try.prog.info? 123 = some Try.t123), rfl⟩
def ze1 : EI := ⟨.array 16 101, 32, 256, some [.int .i64 0, .int .i64 0, .int .i64 0, .int .i64 0, .int .i64 0, .int .i64 0, .int .i64 0, .int .i64 0, .int .i64 0, .int .i64 0, .int .i64 0, .int .i64 0, .int .i64 0, .int .i64 0, .int .i64 0, .int .i64 0, .int .i64 0, .int .i64 0, .int .i64 0, .int .i64 0, .int .i64 0, .int .i64 0, .int .i64 0, .int .i64 0, .int .i64 0, .int .i64 0, .int .i64 0, .int .i64 0, .int .i64 0, .int .i64 0, .int .i64 0, .int .i64 0], true⟩
theorem z7t : yj Try.prog 123 ze1 := ⟨⟨Try.t123, by kernel_rfl, rfl, rfl, fun z h => by cases h; exact ⟨_, rfl, rfl, zh rfl, rfl, ⟨_, rfl⟩⟩⟩, Try.underlying123, fun _ => kV zeP rfl rfl (Nat.le_of_ble_eq_true (by kernel_rfl)) (by decide)⟩
theorem zcr : EqP Try.prog 124 (z2a 16 [.int .i64 0, .int .i64 0]) true 3 := WY Try.underlying124 zct ⟨_, (by kernel_rfl : Try.prog.info? 124 = some Try.t124), rfl⟩
def ze0 : EI := ⟨.array 16 101, 32, 256, some [.int .i64 0, .int .i64 0, .int .i64 0, .int .i64 0, .int .i64 0, .int .i64 0, .int .i64 0, .int .i64 0, .int .i64 0, .int .i64 0, .int .i64 0, .int .i64 0, .int .i64 0, .int .i64 0, .int .i64 0, .int .i64 0, .int .i64 0, .int .i64 0, .int .i64 0, .int .i64 0, .int .i64 0, .int .i64 0, .int .i64 0, .int .i64 0, .int .i64 0, .int .i64 0, .int .i64 0, .int .i64 0, .int .i64 0, .int .i64 0, .int .i64 0, .int .i64 0], true⟩
theorem z7s : yj Try.prog 124 ze0 := ⟨⟨Try.t124, by kernel_rfl, rfl, rfl, fun z h => by cases h; exact ⟨_, rfl, rfl, zh rfl, rfl, ⟨_, rfl⟩⟩⟩, Try.underlying124, fun _ => kV zcr rfl rfl (Nat.le_of_ble_eq_true (by kernel_rfl)) (by decide)⟩
def zdZ : EI := ⟨.func, 1, 8, some [.nilFunc], false⟩
theorem z7r : yj Try.prog 125 zdZ := ⟨⟨Try.t125, by kernel_rfl, rfl, rfl, fun z h => by cases h; exact ⟨_, rfl, rfl, zh rfl, rfl, rfl⟩⟩, ⟨_, _, _, Try.underlying125⟩, by intro h; cases h⟩
theorem zeO : EqP Try.prog 126 (kn [([.int .i64 0], false), ([.int .i64 0, .int .i64 0, .int .i64 0, .int .i64 0, .int .i64 0, .int .i64 0, .int .i64 0, .int .i64 0, .int .i64 0, .int .i64 0, .int .i64 0, .int .i64 0, .int .i64 0, .int .i64 0, .int .i64 0, .int .i64 0, .int .i64 0, .int .i64 0, .int .i64 0, .int .i64 0, .int .i64 0, .int .i64 0, .int .i64 0, .int .i64 0, .int .i64 0, .int .i64 0, .int .i64 0, .int .i64 0, .int .i64 0, .int .i64 0, .int .i64 0, .int .i64 0], true)]) true 4 := Zo Try.underlying126 (by kernel_rfl) ⟨_, (by kernel_rfl : Try.prog.info? 126 = some Try.t126), rfl⟩ (by decide) (zZ.cons (by decide) rfl (q3.mono (by decide)) (zZ.cons (by decide) rfl (zcr.mono (by decide)) (zZ.nil)))
def zdY : EI := ⟨.struct [(0, 3), (1, 124)], 33, 264, some [.int .i64 0, .int .i64 0, .int .i64 0, .int .i64 0, .int .i64 0, .int .i64 0, .int .i64 0, .int .i64 0, .int .i64 0, .int .i64 0, .int .i64 0, .int .i64 0, .int .i64 0, .int .i64 0, .int .i64 0, .int .i64 0, .int .i64 0, .int .i64 0, .int .i64 0, .int .i64 0, .int .i64 0, .int .i64 0, .int .i64 0, .int .i64 0, .int .i64 0, .int .i64 0, .int .i64 0, .int .i64 0, .int .i64 0, .int .i64 0, .int .i64 0, .int .i64 0, .int .i64 0], true⟩
theorem z7q : yj Try.prog 126 zdY := ⟨⟨Try.t126, by kernel_rfl, rfl, rfl, fun z h => by cases h; exact ⟨_, rfl, rfl, zh rfl, rfl, ⟨_, rfl⟩⟩⟩, ⟨_, Try.underlying126, by kernel_rfl, by
  intro f hf
  simp only [List.mem_cons, List.not_mem_nil, or_false] at hf
  rcases hf with rfl | rfl
  ·exact ⟨Try.t3, by kernel_rfl⟩
  ·exact ⟨Try.t124, by kernel_rfl⟩⟩, fun _ => kV zeO rfl rfl (Nat.le_of_ble_eq_true (by kernel_rfl)) (by decide)⟩
theorem zcK : EqP Try.prog 127 (kn [([.int .i64 0], false), ([.int .i64 0, .int .i64 0, .int .i64 0, .int .i64 0, .int .i64 0, .int .i64 0, .int .i64 0, .int .i64 0, .int .i64 0, .int .i64 0, .int .i64 0, .int .i64 0, .int .i64 0, .int .i64 0, .int .i64 0, .int .i64 0, .int .i64 0, .int .i64 0, .int .i64 0, .int .i64 0, .int .i64 0, .int .i64 0, .int .i64 0, .int .i64 0, .int .i64 0, .int .i64 0, .int .i64 0, .int .i64 0, .int .i64 0, .int .i64 0, .int .i64 0, .int .i64 0], true)]) true 4 := Zo Try.underlying127 (by kernel_rfl) ⟨_, (by kernel_rfl : Try.prog.info? 127 = some Try.t127), rfl⟩ (by decide) (zZ.cons (by decide) rfl (q3.mono (by decide)) (zZ.cons (by decide) rfl (zcr.mono (by decide)) (zZ.nil)))
def zdX : EI := ⟨.struct [(0, 3), (1, 124)], 33, 264, some [.int .i64 0, .int .i64 0, .int .i64 0, .int .i64 0, .int .i64 0, .int .i64 0, .int .i64 0, .int .i64 0, .int .i64 0, .int .i64 0, .int .i64 0, .int .i64 0, .int .i64 0, .int .i64 0, .int .i64 0, .int .i64 0, .int .i64 0, .int .i64 0, .int .i64 0, .int .i64 0, .int .i64 0, .int .i64 0, .int .i64 0, .int .i64 0, .int .i64 0, .int .i64 0, .int .i64 0, .int .i64 0, .int .i64 0, .int .i64 0, .int .i64 0, .int .i64 0, .int .i64 0], true⟩
theorem z7p : yj Try.prog 127 zdX := ⟨⟨Try.t127, by kernel_rfl, rfl, rfl, fun z h => by cases h; exact ⟨_, rfl, rfl, zh rfl, rfl, ⟨_, rfl⟩⟩⟩, ⟨_, Try.underlying127, by kernel_rfl, by
  intro f hf
  simp only [List.mem_cons, List.not_mem_nil, or_false] at hf
  rcases hf with rfl | rfl
  ·exact ⟨Try.t3, by kernel_rfl⟩
  ·exact ⟨Try.t124, by kernel_rfl⟩⟩, fun _ => kV zcK rfl rfl (Nat.le_of_ble_eq_true (by kernel_rfl)) (by decide)⟩
def zdW : EI := ⟨.func, 1, 8, some [.nilFunc], false⟩
theorem z7o : yj Try.prog 129 zdW := ⟨⟨Try.t129, by kernel_rfl, rfl, rfl, fun z h => by cases h; exact ⟨_, rfl, rfl, zh rfl, rfl, rfl⟩⟩, ⟨_, _, _, Try.underlying129⟩, by intro h; cases h⟩
def zdV : EI := ⟨.func, 1, 8, some [.nilFunc], false⟩
theorem z7n : yj Try.prog 135 zdV := ⟨⟨Try.t135, by kernel_rfl, rfl, rfl, fun z h => by cases h; exact ⟨_, rfl, rfl, zh rfl, rfl, rfl⟩⟩, ⟨_, _, _, Try.underlying135⟩, by intro h; cases h⟩
def zdU : EI := ⟨.int .u32, 1, 4, some [.int .u32 0], false⟩
theorem z7m : yj Try.prog 136 zdU := ⟨⟨Try.t136, by kernel_rfl, rfl, rfl, fun z h => by cases h; exact ⟨_, rfl, rfl, zh rfl, rfl, rfl⟩⟩, Try.underlying136, by intro h; cases h⟩
def zdT : EI := ⟨.ptr 5, 1, 8, some [.pointer none], false⟩
theorem z7l : yj Try.prog 140 zdT := ⟨⟨Try.t140, by kernel_rfl, rfl, rfl, fun z h => by cases h; exact ⟨_, rfl, rfl, zh rfl, rfl, rfl⟩⟩, Try.underlying140, by intro h; cases h⟩
def etT : TrT EI := .node none (.node (some i1) (.node (some i3) (.node none (.node none (.node (some i31) (.node (some i63) (.node (some zdX) (.nil) (.nil)) (.nil)) (.node (some i95) (.nil) (.nil))) (.node (some i47) (.node (some i79) (.nil) (.nil)) (.node (some zed) (.nil) (.nil)))) (.node (some i23) (.node (some i39) (.node (some i71) (.node (some zdV) (.nil) (.nil)) (.nil)) (.node (some zel) (.nil) (.nil))) (.node (some i55) (.node (some i87) (.nil) (.nil)) (.node (some ze5) (.nil) (.nil))))) (.node none (.node none (.node none (.node (some i67) (.nil) (.nil)) (.nil)) (.node (some i51) (.node (some i83) (.nil) (.nil)) (.node (some ze9) (.nil) (.nil)))) (.node (some i27) (.node (some i43) (.node (some i75) (.nil) (.nil)) (.node (some zeh) (.nil) (.nil))) (.node (some i59) (.node (some i91) (.nil) (.nil)) (.node (some ze1) (.nil) (.nil)))))) (.node (some i5) (.node (some i9) (.node none (.node (some i33) (.node (some i65) (.node (some zdW) (.nil) (.nil)) (.nil)) (.nil)) (.node (some i49) (.node (some i81) (.nil) (.nil)) (.node (some zeb) (.nil) (.nil)))) (.node (some i25) (.node (some i41) (.node (some i73) (.nil) (.nil)) (.node (some zej) (.nil) (.nil))) (.node (some i57) (.node (some i89) (.nil) (.nil)) (.node (some ze3) (.nil) (.nil))))) (.node (some i13) (.node (some i21) (.node none (.node (some i69) (.nil) (.nil)) (.node (some zen) (.nil) (.nil))) (.node (some i53) (.node (some i85) (.nil) (.nil)) (.node (some ze7) (.nil) (.nil)))) (.node (some i29) (.node (some i45) (.node (some i77) (.nil) (.nil)) (.node (some zef) (.nil) (.nil))) (.node (some i61) (.node (some i93) (.nil) (.nil)) (.node (some zdZ) (.nil) (.nil))))))) (.node (some i2) (.node (some i4) (.node none (.node none (.node none (.node (some i64) (.nil) (.nil)) (.node (some i96) (.nil) (.nil))) (.node (some i48) (.node (some i80) (.nil) (.nil)) (.node (some zec) (.nil) (.nil)))) (.node (some i24) (.node (some i40) (.node (some i72) (.node (some zdU) (.nil) (.nil)) (.nil)) (.node (some zek) (.nil) (.nil))) (.node (some i56) (.node (some i88) (.nil) (.nil)) (.node (some ze4) (.nil) (.nil))))) (.node (some i12) (.node (some i20) (.node (some i36) (.node (some i68) (.nil) (.nil)) (.node (some zeo) (.nil) (.nil))) (.node (some i52) (.node (some i84) (.nil) (.nil)) (.node (some ze8) (.nil) (.nil)))) (.node (some i28) (.node (some i44) (.node (some i76) (.node (some zdT) (.nil) (.nil)) (.nil)) (.node (some zeg) (.nil) (.nil))) (.node (some i60) (.node (some i92) (.nil) (.nil)) (.node (some ze0) (.nil) (.nil)))))) (.node none (.node none (.node none (.node (some i34) (.node (some i66) (.nil) (.nil)) (.node (some i98) (.nil) (.nil))) (.node (some i50) (.node (some i82) (.nil) (.nil)) (.node (some zea) (.nil) (.nil)))) (.node (some i26) (.node none (.node (some i74) (.nil) (.nil)) (.node (some zei) (.nil) (.nil))) (.node (some i58) (.node (some i90) (.nil) (.nil)) (.node (some ze2) (.nil) (.nil))))) (.node none (.node (some i22) (.node (some i38) (.node (some i70) (.nil) (.nil)) (.node (some zem) (.nil) (.nil))) (.node (some i54) (.node (some i86) (.nil) (.nil)) (.node (some ze6) (.nil) (.nil)))) (.node (some i30) (.node none (.node (some i78) (.nil) (.nil)) (.node (some zee) (.nil) (.nil))) (.node (some i62) (.node (some i94) (.nil) (.nil)) (.node (some zdY) (.nil) (.nil)))))))
def zeC : ET := fun t => etT.get t
theorem zc6 : etT.All (yj Try.prog) (fun k => k) := .none (.some zcW (.some zcU (.none (.none (.some zap (.some z9Y (.some z7p (.nil) (.nil)) (.nil)) (.some z9s (.nil) (.nil))) (.some zae (.some z9I (.nil) (.nil)) (.some z7F (.nil) (.nil)))) (.some zax (.some zak (.some z9Q (.some z7n (.nil) (.nil)) (.nil)) (.some z7N (.nil) (.nil))) (.some za6 (.some z9A (.nil) (.nil)) (.some z7x (.nil) (.nil))))) (.none (.none (.none (.some z9U (.nil) (.nil)) (.nil)) (.some zaa (.some z9E (.nil) (.nil)) (.some z7B (.nil) (.nil)))) (.some zat (.some zah (.some z9M (.nil) (.nil)) (.some z7J (.nil) (.nil))) (.some za2 (.some z9w (.nil) (.nil)) (.some z7t (.nil) (.nil)))))) (.some zcS (.some zcR (.none (.some zao (.some z9W (.some z7o (.nil) (.nil)) (.nil)) (.nil)) (.some zac (.some z9G (.nil) (.nil)) (.some z7D (.nil) (.nil)))) (.some zav (.some zai (.some z9O (.nil) (.nil)) (.some z7L (.nil) (.nil))) (.some za4 (.some z9y (.nil) (.nil)) (.some z7v (.nil) (.nil))))) (.some zaB (.some zaz (.none (.some z9S (.nil) (.nil)) (.some z7P (.nil) (.nil))) (.some za8 (.some z9C (.nil) (.nil)) (.some z7z (.nil) (.nil)))) (.some zar (.some zaf (.some z9K (.nil) (.nil)) (.some z7H (.nil) (.nil))) (.some za0 (.some z9u (.nil) (.nil)) (.some z7r (.nil) (.nil))))))) (.some zcV (.some zcT (.none (.none (.none (.some z9X (.nil) (.nil)) (.some z9r (.nil) (.nil))) (.some zad (.some z9H (.nil) (.nil)) (.some z7E (.nil) (.nil)))) (.some zaw (.some zaj (.some z9P (.some z7m (.nil) (.nil)) (.nil)) (.some z7M (.nil) (.nil))) (.some za5 (.some z9z (.nil) (.nil)) (.some z7w (.nil) (.nil))))) (.some zaC (.some zaA (.some zam (.some z9T (.nil) (.nil)) (.some z7Q (.nil) (.nil))) (.some za9 (.some z9D (.nil) (.nil)) (.some z7A (.nil) (.nil)))) (.some zas (.some zag (.some z9L (.some z7l (.nil) (.nil)) (.nil)) (.some z7I (.nil) (.nil))) (.some za1 (.some z9v (.nil) (.nil)) (.some z7s (.nil) (.nil)))))) (.none (.none (.none (.some zan (.some z9V (.nil) (.nil)) (.some z9q (.nil) (.nil))) (.some zab (.some z9F (.nil) (.nil)) (.some z7C (.nil) (.nil)))) (.some zau (.none (.some z9N (.nil) (.nil)) (.some z7K (.nil) (.nil))) (.some za3 (.some z9x (.nil) (.nil)) (.some z7u (.nil) (.nil))))) (.none (.some zay (.some zal (.some z9R (.nil) (.nil)) (.some z7O (.nil) (.nil))) (.some za7 (.some z9B (.nil) (.nil)) (.some z7y (.nil) (.nil)))) (.some zaq (.none (.some z9J (.nil) (.nil)) (.some z7G (.nil) (.nil))) (.some z9Z (.some z9t (.nil) (.nil)) (.some z7q (.nil) (.nil)))))))
theorem z8q : ue Try.prog zeC := fun t _ h => zc6.get t h
end Go.Ex

namespace Go.Own
open Go.Proofs
def z3y : Value → Bool
 | .int _ _ => true
 | _ => false
theorem JN : ∀ {z vs us : List Value} {r : Bool}, z.all z3y = true → z.length = vs.length → zL vs us = some r → Go.Ex.Qr z vs = true ∧ Go.Ex.zL vs us = some r
 | [], [], us, r, _, _, h => by
  cases us with
  | nil => simp only [zL, Option.some.injEq] at h; subst h; exact ⟨rfl, rfl⟩
  | cons u us => simp [zL] at h
 | a :: z, v :: vs, us, r, hz, hl, h => by
  have q : ∃ k x u' k' y, v = .int k x ∧ us = .int k' y :: u' ∧ k = k' := by
   cases us with
   | nil => cases v <;> simp [zL] at h
   | cons u us =>
    cases v <;> cases u <;> simp [zL] at h
    exact ⟨_, _, _, _, _, rfl, rfl, h.1⟩
  obtain ⟨k, x, u', k', y, rfl, rfl, hk⟩ := q
  simp only [zL, hk, if_true, Option.map_eq_some_iff] at h
  obtain ⟨r', e1, rfl⟩ := h
  simp only [List.all_cons, Bool.and_eq_true] at hz
  obtain ⟨q1, q2⟩ := JN hz.2 (by simpa using hl) e1
  refine ⟨?_, by simp [Go.Ex.zL, hk, q2]⟩
  cases a <;> first | (simp [z3y] at hz; done) | simpa [Go.Ex.Qr] using q1
 | [], _ :: _, _, _, _, hl, _ => by simp at hl
 | _ :: _, [], _, _, _, hl, _ => by simp at hl
variable {P : Program}{z : List Value}
theorem z7Y {t n : Nat} {i : Go.Ex.EI} (h : Go.Ex.z3v P t i)  (hz : i.zero = some z) (hi : z.all z3y = true) (hs : i.size = n) (hn : z.length = n) : z3v P t n := {
 guard := h.guard
 run := fun vs us r w hv hu he => by
  obtain ⟨q1, q2⟩ := JN hi (by rw [hn, hv]) he
  exact h.run vs us r w (by rw [hs]; exact hv) (by rw [hs]; exact hu) (by simpa only [Go.Ex.z7V, hz] using q1) q2 }
theorem exq {t dep : Nat}  (q : Go.Ex.EqP P t z true dep) (h1 : Nat.ble dep P.depth = true := by kernel_rfl) (h2 : dep ≤ 10000 := by decide) : Go.Ex.z3v P t ⟨.func, z.length, 0, some z, true⟩ := Go.Ex.kV q rfl rfl (Nat.le_of_ble_eq_true h1) h2
theorem z0R {t n dep : Nat}  (q : Go.Ex.EqP P t z true dep) (hi : z.all z3y = true) (hn : z.length = n) (h1 : Nat.ble dep P.depth = true := by kernel_rfl) (h2 : dep ≤ 10000 := by decide) : z3v P t n := z7Y (exq q h1 h2) rfl hi hn hn
variable {h : Array Obj}
theorem z36 {S : z8}  {v : Value} (hv : v.oneCell' = true) : zA S h (.atom v) [v] [] := by simp only [zA, Rep]; exact ⟨⟨trivial, hv⟩, trivial⟩
theorem z57 {S : z8}  (sz : Nat) : zA S h (.osl sz true []) [.slice none 0 0] [] := by
 simp only [zA]
 exact ⟨none, 0, rfl, (fun _ => rfl), Nat.le_refl _, Nat.zero_le _, by simp, .inl ⟨trivial, rfl, rfl, trivial⟩⟩
variable {fs : List A}
theorem z58 {S : z8}   {cs : List Value} (q : zy S h fs cs []) : zA S h (.agg fs) cs [] := by simpa only [zA] using q
theorem z34 {S : z8}  : zy S h [] [] [] := by simp [zy]
theorem z35 {S : z8}  {a : A}  {c1 c2 : List Value} (q1 : zA S h a c1 []) (q2 : zy S h fs c2 []) : zy S h (a :: fs) (c1 ++ c2) [] := by simp only [zy]; exact ⟨c1, c2, [], [], rfl, rfl, q1, q2⟩
def zc : A → Option (List Value)
 | .atom v => if v.oneCell' = true then some [v] else none
 | .osl _ true [] => some [.slice none 0 0]
 | .agg fs => zcs fs
 | _ => none
where zcs : List A → Option (List Value)
 | [] => some []
 | a :: l => match zc a, zcs l with | some c, some d => some (c ++ d) | _, _ => none
mutual
theorem z8E {S : z8}  : ∀ {a : A} {c : List Value}, zc a = some c → zA S h a c []
 | .atom v, c, e => by
  simp only [zc] at e
  split at e
  ·rename_i q; cases e; exact z36 q
  ·cases e
 | .osl sz true [], c, e => by simp only [zc] at e; cases e; exact z57 sz
 | .agg fs, c, e => z58 (z5v (by simpa only [zc] using e))
theorem z5v {S : z8}  : ∀ {l : List A} {c : List Value}, zc.zcs l = some c → zy S h l c []
 | [], c, e => by simp only [zc.zcs] at e; cases e; exact z34
 | a :: l, c, e => by
  simp only [zc.zcs] at e
  split at e
  ·rename_i c d e1 e2; cases e; exact z35 (z8E e1) (z5v e2)
  ·cases e
end
def zq (z : Option A) (v : Option Value) (n : Nat) : Prop := match z, v with | some z, some v => z.size = n ∧ zc z = some v.cells.toList | none, _ => True | _, _ => False
theorem tiq {t : Nat} {i : TI} (f : TypeInfo) (k : V9 P t i.kind) (e : i.eqn = true → z3v P t i.size := by intro h; cases h) (h : P.info? t = some f := by kernel_rfl) (h2 : f.size = i.size := by rfl) (h3 : f.bytes = i.bytes := by rfl) (h4 : zq i.zero f.zero i.size := by exact And.intro rfl rfl) : uT P t i :=
 ⟨⟨f, h, h2, h3, fun z hz => by
  rw [hz] at h4
  cases hv : f.zero with
  | none => rw [hv] at h4; exact h4.elim
  | some v => rw [hv] at h4; exact ⟨v, rfl, h4.1, fun S h => z8E h4.2⟩⟩, k, e⟩
def ti1 : TI := ⟨.other, 1, 8, some (.atom .nilFunc), false⟩
theorem z8N : uT Try.prog 1 ti1 := tiq Try.t1 ⟨_, Try.underlying1, rfl⟩
def ti2 : TI := ⟨.int .i64, 1, 8, some (.atom (.int .i64 0)), false⟩
theorem z8M : uT Try.prog 2 ti2 := tiq Try.t2 Try.underlying2
def ti3 : TI := ⟨.int .i64, 1, 8, some (.atom (.int .i64 0)), false⟩
theorem z8L : uT Try.prog 3 ti3 := tiq Try.t3 Try.underlying3
def ti4 : TI := ⟨.bool, 1, 1, some (.atom (.bool false)), false⟩
theorem z8K : uT Try.prog 4 ti4 := tiq Try.t4 Try.underlying4
def ti9 : TI := ⟨.str, 1, 16, some (.atom (.string ⟨#[]⟩)), false⟩
theorem z8J : uT Try.prog 9 ti9 := tiq Try.t9 Try.underlying9
def zdM : TI := ⟨.other, 1, 16, some (.atom .nilIface), false⟩
theorem z6z : uT Try.prog 20 zdM := tiq Try.t20 ⟨_, Try.underlying20, rfl⟩
def zdL : TI := ⟨.slice 50, 1, 24, some (.osl 1 true []), false⟩
theorem z6y : uT Try.prog 22 zdL := tiq Try.t22 Try.underlying22
def zdK : TI := ⟨.struct [(0, 1), (1, 1), (2, 1)], 3, 40, some (.agg [.atom (.int .i64 0), .atom (.int .i64 0), .osl 1 true []]), false⟩
theorem z6x : uT Try.prog 24 zdK := tiq Try.t24 ⟨_, Try.underlying24, by kernel_rfl, by
  intro f hf
  simp only [List.mem_cons, List.not_mem_nil, or_false] at hf
  rcases hf with rfl | rfl | rfl
  ·exact ⟨Try.t3, by kernel_rfl⟩
  ·exact ⟨Try.t3, by kernel_rfl⟩
  ·exact ⟨Try.t22, by kernel_rfl⟩⟩
def zdJ : TI := ⟨.slice 34, 1, 24, some (.osl 1 true []), false⟩
theorem z6w : uT Try.prog 25 zdJ := tiq Try.t25 Try.underlying25
def zdI : TI := ⟨.struct [(0, 3), (3, 1), (4, 1)], 5, 72, some (.agg [.agg [.atom (.int .i64 0), .atom (.int .i64 0), .osl 1 true []], .osl 1 true [], .atom (.int .i64 0)]), false⟩
theorem z6v : uT Try.prog 27 zdI := tiq Try.t27 ⟨_, Try.underlying27, by kernel_rfl, by
  intro f hf
  simp only [List.mem_cons, List.not_mem_nil, or_false] at hf
  rcases hf with rfl | rfl | rfl
  ·exact ⟨Try.t24, by kernel_rfl⟩
  ·exact ⟨Try.t25, by kernel_rfl⟩
  ·exact ⟨Try.t3, by kernel_rfl⟩⟩
def zdH : TI := ⟨.int .i64, 1, 8, some (.atom (.int .i64 0)), false⟩
theorem z6u : uT Try.prog 31 zdH := tiq Try.t31 Try.underlying31
def zdG : TI := ⟨.slice 3, 1, 24, some (.osl 1 true []), false⟩
theorem z6t : uT Try.prog 34 zdG := tiq Try.t34 Try.underlying34
def zdF : TI := ⟨.other, 1, 8, some (.atom .nilFunc), false⟩
theorem z6s : uT Try.prog 38 zdF := tiq Try.t38 ⟨_, Try.underlying38, rfl⟩
def zdE : TI := ⟨.other, 1, 8, some (.atom .nilFunc), false⟩
theorem z6r : uT Try.prog 45 zdE := tiq Try.t45 ⟨_, Try.underlying45, rfl⟩
def zdD : TI := ⟨.slice 59, 1, 24, some (.osl 2 true []), false⟩
theorem z6q : uT Try.prog 50 zdD := tiq Try.t50 Try.underlying50
def zdC : TI := ⟨.other, 1, 8, some (.atom .nilFunc), false⟩
theorem z6p : uT Try.prog 51 zdC := tiq Try.t51 ⟨_, Try.underlying51, rfl⟩
def zdB : TI := ⟨.struct [(0, 1), (1, 1)], 2, 16, some (.agg [.atom (.int .i64 0), .atom (.int .i64 0)]), true⟩
theorem z6o : uT Try.prog 59 zdB := tiq Try.t59 ⟨_, Try.underlying59, by kernel_rfl, by
  intro f hf
  simp only [List.mem_cons, List.not_mem_nil, or_false] at hf
  rcases hf with rfl | rfl
  ·exact ⟨Try.t3, by kernel_rfl⟩
  ·exact ⟨Try.t3, by kernel_rfl⟩⟩ (fun _ => z0R Go.Ex.q59 rfl rfl)
def zdA : TI := ⟨.other, 1, 8, some (.atom .nilFunc), false⟩
theorem z6n : uT Try.prog 63 zdA := tiq Try.t63 ⟨_, Try.underlying63, rfl⟩
def zdz : TI := ⟨.struct [(0, 3), (3, 1), (4, 1)], 5, 72, some (.agg [.agg [.atom (.int .i64 0), .atom (.int .i64 0), .osl 1 true []], .osl 1 true [], .atom .nilFunc]), false⟩
theorem z6m : uT Try.prog 65 zdz := tiq Try.t65 ⟨_, Try.underlying65, by kernel_rfl, by
  intro f hf
  simp only [List.mem_cons, List.not_mem_nil, or_false] at hf
  rcases hf with rfl | rfl | rfl
  ·exact ⟨Try.t24, by kernel_rfl⟩
  ·exact ⟨Try.t25, by kernel_rfl⟩
  ·exact ⟨Try.t63, by kernel_rfl⟩⟩
def zdy : TI := ⟨.other, 1, 8, some (.atom .nilFunc), false⟩
theorem z6l : uT Try.prog 66 zdy := tiq Try.t66 ⟨_, Try.underlying66, rfl⟩
def zdx : TI := ⟨.slice 24, 1, 24, some (.osl 3 true []), false⟩
theorem z6k : uT Try.prog 68 zdx := tiq Try.t68 Try.underlying68
def zdw : TI := ⟨.other, 1, 8, some (.atom .nilFunc), false⟩
theorem z6j : uT Try.prog 70 zdw := tiq Try.t70 ⟨_, Try.underlying70, rfl⟩
def zdv : TI := ⟨.other, 1, 8, some (.atom .nilFunc), false⟩
theorem z6i : uT Try.prog 72 zdv := tiq Try.t72 ⟨_, Try.underlying72, rfl⟩
def zdu : TI := ⟨.other, 1, 8, some (.atom .nilFunc), false⟩
theorem z6h : uT Try.prog 74 zdu := tiq Try.t74 ⟨_, Try.underlying74, rfl⟩
def zdt : TI := ⟨.other, 1, 8, some (.atom .nilFunc), false⟩
theorem z6g : uT Try.prog 78 zdt := tiq Try.t78 ⟨_, Try.underlying78, rfl⟩
def zds : TI := ⟨.other, 1, 8, some (.atom .nilFunc), false⟩
theorem z6f : uT Try.prog 80 zds := tiq Try.t80 ⟨_, Try.underlying80, rfl⟩
def zdr : TI := ⟨.slice 4, 1, 24, some (.osl 1 true []), false⟩
theorem z6e : uT Try.prog 83 zdr := tiq Try.t83 Try.underlying83
def zdq : TI := ⟨.other, 1, 8, some (.atom .nilFunc), false⟩
theorem z6d : uT Try.prog 84 zdq := tiq Try.t84 ⟨_, Try.underlying84, rfl⟩
def zdp : TI := ⟨.struct [(0, 1), (1, 1)], 2, 16, some (.agg [.atom (.int .i64 0), .atom .nilFunc]), false⟩
theorem z6c : uT Try.prog 87 zdp := tiq Try.t87 ⟨_, Try.underlying87, by kernel_rfl, by
  intro f hf
  simp only [List.mem_cons, List.not_mem_nil, or_false] at hf
  rcases hf with rfl | rfl
  ·exact ⟨Try.t31, by kernel_rfl⟩
  ·exact ⟨Try.t45, by kernel_rfl⟩⟩
def zdo : TI := ⟨.array 3 87, 6, 48, some (.agg [.agg [.atom (.int .i64 0), .atom .nilFunc], .agg [.atom (.int .i64 0), .atom .nilFunc], .agg [.atom (.int .i64 0), .atom .nilFunc]]), false⟩
theorem z6b : uT Try.prog 88 zdo := tiq Try.t88 Try.underlying88
def zdn : TI := ⟨.other, 1, 8, some (.atom .nilFunc), false⟩
theorem z6a : uT Try.prog 92 zdn := tiq Try.t92 ⟨_, Try.underlying92, rfl⟩
def zdm : TI := ⟨.slice 83, 1, 24, some (.osl 1 true []), false⟩
theorem z69 : uT Try.prog 95 zdm := tiq Try.t95 Try.underlying95
def z8Z : TI := ⟨.array 2 3, 2, 16, some (.agg [.atom (.int .i64 0), .atom (.int .i64 0)]), true⟩
theorem z3V : uT Try.prog 101 z8Z := tiq Try.t101 Try.underlying101 (fun _ => z0R Go.Ex.zct rfl rfl)
def z8Y : TI := ⟨.slice 101, 1, 24, some (.osl 2 true []), false⟩
theorem z3U : uT Try.prog 102 z8Y := tiq Try.t102 Try.underlying102
def z8X : TI := ⟨.other, 1, 8, some (.atom .nilFunc), false⟩
theorem z3T : uT Try.prog 104 z8X := tiq Try.t104 ⟨_, Try.underlying104, rfl⟩
def z8W : TI := ⟨.other, 1, 8, some (.atom .nilFunc), false⟩
theorem z3S : uT Try.prog 110 z8W := tiq Try.t110 ⟨_, Try.underlying110, rfl⟩
def z8V : TI := ⟨.other, 1, 8, some (.atom .nilFunc), false⟩
theorem z3R : uT Try.prog 111 z8V := tiq Try.t111 ⟨_, Try.underlying111, rfl⟩
def z8U : TI := ⟨.other, 1, 8, some (.atom .nilFunc), false⟩
theorem z3Q : uT Try.prog 114 z8U := tiq Try.t114 ⟨_, Try.underlying114, rfl⟩
def z8T : TI := ⟨.other, 1, 8, some (.atom .nilFunc), false⟩
theorem z3P : uT Try.prog 115 z8T := tiq Try.t115 ⟨_, Try.underlying115, rfl⟩
def z8S : TI := ⟨.other, 1, 8, some (.atom .nilFunc), false⟩
theorem z3O : uT Try.prog 119 z8S := tiq Try.t119 ⟨_, Try.underlying119, rfl⟩
def z8R : TI := ⟨.other, 1, 8, some (.atom .nilFunc), false⟩
theorem z3N : uT Try.prog 121 z8R := tiq Try.t121 ⟨_, Try.underlying121, rfl⟩
def z8Q : TI := ⟨.other, 1, 8, some (.atom (.map none)), false⟩
theorem z3M : uT Try.prog 122 z8Q := tiq Try.t122 ⟨_, Try.underlying122, rfl⟩
def z8P : TI := ⟨.array 16 101, 32, 256, some (.agg [.agg [.atom (.int .i64 0), .atom (.int .i64 0)], .agg [.atom (.int .i64 0), .atom (.int .i64 0)], .agg [.atom (.int .i64 0), .atom (.int .i64 0)], .agg [.atom (.int .i64 0), .atom (.int .i64 0)], .agg [.atom (.int .i64 0), .atom (.int .i64 0)], .agg [.atom (.int .i64 0), .atom (.int .i64 0)], .agg [.atom (.int .i64 0), .atom (.int .i64 0)], .agg [.atom (.int .i64 0), .atom (.int .i64 0)], .agg [.atom (.int .i64 0), .atom (.int .i64 0)], .agg [.atom (.int .i64 0), .atom (.int .i64 0)], .agg [.atom (.int .i64 0), .atom (.int .i64 0)], .agg [.atom (.int .i64 0), .atom (.int .i64 0)], .agg [.atom (.int .i64 0), .atom (.int .i64 0)], .agg [.atom (.int .i64 0), .atom (.int .i64 0)], .agg [.atom (.int .i64 0), .atom (.int .i64 0)], .agg [.atom (.int .i64 0), .atom (.int .i64 0)]]), true⟩
theorem z3L : uT Try.prog 124 z8P := tiq Try.t124 Try.underlying124 (fun _ => z0R Go.Ex.zcr rfl rfl)
def z8O : TI := ⟨.struct [(0, 1), (1, 32)], 33, 264, some (.agg [.atom (.int .i64 0), .agg [.agg [.atom (.int .i64 0), .atom (.int .i64 0)], .agg [.atom (.int .i64 0), .atom (.int .i64 0)], .agg [.atom (.int .i64 0), .atom (.int .i64 0)], .agg [.atom (.int .i64 0), .atom (.int .i64 0)], .agg [.atom (.int .i64 0), .atom (.int .i64 0)], .agg [.atom (.int .i64 0), .atom (.int .i64 0)], .agg [.atom (.int .i64 0), .atom (.int .i64 0)], .agg [.atom (.int .i64 0), .atom (.int .i64 0)], .agg [.atom (.int .i64 0), .atom (.int .i64 0)], .agg [.atom (.int .i64 0), .atom (.int .i64 0)], .agg [.atom (.int .i64 0), .atom (.int .i64 0)], .agg [.atom (.int .i64 0), .atom (.int .i64 0)], .agg [.atom (.int .i64 0), .atom (.int .i64 0)], .agg [.atom (.int .i64 0), .atom (.int .i64 0)], .agg [.atom (.int .i64 0), .atom (.int .i64 0)], .agg [.atom (.int .i64 0), .atom (.int .i64 0)]]]), true⟩
theorem KU : uT Try.prog 127 z8O := tiq Try.t127 ⟨_, Try.underlying127, by kernel_rfl, by
  intro f hf
  simp only [List.mem_cons, List.not_mem_nil, or_false] at hf
  rcases hf with rfl | rfl
  ·exact ⟨Try.t3, by kernel_rfl⟩
  ·exact ⟨Try.t124, by kernel_rfl⟩⟩ (fun _ => z0R Go.Ex.zcK rfl rfl)
def tiL : List (Nat × TI) := [(1, ti1), (2, ti2), (3, ti3), (4, ti4), (9, ti9), (20, zdM), (22, zdL), (24, zdK), (25, zdJ), (27, zdI), (31, zdH), (34, zdG), (38, zdF), (45, zdE), (50, zdD), (51, zdC), (59, zdB), (63, zdA), (65, zdz), (66, zdy), (68, zdx), (70, zdw), (72, zdv), (74, zdu), (78, zdt), (80, zds), (83, zdr), (84, zdq), (87, zdp), (88, zdo), (92, zdn), (95, zdm), (101, z8Z), (102, z8Y), (104, z8X), (110, z8W), (111, z8V), (114, z8U), (115, z8T), (119, z8S), (121, z8R), (122, z8Q), (124, z8P), (127, z8O)]
def Vq : TT := fun t => (tiL.find? fun p => p.1 == t).map (·.2)
def z3w (P : Program) : List (Nat × TI) → Prop
 | [] => True
 | p :: l => uT P p.1 p.2 ∧ z3w P l
theorem z3w.mem : ∀ {l : List (Nat × TI)}, z3w P l → ∀ p ∈ l, uT P p.1 p.2
 | p :: _, h, q, hq => by
  rcases List.mem_cons.1 hq with rfl | hq
  ·exact h.1
  ·exact z3w.mem h.2 q hq
 | [], _, _, hq => by cases hq
theorem z8I : z3w Try.prog tiL := ⟨z8N, z8M, z8L, z8K, z8J, z6z, z6y, z6x, z6w, z6v, z6u, z6t, z6s, z6r, z6q, z6p, z6o, z6n, z6m, z6l, z6k, z6j, z6i, z6h, z6g, z6f, z6e, z6d, z6c, z6b, z6a, z69, z3V, z3U, z3T, z3S, z3R, z3Q, z3P, z3O, z3N, z3M, z3L, KU, trivial⟩
theorem Yb : ut Try.prog Vq := by
 intro t i h
 unfold Vq at h
 rw [Option.map_eq_some_iff] at h
 obtain ⟨p, h1, rfl⟩ := h
 have h2 := List.find?_some h1
 have h3 := z8I.mem p (List.mem_of_find?_eq_some h1)
 rw [beq_iff_eq.1 h2] at h3
 exact h3
end Go.Own

namespace Go.Ex
open Go.Proofs
def f2 : FnI := ⟨1, Try.f2.body.getD .skip, []⟩
theorem zd5 : yP Try.prog 2 f2 := ⟨_, Try.func2, rfl, rfl, rfl, rfl⟩
def f3 : FnI := ⟨198, Try.f3.body.getD .skip, [(4, none)]⟩
theorem zd4 : yP Try.prog 3 f3 := ⟨_, Try.func3, rfl, rfl, rfl, rfl⟩
def f4 : FnI := ⟨22, Try.f4.body.getD .skip, [(2, none)]⟩
theorem zd3 : yP Try.prog 4 f4 := ⟨_, Try.func4, rfl, rfl, rfl, rfl⟩
def f5 : FnI := ⟨19, Try.f5.body.getD .skip, [(2, none)]⟩
theorem zd2 : yP Try.prog 5 f5 := ⟨_, Try.func5, rfl, rfl, rfl, rfl⟩
def f6 : FnI := ⟨28, Try.f6.body.getD .skip, [(6, none)]⟩
theorem zd1 : yP Try.prog 6 f6 := ⟨_, Try.func6, rfl, rfl, rfl, rfl⟩
def f7 : FnI := ⟨36, Try.f7.body.getD .skip, [(6, none), (7, none), (8, none)]⟩
theorem zd0 : yP Try.prog 7 f7 := ⟨_, Try.func7, rfl, rfl, rfl, rfl⟩
def f8 : FnI := ⟨38, Try.f8.body.getD .skip, [(6, none), (7, none)]⟩
theorem zcZ : yP Try.prog 8 f8 := ⟨_, Try.func8, rfl, rfl, rfl, rfl⟩
def f9 : FnI := ⟨27, Try.f9.body.getD .skip, [(6, none), (7, none)]⟩
theorem zcY : yP Try.prog 9 f9 := ⟨_, Try.func9, rfl, rfl, rfl, rfl⟩
def f10 : FnI := ⟨17, Try.f10.body.getD .skip, [(4, none)]⟩
theorem zc5 : yP Try.prog 10 f10 := ⟨_, Try.func10, rfl, rfl, rfl, rfl⟩
def f11 : FnI := ⟨28, Try.f11.body.getD .skip, [(6, none)]⟩
theorem zc4 : yP Try.prog 11 f11 := ⟨_, Try.func11, rfl, rfl, rfl, rfl⟩
def f12 : FnI := ⟨17, Try.f12.body.getD .skip, [(4, none)]⟩
theorem zc3 : yP Try.prog 12 f12 := ⟨_, Try.func12, rfl, rfl, rfl, rfl⟩
def f13 : FnI := ⟨16, Try.f13.body.getD .skip, [(4, none), (5, none)]⟩
theorem zc2 : yP Try.prog 13 f13 := ⟨_, Try.func13, rfl, rfl, rfl, rfl⟩
def f14 : FnI := ⟨25, Try.f14.body.getD .skip, [(4, none)]⟩
theorem zc1 : yP Try.prog 14 f14 := ⟨_, Try.func14, rfl, rfl, rfl, rfl⟩
def f15 : FnI := ⟨33, Try.f15.body.getD .skip, [(4, none)]⟩
theorem zc0 : yP Try.prog 15 f15 := ⟨_, Try.func15, rfl, rfl, rfl, rfl⟩
def f16 : FnI := ⟨178, Try.f16.body.getD .skip, [(0, none)]⟩
theorem zbZ : yP Try.prog 16 f16 := ⟨_, Try.func16, rfl, rfl, rfl, rfl⟩
def f17 : FnI := ⟨56, Try.f17.body.getD .skip, [(6, some 24), (7, none)]⟩
theorem zbY : yP Try.prog 17 f17 := ⟨_, Try.func17, rfl, rfl, rfl, rfl⟩
def f18 : FnI := ⟨26, Try.f18.body.getD .skip, [(6, none), (7, none)]⟩
theorem zbX : yP Try.prog 18 f18 := ⟨_, Try.func18, rfl, rfl, rfl, rfl⟩
def f19 : FnI := ⟨95, Try.f19.body.getD .skip, [(2, none)]⟩
theorem zbW : yP Try.prog 19 f19 := ⟨_, Try.func19, rfl, rfl, rfl, rfl⟩
def f20 : FnI := ⟨33, Try.f20.body.getD .skip, [(6, none)]⟩
theorem zbV : yP Try.prog 20 f20 := ⟨_, Try.func20, rfl, rfl, rfl, rfl⟩
def f21 : FnI := ⟨53, Try.f21.body.getD .skip, [(6, none)]⟩
theorem zbU : yP Try.prog 21 f21 := ⟨_, Try.func21, rfl, rfl, rfl, rfl⟩
def f22 : FnI := ⟨9, Try.f22.body.getD .skip, [(2, none)]⟩
theorem zbT : yP Try.prog 22 f22 := ⟨_, Try.func22, rfl, rfl, rfl, rfl⟩
def f23 : FnI := ⟨32, Try.f23.body.getD .skip, [(6, none)]⟩
theorem zbS : yP Try.prog 23 f23 := ⟨_, Try.func23, rfl, rfl, rfl, rfl⟩
def f24 : FnI := ⟨27, Try.f24.body.getD .skip, [(4, none)]⟩
theorem zbR : yP Try.prog 24 f24 := ⟨_, Try.func24, rfl, rfl, rfl, rfl⟩
def f25 : FnI := ⟨40, Try.f25.body.getD .skip, [(2, none)]⟩
theorem zbQ : yP Try.prog 25 f25 := ⟨_, Try.func25, rfl, rfl, rfl, rfl⟩
def f26 : FnI := ⟨17, Try.f26.body.getD .skip, [(4, none)]⟩
theorem zbP : yP Try.prog 26 f26 := ⟨_, Try.func26, rfl, rfl, rfl, rfl⟩
def f27 : FnI := ⟨28, Try.f27.body.getD .skip, [(4, none)]⟩
theorem zbO : yP Try.prog 27 f27 := ⟨_, Try.func27, rfl, rfl, rfl, rfl⟩
def f28 : FnI := ⟨40, Try.f28.body.getD .skip, [(4, none)]⟩
theorem zbN : yP Try.prog 28 f28 := ⟨_, Try.func28, rfl, rfl, rfl, rfl⟩
def f29 : FnI := ⟨40, Try.f29.body.getD .skip, [(4, none)]⟩
theorem zbM : yP Try.prog 29 f29 := ⟨_, Try.func29, rfl, rfl, rfl, rfl⟩
def f30 : FnI := ⟨23, Try.f30.body.getD .skip, [(2, some 24)]⟩
theorem zbL : yP Try.prog 30 f30 := ⟨_, Try.func30, rfl, rfl, rfl, rfl⟩
def f31 : FnI := ⟨5, Try.f31.body.getD .skip, [(2, none)]⟩
theorem zbK : yP Try.prog 31 f31 := ⟨_, Try.func31, rfl, rfl, rfl, rfl⟩
def f32 : FnI := ⟨75, Try.f32.body.getD .skip, [(4, none)]⟩
theorem zbJ : yP Try.prog 32 f32 := ⟨_, Try.func32, rfl, rfl, rfl, rfl⟩
def f33 : FnI := ⟨18, Try.f33.body.getD .skip, [(6, none)]⟩
theorem zbI : yP Try.prog 33 f33 := ⟨_, Try.func33, rfl, rfl, rfl, rfl⟩
def f34 : FnI := ⟨5, Try.f34.body.getD .skip, [(3, none)]⟩
theorem zbH : yP Try.prog 34 f34 := ⟨_, Try.func34, rfl, rfl, rfl, rfl⟩
def f35 : FnI := ⟨26, Try.f35.body.getD .skip, []⟩
theorem zbG : yP Try.prog 35 f35 := ⟨_, Try.func35, rfl, rfl, rfl, rfl⟩
def f36 : FnI := ⟨9, Try.f36.body.getD .skip, [(2, none)]⟩
theorem zbF : yP Try.prog 36 f36 := ⟨_, Try.func36, rfl, rfl, rfl, rfl⟩
def f37 : FnI := ⟨8, Try.f37.body.getD .skip, [(2, none)]⟩
theorem zbE : yP Try.prog 37 f37 := ⟨_, Try.func37, rfl, rfl, rfl, rfl⟩
def f38 : FnI := ⟨6, Try.f38.body.getD .skip, [(3, none)]⟩
theorem zbD : yP Try.prog 38 f38 := ⟨_, Try.func38, rfl, rfl, rfl, rfl⟩
def f39 : FnI := ⟨51, Try.f39.body.getD .skip, [(2, none)]⟩
theorem zbC : yP Try.prog 39 f39 := ⟨_, Try.func39, rfl, rfl, rfl, rfl⟩
def f40 : FnI := ⟨18, Try.f40.body.getD .skip, [(4, none)]⟩
theorem zbB : yP Try.prog 40 f40 := ⟨_, Try.func40, rfl, rfl, rfl, rfl⟩
def f41 : FnI := ⟨31, Try.f41.body.getD .skip, [(6, none)]⟩
theorem zbA : yP Try.prog 41 f41 := ⟨_, Try.func41, rfl, rfl, rfl, rfl⟩
def f42 : FnI := ⟨12, Try.f42.body.getD .skip, [(2, none)]⟩
theorem zbz : yP Try.prog 42 f42 := ⟨_, Try.func42, rfl, rfl, rfl, rfl⟩
def f43 : FnI := ⟨18, Try.f43.body.getD .skip, [(2, none)]⟩
theorem zby : yP Try.prog 43 f43 := ⟨_, Try.func43, rfl, rfl, rfl, rfl⟩
def f44 : FnI := ⟨8, Try.f44.body.getD .skip, [(2, none)]⟩
theorem zbx : yP Try.prog 44 f44 := ⟨_, Try.func44, rfl, rfl, rfl, rfl⟩
def f45 : FnI := ⟨23, Try.f45.body.getD .skip, [(2, none)]⟩
theorem zbw : yP Try.prog 45 f45 := ⟨_, Try.func45, rfl, rfl, rfl, rfl⟩
def f46 : FnI := ⟨6, Try.f46.body.getD .skip, [(2, none)]⟩
theorem zbv : yP Try.prog 46 f46 := ⟨_, Try.func46, rfl, rfl, rfl, rfl⟩
def f47 : FnI := ⟨25, Try.f47.body.getD .skip, [(4, none)]⟩
theorem zbu : yP Try.prog 47 f47 := ⟨_, Try.func47, rfl, rfl, rfl, rfl⟩
def f48 : FnI := ⟨6, Try.f48.body.getD .skip, [(4, none)]⟩
theorem zbt : yP Try.prog 48 f48 := ⟨_, Try.func48, rfl, rfl, rfl, rfl⟩
def f49 : FnI := ⟨29, Try.f49.body.getD .skip, [(4, none)]⟩
theorem zbs : yP Try.prog 49 f49 := ⟨_, Try.func49, rfl, rfl, rfl, rfl⟩
def f50 : FnI := ⟨9, Try.f50.body.getD .skip, [(4, none)]⟩
theorem zbr : yP Try.prog 50 f50 := ⟨_, Try.func50, rfl, rfl, rfl, rfl⟩
def f51 : FnI := ⟨8, Try.f51.body.getD .skip, [(3, none)]⟩
theorem zbq : yP Try.prog 51 f51 := ⟨_, Try.func51, rfl, rfl, rfl, rfl⟩
def f52 : FnI := ⟨33, Try.f52.body.getD .skip, [(4, none)]⟩
theorem zbp : yP Try.prog 52 f52 := ⟨_, Try.func52, rfl, rfl, rfl, rfl⟩
def f53 : FnI := ⟨30, Try.f53.body.getD .skip, [(4, none)]⟩
theorem zbo : yP Try.prog 53 f53 := ⟨_, Try.func53, rfl, rfl, rfl, rfl⟩
def f54 : FnI := ⟨21, Try.f54.body.getD .skip, [(2, none)]⟩
theorem zbn : yP Try.prog 54 f54 := ⟨_, Try.func54, rfl, rfl, rfl, rfl⟩
def f55 : FnI := ⟨17, Try.f55.body.getD .skip, [(2, none)]⟩
theorem zbm : yP Try.prog 55 f55 := ⟨_, Try.func55, rfl, rfl, rfl, rfl⟩
def f56 : FnI := ⟨18, Try.f56.body.getD .skip, [(6, some 59)]⟩
theorem zbl : yP Try.prog 56 f56 := ⟨_, Try.func56, rfl, rfl, rfl, rfl⟩
def f57 : FnI := ⟨32, Try.f57.body.getD .skip, [(2, none)]⟩
theorem zbk : yP Try.prog 57 f57 := ⟨_, Try.func57, rfl, rfl, rfl, rfl⟩
def f58 : FnI := ⟨58, Try.f58.body.getD .skip, [(4, none)]⟩
theorem zbj : yP Try.prog 58 f58 := ⟨_, Try.func58, rfl, rfl, rfl, rfl⟩
def f59 : FnI := ⟨9, Try.f59.body.getD .skip, [(4, none)]⟩
theorem zbi : yP Try.prog 59 f59 := ⟨_, Try.func59, rfl, rfl, rfl, rfl⟩
def f60 : FnI := ⟨10, Try.f60.body.getD .skip, [(2, some 88)]⟩
theorem zbh : yP Try.prog 60 f60 := ⟨_, Try.func60, rfl, rfl, rfl, rfl⟩
def f61 : FnI := ⟨95, Try.f61.body.getD .skip, []⟩
theorem zbg : yP Try.prog 61 f61 := ⟨_, Try.func61, rfl, rfl, rfl, rfl⟩
def f62 : FnI := ⟨38, Try.f62.body.getD .skip, [(2, none)]⟩
theorem zbf : yP Try.prog 62 f62 := ⟨_, Try.func62, rfl, rfl, rfl, rfl⟩
def f63 : FnI := ⟨90, Try.f63.body.getD .skip, [(4, none)]⟩
theorem zbe : yP Try.prog 63 f63 := ⟨_, Try.func63, rfl, rfl, rfl, rfl⟩
def f64 : FnI := ⟨19, Try.f64.body.getD .skip, [(4, none)]⟩
theorem zbc : yP Try.prog 64 f64 := ⟨_, Try.func64, rfl, rfl, rfl, rfl⟩
def f65 : FnI := ⟨2, Try.f65.body.getD .skip, [(0, some 59)]⟩
theorem zbb : yP Try.prog 65 f65 := ⟨_, Try.func65, rfl, rfl, rfl, rfl⟩
def f66 : FnI := ⟨19, Try.f66.body.getD .skip, [(4, none)]⟩
theorem zba : yP Try.prog 66 f66 := ⟨_, Try.func66, rfl, rfl, rfl, rfl⟩
def f67 : FnI := ⟨15, Try.f67.body.getD .skip, [(4, none)]⟩
theorem zb9 : yP Try.prog 67 f67 := ⟨_, Try.func67, rfl, rfl, rfl, rfl⟩
def f68 : FnI := ⟨41, Try.f68.body.getD .skip, [(2, none)]⟩
theorem zb8 : yP Try.prog 68 f68 := ⟨_, Try.func68, rfl, rfl, rfl, rfl⟩
def f69 : FnI := ⟨68, Try.f69.body.getD .skip, [(4, none)]⟩
theorem zb7 : yP Try.prog 69 f69 := ⟨_, Try.func69, rfl, rfl, rfl, rfl⟩
def f70 : FnI := ⟨10, Try.f70.body.getD .skip, [(1, none)]⟩
theorem zb6 : yP Try.prog 70 f70 := ⟨_, Try.func70, rfl, rfl, rfl, rfl⟩
def f71 : FnI := ⟨14, Try.f71.body.getD .skip, [(2, none), (3, none)]⟩
theorem zb5 : yP Try.prog 71 f71 := ⟨_, Try.func71, rfl, rfl, rfl, rfl⟩
def f72 : FnI := ⟨10, Try.f72.body.getD .skip, [(1, none)]⟩
theorem zb4 : yP Try.prog 72 f72 := ⟨_, Try.func72, rfl, rfl, rfl, rfl⟩
def f73 : FnI := ⟨22, Try.f73.body.getD .skip, [(2, none), (3, none)]⟩
theorem zb3 : yP Try.prog 73 f73 := ⟨_, Try.func73, rfl, rfl, rfl, rfl⟩
def f74 : FnI := ⟨17, Try.f74.body.getD .skip, [(1, none)]⟩
theorem zb2 : yP Try.prog 74 f74 := ⟨_, Try.func74, rfl, rfl, rfl, rfl⟩
def f75 : FnI := ⟨20, Try.f75.body.getD .skip, [(2, some 34), (3, some 3), (4, none)]⟩
theorem zb1 : yP Try.prog 75 f75 := ⟨_, Try.func75, rfl, rfl, rfl, rfl⟩
def f76 : FnI := ⟨25, Try.f76.body.getD .skip, [(2, none)]⟩
theorem zb0 : yP Try.prog 76 f76 := ⟨_, Try.func76, rfl, rfl, rfl, rfl⟩
def f77 : FnI := ⟨9, Try.f77.body.getD .skip, [(4, none)]⟩
theorem zaZ : yP Try.prog 77 f77 := ⟨_, Try.func77, rfl, rfl, rfl, rfl⟩
def f78 : FnI := ⟨11, Try.f78.body.getD .skip, [(3, none)]⟩
theorem zaY : yP Try.prog 78 f78 := ⟨_, Try.func78, rfl, rfl, rfl, rfl⟩
def f79 : FnI := ⟨18, Try.f79.body.getD .skip, [(2, none)]⟩
theorem zaX : yP Try.prog 79 f79 := ⟨_, Try.func79, rfl, rfl, rfl, rfl⟩
def f80 : FnI := ⟨20, Try.f80.body.getD .skip, [(4, none)]⟩
theorem zaW : yP Try.prog 80 f80 := ⟨_, Try.func80, rfl, rfl, rfl, rfl⟩
def f81 : FnI := ⟨36, Try.f81.body.getD .skip, [(4, none)]⟩
theorem zaV : yP Try.prog 81 f81 := ⟨_, Try.func81, rfl, rfl, rfl, rfl⟩
def f82 : FnI := ⟨60, Try.f82.body.getD .skip, [(8, none)]⟩
theorem zaU : yP Try.prog 82 f82 := ⟨_, Try.func82, rfl, rfl, rfl, rfl⟩
def f83 : FnI := ⟨19, Try.f83.body.getD .skip, [(2, none)]⟩
theorem zaT : yP Try.prog 83 f83 := ⟨_, Try.func83, rfl, rfl, rfl, rfl⟩
def f84 : FnI := ⟨33, Try.f84.body.getD .skip, []⟩
theorem zaS : yP Try.prog 84 f84 := ⟨_, Try.func84, rfl, rfl, rfl, rfl⟩
def f85 : FnI := ⟨9, Try.f85.body.getD .skip, [(4, none)]⟩
theorem zaR : yP Try.prog 85 f85 := ⟨_, Try.func85, rfl, rfl, rfl, rfl⟩
def f86 : FnI := ⟨4, Try.f86.body.getD .skip, [(2, none)]⟩
theorem zaQ : yP Try.prog 86 f86 := ⟨_, Try.func86, rfl, rfl, rfl, rfl⟩
def f87 : FnI := ⟨19, Try.f87.body.getD .skip, [(4, none)]⟩
theorem zaP : yP Try.prog 87 f87 := ⟨_, Try.func87, rfl, rfl, rfl, rfl⟩
def f88 : FnI := ⟨6, Try.f88.body.getD .skip, [(2, none)]⟩
theorem zaO : yP Try.prog 88 f88 := ⟨_, Try.func88, rfl, rfl, rfl, rfl⟩
def f89 : FnI := ⟨4, Try.f89.body.getD .skip, [(2, none)]⟩
theorem zaN : yP Try.prog 89 f89 := ⟨_, Try.func89, rfl, rfl, rfl, rfl⟩
def f90 : FnI := ⟨9, Try.f90.body.getD .skip, [(2, none)]⟩
theorem zaM : yP Try.prog 90 f90 := ⟨_, Try.func90, rfl, rfl, rfl, rfl⟩
def f91 : FnI := ⟨19, Try.f91.body.getD .skip, [(4, none)]⟩
theorem zaL : yP Try.prog 91 f91 := ⟨_, Try.func91, rfl, rfl, rfl, rfl⟩
def f92 : FnI := ⟨19, Try.f92.body.getD .skip, []⟩
theorem zaK : yP Try.prog 92 f92 := ⟨_, Try.func92, rfl, rfl, rfl, rfl⟩
def f93 : FnI := ⟨49, Try.f93.body.getD .skip, [(4, none)]⟩
theorem zaJ : yP Try.prog 93 f93 := ⟨_, Try.func93, rfl, rfl, rfl, rfl⟩
def f94 : FnI := ⟨26, Try.f94.body.getD .skip, [(4, none)]⟩
theorem zaI : yP Try.prog 94 f94 := ⟨_, Try.func94, rfl, rfl, rfl, rfl⟩
def f95 : FnI := ⟨31, Try.f95.body.getD .skip, []⟩
theorem zaH : yP Try.prog 95 f95 := ⟨_, Try.func95, rfl, rfl, rfl, rfl⟩
def f96 : FnI := ⟨39, Try.f96.body.getD .skip, [(6, some 124)]⟩
theorem zaG : yP Try.prog 96 f96 := ⟨_, Try.func96, rfl, rfl, rfl, rfl⟩
def ftT : TrT FnI := .node none (.node none (.node (some f3) (.node (some f7) (.node (some f15) (.node (some f31) (.node (some f63) (.nil) (.nil)) (.node (some f95) (.nil) (.nil))) (.node (some f47) (.node (some f79) (.nil) (.nil)) (.nil))) (.node (some f23) (.node (some f39) (.node (some f71) (.nil) (.nil)) (.nil)) (.node (some f55) (.node (some f87) (.nil) (.nil)) (.nil)))) (.node (some f11) (.node (some f19) (.node (some f35) (.node (some f67) (.nil) (.nil)) (.nil)) (.node (some f51) (.node (some f83) (.nil) (.nil)) (.nil))) (.node (some f27) (.node (some f43) (.node (some f75) (.nil) (.nil)) (.nil)) (.node (some f59) (.node (some f91) (.nil) (.nil)) (.nil))))) (.node (some f5) (.node (some f9) (.node (some f17) (.node (some f33) (.node (some f65) (.nil) (.nil)) (.nil)) (.node (some f49) (.node (some f81) (.nil) (.nil)) (.nil))) (.node (some f25) (.node (some f41) (.node (some f73) (.nil) (.nil)) (.nil)) (.node (some f57) (.node (some f89) (.nil) (.nil)) (.nil)))) (.node (some f13) (.node (some f21) (.node (some f37) (.node (some f69) (.nil) (.nil)) (.nil)) (.node (some f53) (.node (some f85) (.nil) (.nil)) (.nil))) (.node (some f29) (.node (some f45) (.node (some f77) (.nil) (.nil)) (.nil)) (.node (some f61) (.node (some f93) (.nil) (.nil)) (.nil)))))) (.node (some f2) (.node (some f4) (.node (some f8) (.node (some f16) (.node (some f32) (.node (some f64) (.nil) (.nil)) (.node (some f96) (.nil) (.nil))) (.node (some f48) (.node (some f80) (.nil) (.nil)) (.nil))) (.node (some f24) (.node (some f40) (.node (some f72) (.nil) (.nil)) (.nil)) (.node (some f56) (.node (some f88) (.nil) (.nil)) (.nil)))) (.node (some f12) (.node (some f20) (.node (some f36) (.node (some f68) (.nil) (.nil)) (.nil)) (.node (some f52) (.node (some f84) (.nil) (.nil)) (.nil))) (.node (some f28) (.node (some f44) (.node (some f76) (.nil) (.nil)) (.nil)) (.node (some f60) (.node (some f92) (.nil) (.nil)) (.nil))))) (.node (some f6) (.node (some f10) (.node (some f18) (.node (some f34) (.node (some f66) (.nil) (.nil)) (.nil)) (.node (some f50) (.node (some f82) (.nil) (.nil)) (.nil))) (.node (some f26) (.node (some f42) (.node (some f74) (.nil) (.nil)) (.nil)) (.node (some f58) (.node (some f90) (.nil) (.nil)) (.nil)))) (.node (some f14) (.node (some f22) (.node (some f38) (.node (some f70) (.nil) (.nil)) (.nil)) (.node (some f54) (.node (some f86) (.nil) (.nil)) (.nil))) (.node (some f30) (.node (some f46) (.node (some f78) (.nil) (.nil)) (.nil)) (.node (some f62) (.node (some f94) (.nil) (.nil)) (.nil))))))
def zeA : FT := fun t => ftT.get t
theorem zaF : ftT.All (yP Try.prog) (fun k => k) := .none (.none (.some zd4 (.some zd0 (.some zc0 (.some zbK (.some zbe (.nil) (.nil)) (.some zaH (.nil) (.nil))) (.some zbu (.some zaX (.nil) (.nil)) (.nil))) (.some zbS (.some zbC (.some zb5 (.nil) (.nil)) (.nil)) (.some zbm (.some zaP (.nil) (.nil)) (.nil)))) (.some zc4 (.some zbW (.some zbG (.some zb9 (.nil) (.nil)) (.nil)) (.some zbq (.some zaT (.nil) (.nil)) (.nil))) (.some zbO (.some zby (.some zb1 (.nil) (.nil)) (.nil)) (.some zbi (.some zaL (.nil) (.nil)) (.nil))))) (.some zd2 (.some zcY (.some zbY (.some zbI (.some zbb (.nil) (.nil)) (.nil)) (.some zbs (.some zaV (.nil) (.nil)) (.nil))) (.some zbQ (.some zbA (.some zb3 (.nil) (.nil)) (.nil)) (.some zbk (.some zaN (.nil) (.nil)) (.nil)))) (.some zc2 (.some zbU (.some zbE (.some zb7 (.nil) (.nil)) (.nil)) (.some zbo (.some zaR (.nil) (.nil)) (.nil))) (.some zbM (.some zbw (.some zaZ (.nil) (.nil)) (.nil)) (.some zbg (.some zaJ (.nil) (.nil)) (.nil)))))) (.some zd5 (.some zd3 (.some zcZ (.some zbZ (.some zbJ (.some zbc (.nil) (.nil)) (.some zaG (.nil) (.nil))) (.some zbt (.some zaW (.nil) (.nil)) (.nil))) (.some zbR (.some zbB (.some zb4 (.nil) (.nil)) (.nil)) (.some zbl (.some zaO (.nil) (.nil)) (.nil)))) (.some zc3 (.some zbV (.some zbF (.some zb8 (.nil) (.nil)) (.nil)) (.some zbp (.some zaS (.nil) (.nil)) (.nil))) (.some zbN (.some zbx (.some zb0 (.nil) (.nil)) (.nil)) (.some zbh (.some zaK (.nil) (.nil)) (.nil))))) (.some zd1 (.some zc5 (.some zbX (.some zbH (.some zba (.nil) (.nil)) (.nil)) (.some zbr (.some zaU (.nil) (.nil)) (.nil))) (.some zbP (.some zbz (.some zb2 (.nil) (.nil)) (.nil)) (.some zbj (.some zaM (.nil) (.nil)) (.nil)))) (.some zc1 (.some zbT (.some zbD (.some zb6 (.nil) (.nil)) (.nil)) (.some zbn (.some zaQ (.nil) (.nil)) (.nil))) (.some zbL (.some zbv (.some zaY (.nil) (.nil)) (.nil)) (.some zbf (.some zaI (.nil) (.nil)) (.nil))))))
theorem z8p : zdi Try.prog zeA := fun t _ h => zaF.get t h
theorem z0m : Try.prog.follows .mixedOrders = true := by kernel_rfl
set_option maxRecDepth 100000
theorem z9k : z0D (JX zeC zeA 1000 30 (.fn 16 []) [] ⟨.nil, .nil, 0⟩) = true := by decide +kernel
theorem KE (w : World) : Calls Try.prog 16 #[] w (fun e w' => e = .returned (.bool true) ∧ wK (fun B => w.heap.size ≤ B) w w') := KN (z0Y z8q z0m z8p 30) z9k w
end Go.Ex

namespace Go.Own
open Go.Proofs
theorem Qc {P : Program} {k : Nat} (hf : ∃ fn, P.funcs[k]? = some fn ∧ (fn.name == "runtime.NumGoroutine") = false ∧ fn.body.isNone = false)
  (h : ∀ w : World, Calls P k #[] w (fun e w' => e = .returned (.bool true) ∧ Go.Ex.wK (fun B => w.heap.size ≤ B) w w')) : qH P k [] (.atom (.bool true)) := by
 refine ⟨hf, fun S w vs F h1 h2 h3 => ?_⟩
 have hv : vs = [] ∧ F = [] := by
  cases vs with
  | nil => simp only [k7] at h2; exact ⟨rfl, h2⟩
  | cons v vs => exact h2.elim
 obtain ⟨rfl, rfl⟩ := hv
 refine Calls.mono (h w) ?_
 rintro e w' ⟨rfl, hk⟩
 have hb : ∀ b, b < w.heap.size → w'.heap[b]? = w.heap[b]? := fun b q => hk.block b (by omega)
 refine ⟨_, S, [], rfl, ⟨hk.os, hk.tape, hk.output, hk.drawn, hk.size, fun k q => hk.block k fun q2 => q (.inl q2)⟩, fun _ _ _ q => q, fun _ _ _ _ => rfl, ⟨fun b o v q => ?_, h1.gok, Gbk.of h1.blk (fun _ _ _ q => q) fun g x q => hb g ?_⟩, .inl ⟨?_, rfl⟩, by simp, by simp⟩
 ·have q := h1.cell _ _ _ q
  have hlt : b < w.heap.size := by
   unfold zu at q
   split at q
   ·rename_i he
    exact (Array.getElem?_eq_some_iff.1 he).1
   ·cases q
  unfold zu at q ⊢
  rw [hb b hlt]
  exact q
 ·obtain ⟨⟨c, ty, fr, q1, _⟩, _⟩ := h1.blk g x q
  exact (Array.getElem?_eq_some_iff.1 q1).1
 ·simp only [yY, wi, Rep]
  exact ⟨_, ⟨rfl, rfl⟩, rfl⟩
structure wo (α : Type) where
 e0 : α
 e1 : α
 deriving DecidableEq
instance {α : Type} [BEq α] : BEq (wo α) := ⟨fun x y => (x.e0 == y.e0) && (x.e1 == y.e1)⟩
section
variable {α : Type}
def YJ (f : α → A) (x : wo α) : A := .agg [f x.e0, f x.e1]
instance (f : α → A) [h : zcn f] : zcn (YJ f) := ⟨fun x => by simp [YJ, A.isD, A.areD, h.isD]⟩
instance (f g : α → A) [h : Qs f g] : Qs (YJ f) (YJ g) := ⟨fun x => by simp [YJ, A.loose, A.looses, h.lo]⟩
instance (f g : α → A) [h : z61 f g] : z61 (YJ f) (YJ g) := ⟨fun x => by simp [YJ, A.live, A.lives, h.live], fun x => by simp [YJ, A.shut, A.shuts, h.sh]⟩
instance (f : α → A) [h : Yd f] : Yd (YJ f) := ⟨fun x y q => by
 simp only [YJ, A.agg.injEq, List.cons.injEq, and_true] at q
 cases x; cases y
 simp only [wo.mk.injEq]
 exact ⟨h.inj _ _ q.1, h.inj _ _ q.2⟩⟩
end
structure yh (α : Type) where
 e0 : α
 e1 : α
 e2 : α
 e3 : α
 e4 : α
 e5 : α
 e6 : α
 e7 : α
 e8 : α
 e9 : α
 e10 : α
 e11 : α
 e12 : α
 e13 : α
 e14 : α
 e15 : α
 deriving DecidableEq
instance {α : Type} [BEq α] : BEq (yh α) := ⟨fun x y => (x.e0 == y.e0) && (x.e1 == y.e1) && (x.e2 == y.e2) && (x.e3 == y.e3) && (x.e4 == y.e4) && (x.e5 == y.e5) && (x.e6 == y.e6) && (x.e7 == y.e7) && (x.e8 == y.e8) && (x.e9 == y.e9) && (x.e10 == y.e10) && (x.e11 == y.e11) && (x.e12 == y.e12) && (x.e13 == y.e13) && (x.e14 == y.e14) && (x.e15 == y.e15)⟩
section
variable {α : Type}
def z31 (f : α → A) (x : yh α) : A := .agg [f x.e0, f x.e1, f x.e2, f x.e3, f x.e4, f x.e5, f x.e6, f x.e7, f x.e8, f x.e9, f x.e10, f x.e11, f x.e12, f x.e13, f x.e14, f x.e15]
end
section
variable {α : Type}
def yh.toL (x : yh α) : List α := [x.e0, x.e1, x.e2, x.e3, x.e4, x.e5, x.e6, x.e7, x.e8, x.e9, x.e10, x.e11, x.e12, x.e13, x.e14, x.e15]
def yh.ofL : List α → yh α → yh α
 | [x0, x1, x2, x3, x4, x5, x6, x7, x8, x9, bc, dc, x12, dg, cp, bf], _ => ⟨x0, x1, x2, x3, x4, x5, x6, x7, x8, x9, bc, dc, x12, dg, cp, bf⟩
 | _, d => d
theorem yh.toL_ofL (l : List α) (d : yh α) (h : l.length = 16) : (yh.ofL l d).toL = l := by
 match l, h with
 | [x0, x1, x2, x3, x4, x5, x6, x7, x8, x9, bc, dc, x12, dg, cp, bf], _ => rfl
def yh.setI (x : yh α) (i : Int) (v : α) : yh α := yh.ofL (x.toL.set i.toNat v) x
theorem yh.setL (f : α → A) (x : yh α) (i : Int) (v : α) : (x.toL.map f).set i.toNat (f v) = ((yh.setI x i v).toL).map f := by
 unfold yh.setI
 rw [yh.toL_ofL _ _ (by simp [yh.toL]), List.map_set]
end
structure zj where
 To : Int
 Out : Int
def yc (f0 : Int → A) (f1 : Int → A) (x : zj) : A := .agg [f0 x.To, f1 x.Out]
instance (f0 : Int → A) (f1 : Int → A) (g0 : Int → A) (g1 : Int → A) [h0 : Qs f0 g0] [h1 : Qs f1 g1] : Qs (yc f0 f1) (yc g0 g1) := ⟨fun x => by simp [yc, A.loose, A.looses, h0.lo, h1.lo]⟩
instance (f0 : Int → A) (f1 : Int → A) [h0 : Yd f0] [h1 : Yd f1] : Yd (yc f0 f1) := ⟨fun x y h => by
 simp only [yc, A.agg.injEq, List.cons.injEq, and_true] at h
 cases x; cases y
 simp only [zj.mk.injEq]
 exact ⟨h0.inj _ _ h.1, h1.inj _ _ h.2⟩⟩
structure z6 where
 Inputs : Int
 Outputs : Int
 Rows : List (List zj)
def y9 (f0 : Int → A) (f1 : Int → A) (f2 : List (List zj) → A) (x : z6) : A := .agg [f0 x.Inputs, f1 x.Outputs, f2 x.Rows]
instance (f0 : Int → A) (f1 : Int → A) (f2 : List (List zj) → A) (g0 : Int → A) (g1 : Int → A) (g2 : List (List zj) → A) [h0 : Qs f0 g0] [h1 : Qs f1 g1] [h2 : Qs f2 g2] : Qs (y9 f0 f1 f2) (y9 g0 g1 g2) := ⟨fun x => by simp [y9, A.loose, A.looses, h0.lo, h1.lo, h2.lo]⟩
instance (f0 : Int → A) (f1 : Int → A) (f2 : List (List zj) → A) [h0 : Yd f0] [h1 : Yd f1] [h2 : Yd f2] : Yd (y9 f0 f1 f2) := ⟨fun x y h => by
 simp only [y9, A.agg.injEq, List.cons.injEq, and_true] at h
 cases x; cases y
 simp only [z6.mk.injEq]
 exact ⟨h0.inj _ _ h.1, h1.inj _ _ h.2.1, h2.inj _ _ h.2.2⟩⟩
structure xL where
 Other : z6
 L : List (List Int)
 States : Int
def kW (f0 : z6 → A) (f1 : List (List Int) → A) (f2 : Int → A) (x : xL) : A := .agg [f0 x.Other, f1 x.L, f2 x.States]
instance (f0 : z6 → A) (f1 : List (List Int) → A) (f2 : Int → A) [h0 : Yd f0] [h1 : Yd f1] [h2 : Yd f2] : Yd (kW f0 f1 f2) := ⟨fun x y h => by
 simp only [kW, A.agg.injEq, List.cons.injEq, and_true] at h
 cases x; cases y
 simp only [xL.mk.injEq]
 exact ⟨h0.inj _ _ h.1, h1.inj _ _ h.2.1, h2.inj _ _ h.2.2⟩⟩
structure zr where
 block_ : Int
 signature_ : yh (wo Int)
instance : BEq zr := ⟨fun x y => (x.block_ == y.block_) && (x.signature_ == y.signature_)⟩
def jU (f0 : Int → A) (f1 : yh (wo Int) → A) (x : zr) : A := .agg [f0 x.block_, f1 x.signature_]
instance : zeB (K := zr) (jU (eI .i64) (z31 (YJ (eI .i64)))) := ⟨fun x y => by
 obtain ⟨_, ⟨⟨_, _⟩, ⟨_, _⟩, ⟨_, _⟩, ⟨_, _⟩, ⟨_, _⟩, ⟨_, _⟩, ⟨_, _⟩, ⟨_, _⟩, ⟨_, _⟩, ⟨_, _⟩, ⟨_, _⟩, ⟨_, _⟩, ⟨_, _⟩, ⟨_, _⟩, ⟨_, _⟩, ⟨_, _⟩⟩⟩ := x
 obtain ⟨_, ⟨⟨_, _⟩, ⟨_, _⟩, ⟨_, _⟩, ⟨_, _⟩, ⟨_, _⟩, ⟨_, _⟩, ⟨_, _⟩, ⟨_, _⟩, ⟨_, _⟩, ⟨_, _⟩, ⟨_, _⟩, ⟨_, _⟩, ⟨_, _⟩, ⟨_, _⟩, ⟨_, _⟩, ⟨_, _⟩⟩⟩ := y
 simp only [z31, YJ, jU, eI, XS, Q3, Q3.keyLs, zT, BEq.beq, Option.map_some, Option.some.injEq, Value.agg.injEq, List.cons_append, List.nil_append, List.append_nil, Array.mk.injEq, List.cons.injEq, Value.int.injEq, true_and, and_true, Bool.and_eq_true, decide_eq_true_eq, and_assoc]⟩
def ZK : Option Int :=
 some 0
abbrev R0_ : Type := Option (LR Int (Unit ⊕ Int))
def ZJ (m_ : z6) (s_ : Int) : R0_ :=
 bif decide (s_ < ((m_.Rows.length : Nat) : Int)) then (
  (idx m_.Rows s_).bind fun al =>
  bif decide (((al.length : Nat) : Int) > 4) then (
   some (.done (.inr 1)))
  else (
   some (.next (w64 (s_ + 1)))))
 else (
  some (.done (.inl ())))
def qw (m_ : z6) : Option Int :=
 bif decide (((m_.Rows.length : Nat) : Int) > 6) then (
  some 1)
 else (
  (loop (fun s => ZJ m_ s) 0).bind fun t2 =>
  match t2 with
  | .inl p => ZK
  | .inr p => some p)
def ZD (n_ : Int) : Option Int :=
 some n_
abbrev R1_ : Type := Option (LR (Int × Int) Int)
def vS (l_ : List (List Int)) (av : Int) (i_ : Int) : R1_ :=
 bif decide (i_ < ((l_.length : Nat) : Int)) then (
  (idx l_ i_).bind fun au =>
  some (.next (w64 (av + ((au.length : Nat) : Int)), w64 (i_ + 1))))
 else (
  some (.done av))
def qd (l_ : List (List Int)) : Option Int :=
 (loop (fun s => vS l_ s.1 s.2) (0, 0)).bind fun t2 =>
 ZD t2
def ZH : Option Int :=
 some 0
def ZG (s_ : Int) : R0_ :=
 some (.next (w64 (s_ + 1)))
def vZ (i_ : Int) : R0_ :=
 some (.next (w64 (i_ + 1)))
def vY (m_ : z6) (i_ : Int) (ah : zj) : R0_ :=
 bif decide (ah.To < 0) then (
  some (.done (.inr 1)))
 else (
  bif decide (ah.To ≥ ((m_.Rows.length : Nat) : Int)) then (
   some (.done (.inr 1)))
  else (
   bif decide (ah.Out < 0) then (
    some (.done (.inr 1)))
   else (
    bif decide (ah.Out ≥ m_.Outputs) then (
     some (.done (.inr 1)))
    else (
     vZ i_))))
def wu (m_ : z6) (s_ : Int) (i_ : Int) : R0_ :=
 bif decide (i_ < m_.Inputs) then (
  (idx m_.Rows s_).bind fun ck =>
  (idx ck i_).bind fun ah =>
  bif ah.To == (-1) then (
   bif ah.Out == (-1) then (
    vZ i_)
   else (
    vY m_ i_ ah))
  else (
   vY m_ i_ ah))
 else (
  some (.done (.inl ())))
def vX (m_ : z6) (s_ : Int) : R0_ :=
 bif decide (s_ < ((m_.Rows.length : Nat) : Int)) then (
  (idx m_.Rows s_).bind fun al =>
  bif ((al.length : Nat) : Int) != m_.Inputs then (
   some (.done (.inr 1)))
  else (
   (loop (fun s => wu m_ s_ s) 0).bind fun t4 =>
   match t4 with
   | .inl p => ZG s_
   | .inr p => some (.done (.inr p))))
 else (
  some (.done (.inl ())))
def vC (m_ : z6) : Option Int :=
 bif decide (m_.Inputs > 16) then (
  some 3)
 else (
  bif decide (m_.Outputs > 16) then (
   some 3)
  else (
   bif decide (((m_.Rows.length : Nat) : Int) > 64) then (
    some 3)
   else (
    bif decide (m_.Inputs < 1) then (
     some 1)
    else (
     bif decide (m_.Outputs < 1) then (
      some 1)
     else (
      bif ((m_.Rows.length : Nat) : Int) == 0 then (
       some 1)
      else (
       (loop (fun s => vX m_ s) 0).bind fun t2 =>
       match t2 with
       | .inl p => ZH
       | .inr p => some p))))))
def jg (w_ : List Int) : Option Int :=
 bif decide (((w_.length : Nat) : Int) > 256) then (
  some 3)
 else (
  some 0)
def k8 : Option Int :=
 some 0
def wy (w_ : List Int) (inputs : Int) (i_ : Int) : R0_ :=
 bif decide (i_ < ((w_.length : Nat) : Int)) then (
  (idx w_ i_).bind fun bh =>
  bif decide (bh < 0) then (
   some (.done (.inr 1)))
  else (
   (idx w_ i_).bind fun gf =>
   bif decide (gf ≥ inputs) then (
    some (.done (.inr 1)))
   else (
    some (.next (w64 (i_ + 1))))))
 else (
  some (.done (.inl ())))
def uA (w_ : List Int) (inputs : Int) : Option Int :=
 (loop (fun s => wy w_ inputs s) 0).bind fun t2 =>
 match t2 with
 | .inl p => k8
 | .inr p => some p
def ZE : Option Int :=
 some 0
def vT (l_ : List (List Int)) (inputs : Int) (i_ : Int) : R0_ :=
 bif decide (i_ < ((l_.length : Nat) : Int)) then (
  (idx l_ i_).bind fun au =>
  (jg au).bind fun r_ =>
  bif r_ != 0 then (
   some (.done (.inr r_)))
  else (
   (idx l_ i_).bind fun bl =>
   (uA bl inputs).bind fun aj =>
   bif aj != 0 then (
    some (.done (.inr aj)))
   else (
    some (.next (w64 (i_ + 1))))))
 else (
  some (.done (.inl ())))
def jF (l_ : List (List Int)) (inputs : Int) : Option Int :=
 bif decide (inputs > 16) then (
  some 3)
 else (
  bif decide (((l_.length : Nat) : Int) > 4096) then (
   some 3)
  else (
   bif decide (inputs < 1) then (
    some 1)
   else (
    (loop (fun s => vT l_ inputs s) 0).bind fun t2 =>
    match t2 with
    | .inl p => ZE
    | .inr p => some p)))
def k9 : Option Int :=
 some 0
def ug (a_ : List Int) (b_ : List Int) (i_ : Int) : R0_ :=
 bif decide (i_ < ((a_.length : Nat) : Int)) then (
  (idx a_ i_).bind fun du =>
  (idx b_ i_).bind fun dv =>
  bif decide (du < dv) then (
   some (.done (.inr (-1))))
  else (
   (idx a_ i_).bind fun gg =>
   (idx b_ i_).bind fun gh =>
   bif decide (gg > gh) then (
    some (.done (.inr 1)))
   else (
    some (.next (w64 (i_ + 1))))))
 else (
  some (.done (.inl ())))
def v8 (a_ : List Int) (b_ : List Int) : Option Int :=
 bif ((a_.length : Nat) : Int) != ((b_.length : Nat) : Int) then (
  bif decide (((a_.length : Nat) : Int) < ((b_.length : Nat) : Int)) then (
   some (-1))
  else (
   some 1))
 else (
  (loop (fun s => ug a_ b_ s) 0).bind fun t2 =>
  match t2 with
  | .inl p => k9
  | .inr p => some p)
def j5 (l_ : List (List Int)) : Option Int :=
 (qd l_).bind fun aj =>
 bif decide (aj > 65536) then (
  some 3)
 else (
  some 0)
def vU (l_ : List (List Int)) (i_ : Int) : R0_ :=
 bif decide (i_ < ((l_.length : Nat) : Int)) then (
  (idx l_ (w64 (i_ - 1))).bind fun au =>
  (idx l_ i_).bind fun bl =>
  (v8 au bl).bind fun bg =>
  bif decide (bg ≥ 0) then (
   some (.done (.inr 1)))
  else (
   some (.next (w64 (i_ + 1)))))
 else (
  some (.done (.inl ())))
def qe (l_ : List (List Int)) (inputs : Int) : Option Int :=
 (jF l_ inputs).bind fun r_ =>
 bif r_ != 0 then (
  some r_)
 else (
  (loop (fun s => vU l_ s) 1).bind fun t2 =>
  match t2 with
  | .inl p => j5 l_
  | .inr p => some p)
def jB (m_ : z6) (other : z6) (l_ : List (List Int)) : Option Int :=
 (vC m_).bind fun r_ =>
 bif r_ != 0 then (
  some r_)
 else (
  (vC other).bind fun aj =>
  bif aj != 0 then (
   some aj)
  else (
   bif m_.Inputs != other.Inputs then (
    some 5)
   else (
    (qe l_ m_.Inputs).bind fun bg =>
    some bg)))
def vq : Option zj :=
 some (zj.mk (-1) (-1))
def uE (m_ : z6) (x_ : zj) : Option Bool :=
 (vq).bind fun r_ =>
 bif (x_.To == r_.To) && ((x_.Out == r_.Out) && true) then (
  some true)
 else (
  bif decide (x_.To ≥ 0) then (
   bif decide (x_.To < ((m_.Rows.length : Nat) : Int)) then (
    bif decide (x_.Out ≥ 0) then (
     some (decide (x_.Out < m_.Outputs)))
    else (
     some false))
   else (
    some false))
  else (
   some false))
def ur (x_ : zj) (x1 : z6) : Option Bool :=
 (uE x1 x_).bind fun r_ =>
 some (!r_)
def yA : Option Int :=
 some (-1)
def zM (s_ : List zj) (f_ : z6) (x8 : Int) : R0_ :=
 bif decide (x8 < ((s_.length : Nat) : Int)) then (
  (idx s_ x8).bind fun co =>
  (ur co f_).bind fun r_ =>
  bif r_ then (
   some (.done (.inr x8)))
  else (
   some (.next (w64 (x8 + 1)))))
 else (
  some (.done (.inl ())))
def yd (s_ : List zj) (f_ : z6) : Option Int :=
 (loop (fun s => zM s_ f_ s) 0).bind fun t2 =>
 match t2 with
 | .inl p => yA
 | .inr p => some p
def zO (s_ : List zj) (f_ : z6) : Option Bool :=
 (yd s_ f_).bind fun r_ =>
 some (decide (r_ ≥ 0))
def jl : Option Int :=
 some 0
def wg (m_ : z6) (eg : Int) : R0_ :=
 bif decide (eg < ((m_.Rows.length : Nat) : Int)) then (
  (idx m_.Rows eg).bind fun al =>
  bif ((al.length : Nat) : Int) != m_.Inputs then (
   some (.done (.inr 1)))
  else (
   (zO al m_).bind fun r_ =>
   bif r_ then (
    some (.done (.inr 1)))
   else (
    some (.next (w64 (eg + 1))))))
 else (
  some (.done (.inl ())))
def yO (m_ : z6) : Option Int :=
 bif decide (m_.Inputs > 16) then (
  some 3)
 else (
  bif decide (m_.Outputs > 16) then (
   some 3)
  else (
   bif decide (((m_.Rows.length : Nat) : Int) > 64) then (
    some 3)
   else (
    bif decide (m_.Inputs < 1) then (
     some 1)
    else (
     bif decide (m_.Outputs < 1) then (
      some 1)
     else (
      bif decide (((m_.Rows.length : Nat) : Int) < 1) then (
       some 1)
      else (
       (loop (fun s => wg m_ s) 0).bind fun t2 =>
       match t2 with
       | .inl p => jl
       | .inr p => some p))))))
def js (c_ : Int) (x1 : Int) : Option Bool :=
 bif decide (c_ < 0) then (
  some true)
 else (
  some (decide (c_ ≥ x1)))
def xW : Option Int :=
 some (-1)
def yg (s_ : List Int) (f_ : Int) (x8 : Int) : R0_ :=
 bif decide (x8 < ((s_.length : Nat) : Int)) then (
  (idx s_ x8).bind fun co =>
  (js co f_).bind fun r_ =>
  bif r_ then (
   some (.done (.inr x8)))
  else (
   some (.next (w64 (x8 + 1)))))
 else (
  some (.done (.inl ())))
def xr (s_ : List Int) (f_ : Int) : Option Int :=
 (loop (fun s => yg s_ f_ s) 0).bind fun t2 =>
 match t2 with
 | .inl p => xW
 | .inr p => some p
def yR (s_ : List Int) (f_ : Int) : Option Bool :=
 (xr s_ f_).bind fun r_ =>
 some (decide (r_ ≥ 0))
def uW (w_ : List Int) (inputs : Int) : Option Int :=
 bif decide (inputs > 16) then (
  some 3)
 else (
  bif decide (((w_.length : Nat) : Int) > 256) then (
   some 3)
  else (
   bif decide (inputs < 1) then (
    some 1)
   else (
    (yR w_ inputs).bind fun r_ =>
    bif r_ then (
     some 1)
    else (
     some 0))))
def ZB : Option Int :=
 some 0
def vP (l_ : List (List Int)) (inputs : Int) (em : Int) : R0_ :=
 bif decide (em < ((l_.length : Nat) : Int)) then (
  (idx l_ em).bind fun au =>
  (uW au inputs).bind fun r_ =>
  bif r_ != 0 then (
   some (.done (.inr r_)))
  else (
   some (.next (w64 (em + 1)))))
 else (
  some (.done (.inl ())))
def ju (l_ : List (List Int)) (inputs : Int) : Option Int :=
 bif decide (inputs > 16) then (
  some 3)
 else (
  bif decide (((l_.length : Nat) : Int) > 4096) then (
   some 3)
  else (
   bif decide (inputs < 1) then (
    some 1)
   else (
    (loop (fun s => vP l_ inputs s) 0).bind fun t2 =>
    match t2 with
    | .inl p => ZB
    | .inr p => some p)))
def uI (x_ : Int) : Option Bool :=
 some (x_ != x_)
def wb (x_ : Int) (y_ : Int) : Option Int :=
 (uI x_).bind fun r_ =>
 (uI y_).bind fun aj =>
 bif r_ then (
  bif aj then (
   some 0)
  else (
   some (-1)))
 else (
  bif aj then (
   some 1)
  else (
   bif decide (x_ < y_) then (
    some (-1))
   else (
    bif decide (x_ > y_) then (
     some 1)
    else (
     some 0))))
def xo (s1 : List Int) (s2 : List Int) : Option Int :=
 bif decide (((s1.length : Nat) : Int) < ((s2.length : Nat) : Int)) then (
  some (-1))
 else (
  some 0)
def yq (s1 : List Int) (s2 : List Int) (dc : Int) : R0_ :=
 bif decide (dc < ((s1.length : Nat) : Int)) then (
  (idx s1 dc).bind fun ep =>
  bif decide (dc ≥ ((s2.length : Nat) : Int)) then (
   some (.done (.inr 1)))
  else (
   (idx s2 dc).bind fun dw =>
   (wb ep dw).bind fun r_ =>
   bif r_ != 0 then (
    some (.done (.inr r_)))
   else (
    some (.next (w64 (dc + 1))))))
 else (
  some (.done (.inl ())))
def yU (s1 : List Int) (s2 : List Int) : Option Int :=
 (loop (fun s => yq s1 s2 s) 0).bind fun t2 =>
 match t2 with
 | .inl p => xo s1 s2
 | .inr p => some p
def jV : Option Int :=
 some 0
def uJ (vals : List Int) (x8 : Int) : R0_ :=
 bif decide (x8 < ((vals.length : Nat) : Int)) then (
  (idx vals x8).bind fun fh =>
  bif fh != 0 then (
   some (.done (.inr fh)))
  else (
   some (.next (w64 (x8 + 1)))))
 else (
  some (.done (.inl ())))
def Zp (vals : List Int) : Option Int :=
 (loop (fun s => uJ vals s) 0).bind fun t2 =>
 match t2 with
 | .inl p => jV
 | .inr p => some p
def uv (a_ : List Int) (b_ : List Int) : Option Int :=
 (wb ((a_.length : Nat) : Int) ((b_.length : Nat) : Int)).bind fun r_ =>
 (yU a_ b_).bind fun aj =>
 (Zp ([r_, aj])).bind fun bg =>
 some bg
def qX : Option Bool :=
 some true
abbrev R2_ : Type := Option (LR Int (Unit ⊕ Bool))
def vQ (l_ : List (List Int)) (i_ : Int) : R2_ :=
 bif decide (i_ < ((l_.length : Nat) : Int)) then (
  (idx l_ (w64 (i_ - 1))).bind fun au =>
  (idx l_ i_).bind fun bl =>
  (uv au bl).bind fun r_ =>
  bif decide (r_ ≥ 0) then (
   some (.done (.inr false)))
  else (
   some (.next (w64 (i_ + 1)))))
 else (
  some (.done (.inl ())))
def jv (l_ : List (List Int)) : Option Bool :=
 (loop (fun s => vQ l_ s) 1).bind fun t2 =>
 match t2 with
 | .inl p => qX
 | .inr p => some p
def ZA (n_ : Int) : Option Int :=
 some n_
def vO (l_ : List (List Int)) (av : Int) (x7 : Int) : R1_ :=
 bif decide (x7 < ((l_.length : Nat) : Int)) then (
  (idx l_ x7).bind fun au =>
  some (.next (w64 (av + ((au.length : Nat) : Int)), w64 (x7 + 1))))
 else (
  some (.done av))
def jt (l_ : List (List Int)) : Option Int :=
 (loop (fun s => vO l_ s.1 s.2) (0, 0)).bind fun t2 =>
 ZA t2
def uY (l_ : List (List Int)) (inputs : Int) : Option Int :=
 (ju l_ inputs).bind fun r_ =>
 bif r_ != 0 then (
  some r_)
 else (
  (jv l_).bind fun aj =>
  bif !aj then (
   some 1)
  else (
   (jt l_).bind fun bg =>
   bif decide (bg > 65536) then (
    some 3)
   else (
    some 0)))
def uG (m_ : z6) (other : z6) (l_ : List (List Int)) : Option Int :=
 bif m_.Inputs != other.Inputs then (
  some 5)
 else (
  (uY l_ m_.Inputs).bind fun r_ =>
  some r_)
def uF (m_ : z6) (other : z6) (cp : Int) : R0_ :=
 bif decide (cp < (([m_, other].length : Nat) : Int)) then (
  (idx ([m_, other]) cp).bind fun fg =>
  (yO fg).bind fun aj =>
  bif aj != 0 then (
   some (.done (.inr aj)))
  else (
   some (.next (w64 (cp + 1)))))
 else (
  some (.done (.inl ())))
def vI (m_ : z6) (other : z6) (l_ : List (List Int)) : Option Int :=
 (loop (fun s => uF m_ other s) 0).bind fun t2 =>
 match t2 with
 | .inl p => uG m_ other l_
 | .inr p => some p
def Xt : Option Int :=
 some (-1)
abbrev R3_ : Type := Option (LR (Int × Int × Int) (Unit ⊕ Int))
def wP (bf : Int) (ce : Int) (bw : Int) (eu : Int) (ee : Int) : R3_ :=
 bif bw != ee then (
  some (.done (.inr bf)))
 else (
  some (.next (ce, eu, w64 (bf + 1))))
def wQ (other : z6) (t_ : Int) (bf : Int) (bh : Int) (ce : Int) (bw : Int) : R3_ :=
 bif t_ != (-1) then (
  (idx other.Rows t_).bind fun al =>
  (idx al bh).bind fun ah =>
  wP bf ce bw ah.To ah.Out)
 else (
  wP bf ce bw (-1) (-1))
def qQ (m_ : z6) (other : z6) (w_ : List Int) (s_ : Int) (t_ : Int) (bf : Int) : R3_ :=
 bif decide (bf < ((w_.length : Nat) : Int)) then (
  (idx w_ bf).bind fun bh =>
  bif s_ != (-1) then (
   (idx m_.Rows s_).bind fun ck =>
   (idx ck bh).bind fun ax =>
   wQ other t_ bf bh ax.To ax.Out)
  else (
   wQ other t_ bf bh (-1) (-1)))
 else (
  some (.done (.inl ())))
def kR (m_ : z6) (other : z6) (w_ : List Int) : Option Int :=
 (loop (fun s => qQ m_ other w_ s.1 s.2.1 s.2.2) (0, 0, 0)).bind fun t2 =>
 match t2 with
 | .inl p => Xt
 | .inr p => some p
def ZL : Option (Int × Int × Int) :=
 some ((-1), (-1), 0)
def ua (m_ : z6) (other : z6) (l_ : List (List Int)) (d8 : Int) : Option (LR Int (Unit ⊕ (Int × Int × Int))) :=
 bif decide (d8 < ((l_.length : Nat) : Int)) then (
  (idx l_ d8).bind fun au =>
  (kR m_ other au).bind fun aj =>
  bif aj != (-1) then (
   some (.done (.inr (d8, aj, 0))))
  else (
   some (.next (w64 (d8 + 1)))))
 else (
  some (.done (.inl ())))
def vK (m_ : z6) (other : z6) (l_ : List (List Int)) : Option (Int × Int × Int) :=
 (vI m_ other l_).bind fun r_ =>
 bif r_ != 0 then (
  some (0, 0, r_))
 else (
  (loop (fun s => ua m_ other l_ s) 0).bind fun t2 =>
  match t2 with
  | .inl p => ZL
  | .inr p => some p)
def xA (s_ : List Int) : Option (List Int) :=
 gd ((0 : Int) ≤ 0 ∧ (0 : Int) ≤ ((s_.length : Nat) : Int) ∧ (((s_.length : Nat) : Int) : Int) ≤ ((s_.length : Nat) : Int) ∧ (((s_.length : Nat) : Int) : Int) ≤ ((s_.length : Nat) : Int)) <|
 some ((s_.drop 0).take (((s_.length : Nat) : Int).toNat - 0))
def jQ (out : List Int) : Option (List Int × Int) :=
 (xA out).bind fun aj =>
 some (aj, 0)
abbrev R4_ : Type := Option (LR (List Int × Int) (List Int))
def jP (bt : Int) (a7 : List Int) : R4_ :=
 some (.next (a7, w64 (bt + 1)))
def xG (m_ : z6) (l_ : List (List Int)) (other : z6) (ai : List Int) (bt : Int) : R4_ :=
 bif decide (bt < ((l_.length : Nat) : Int)) then (
  (idx l_ bt).bind fun au =>
  (kR m_ other au).bind fun bg =>
  bif bg != (-1) then (
   gd (ai.length + [bt].length ≤ 4294967296) <|
   jP bt (ai ++ [bt]))
  else (
   jP bt ai))
 else (
  some (.done ai))
def uS (m_ : z6) (l_ : List (List Int)) (other : z6) : Option (List Int × Int) :=
 (vI m_ other l_).bind fun r_ =>
 bif r_ != 0 then (
  some (([] : List Int), r_))
 else (
  (loop (fun s => xG m_ l_ other s.1 s.2) (([] : List Int), 0)).bind fun t2 =>
  jQ t2)
def Zc (m_ : z6) (s_ : Int) (i_ : Int) : Option zj :=
 bif decide (s_ < 0) then (
  some (zj.mk (-1) (-1)))
 else (
  (idx m_.Rows s_).bind fun al =>
  (idx al i_).bind fun ah =>
  some ah)
def kI (out : List Int) : Option (List Int) :=
 some out
def kH (m_ : z6) (w_ : List Int) (cx : Int) (ai : List Int) (k_ : Int) : Option (LR (Int × List Int × Int) (List Int)) :=
 bif decide (k_ < ((w_.length : Nat) : Int)) then (
  (idx w_ k_).bind fun bh =>
  (Zc m_ cx bh).bind fun r_ =>
  gd (ai.length + [r_.Out].length ≤ 4294967296) <|
  some (.next (r_.To, (ai ++ [r_.Out]), w64 (k_ + 1))))
 else (
  some (.done ai))
def kJ (m_ : z6) (s_ : Int) (w_ : List Int) : Option (List Int) :=
 (loop (fun s => kH m_ w_ s.1 s.2.1 s.2.2) (s_, ([] : List Int), 0)).bind fun t2 =>
 kI t2
def Yv : Option Int :=
 some (-1)
def jA (r_ : List Int) (aj : List Int) (i_ : Int) : R0_ :=
 bif decide (i_ < ((r_.length : Nat) : Int)) then (
  (idx r_ i_).bind fun dh =>
  (idx aj i_).bind fun dx =>
  bif dh != dx then (
   some (.done (.inr i_)))
  else (
   some (.next (w64 (i_ + 1)))))
 else (
  some (.done (.inl ())))
def jf (m_ : z6) (other : z6) (w_ : List Int) : Option Int :=
 (kJ m_ 0 w_).bind fun r_ =>
 (kJ other 0 w_).bind fun aj =>
 (loop (fun s => jA r_ aj s) 0).bind fun t2 =>
 match t2 with
 | .inl p => Yv
 | .inr p => some p
def kF : Option (Int × Int) :=
 some ((-1), (-1))
def v7 (m_ : z6) (other : z6) (l_ : List (List Int)) (i_ : Int) : Option (LR Int (Unit ⊕ (Int × Int))) :=
 bif decide (i_ < ((l_.length : Nat) : Int)) then (
  (idx l_ i_).bind fun au =>
  (jf m_ other au).bind fun r_ =>
  bif decide (r_ ≥ 0) then (
   some (.done (.inr (i_, r_))))
  else (
   some (.next (w64 (i_ + 1)))))
 else (
  some (.done (.inl ())))
def qL (m_ : z6) (other : z6) (l_ : List (List Int)) : Option (Int × Int) :=
 (loop (fun s => v7 m_ other l_ s) 0).bind fun t2 =>
 match t2 with
 | .inl p => kF
 | .inr p => some p
def ZC (out : List Int) : Option (List Int) :=
 some out
def qZ (i_ : Int) (a7 : List Int) : R4_ :=
 some (.next (a7, w64 (i_ + 1)))
def xp (m_ : z6) (other : z6) (l_ : List (List Int)) (ai : List Int) (i_ : Int) : R4_ :=
 bif decide (i_ < ((l_.length : Nat) : Int)) then (
  (idx l_ i_).bind fun au =>
  (jf m_ other au).bind fun r_ =>
  bif decide (r_ ≥ 0) then (
   gd (ai.length + [i_].length ≤ 4294967296) <|
   qZ i_ (ai ++ [i_]))
  else (
   qZ i_ ai))
 else (
  some (.done ai))
def jC (m_ : z6) (other : z6) (l_ : List (List Int)) : Option (List Int) :=
 (loop (fun s => xp m_ other l_ s.1 s.2) (([] : List Int), 0)).bind fun t2 =>
 ZC t2
def jE : Option Bool :=
 some true
def uB (a_ : List (List Int)) (b_ : List (List Int)) (i_ : Int) : R2_ :=
 bif decide (i_ < ((a_.length : Nat) : Int)) then (
  (idx a_ i_).bind fun du =>
  (idx b_ i_).bind fun dv =>
  (v8 du dv).bind fun r_ =>
  bif r_ != 0 then (
   some (.done (.inr false)))
  else (
   some (.next (w64 (i_ + 1)))))
 else (
  some (.done (.inl ())))
def Zb (a_ : List (List Int)) (b_ : List (List Int)) : Option Bool :=
 bif ((a_.length : Nat) : Int) != ((b_.length : Nat) : Int) then (
  some false)
 else (
  (loop (fun s => uB a_ b_ s) 0).bind fun t2 =>
  match t2 with
  | .inl p => jE
  | .inr p => some p)
def Zj (a_ : List Int) (b_ : List Int) : Option Bool :=
 (Zb ([a_]) ([b_])).bind fun r_ =>
 bif r_ then (
  some (((a_.length : Nat) : Int) == ((a_.length : Nat) : Int)))
 else (
  some false)
def uq (n_ : Int) : Option Int :=
 some n_
def uo (s_ : Int) (dj : Int) : R1_ :=
 some (.next (dj, w64 (s_ + 1)))
def wC (i_ : Int) (fl : Int) : R1_ :=
 some (.next (fl, w64 (i_ + 1)))
def wz (m_ : z6) (s_ : Int) (dr : Int) (i_ : Int) : R1_ :=
 bif decide (i_ < m_.Inputs) then (
  (idx m_.Rows s_).bind fun al =>
  (idx al i_).bind fun ah =>
  bif decide (ah.To ≥ 0) then (
   wC i_ (w64 (dr + 1)))
  else (
   wC i_ dr))
 else (
  some (.done dr))
def um (m_ : z6) (av : Int) (s_ : Int) : R1_ :=
 bif decide (s_ < ((m_.Rows.length : Nat) : Int)) then (
  (loop (fun s => wz m_ s_ s.1 s.2) (av, 0)).bind fun t4 =>
  uo s_ t4)
 else (
  some (.done av))
def jH (m_ : z6) : Option Int :=
 (loop (fun s => um m_ s.1 s.2) (0, 0)).bind fun t2 =>
 uq t2
def vW (m_ : z6) : Option Bool :=
 (jH m_).bind fun r_ =>
 some (r_ == (w64 (((m_.Rows.length : Nat) : Int) * m_.Inputs)))
def ul (out : List Bool) : Option (List Bool) :=
 some out
abbrev R5_ : Type := Option (LR (List Bool × Int) (List Bool))
def uk (round : Int) (a7 : List Bool) : R5_ :=
 some (.next (a7, w64 (round + 1)))
def uj (s_ : Int) (ew : List Bool) : R5_ :=
 some (.next (ew, w64 (s_ + 1)))
def xH (i_ : Int) (ez : List Bool) : R5_ :=
 some (.next (ez, w64 (i_ + 1)))
def uh (m_ : z6) (s_ : Int) (cb : List Bool) (i_ : Int) : R5_ :=
 bif decide (i_ < m_.Inputs) then (
  (idx m_.Rows s_).bind fun al =>
  (idx al i_).bind fun ah =>
  (idx cb s_).bind fun cq =>
  bif cq then (
   bif decide (ah.To ≥ 0) then (
    (idx cb ah.To).bind fun gj =>
    xH i_ (cb.set ah.To.toNat true))
   else (
    xH i_ cb))
  else (
   xH i_ cb))
 else (
  some (.done cb))
def ui (m_ : z6) (dm : List Bool) (s_ : Int) : R5_ :=
 bif decide (s_ < ((m_.Rows.length : Nat) : Int)) then (
  (loop (fun s => uh m_ s_ s.1 s.2) (dm, 0)).bind fun t6 =>
  uj s_ t6)
 else (
  some (.done dm))
def ka (m_ : z6) (ai : List Bool) (round : Int) : R5_ :=
 bif decide (round < ((m_.Rows.length : Nat) : Int)) then (
  (loop (fun s => ui m_ s.1 s.2) (ai, 0)).bind fun t4 =>
  uk round t4)
 else (
  some (.done ai))
def uD (m_ : z6) (dn : Int) : Option (List Bool) :=
 gd ((0 : Int) ≤ ((m_.Rows.length : Nat) : Int) ∧ (((m_.Rows.length : Nat) : Int) : Int) ≤ 4294967296) <|
 (idx (List.replicate ((m_.Rows.length : Nat) : Int).toNat false) dn).bind fun fg =>
 (loop (fun s => ka m_ s.1 s.2) (((List.replicate ((m_.Rows.length : Nat) : Int).toNat false).set dn.toNat true), 0)).bind fun t2 =>
 ul t2
def vj : Option Bool :=
 some true
def xP (r_ : List Bool) (s_ : Int) : R2_ :=
 bif decide (s_ < ((r_.length : Nat) : Int)) then (
  (idx r_ s_).bind fun dh =>
  bif !dh then (
   some (.done (.inr false)))
  else (
   some (.next (w64 (s_ + 1)))))
 else (
  some (.done (.inl ())))
def vn (m_ : z6) : Option Bool :=
 (uD m_ 0).bind fun r_ =>
 (loop (fun s => xP r_ s) 0).bind fun t2 =>
 match t2 with
 | .inl p => vj
 | .inr p => some p
def ZF : Option Int :=
 some 0
def wt (i_ : Int) (gk : Int) (gl : Bool) (gm : Bool) (gn : Bool) (gp : Bool) (gq : Bool) : R0_ :=
 some (.next (w64 (i_ + 1)))
def vV (m_ : z6) (am : List (List Bool)) (s_ : Int) (t_ : Int) (i_ : Int) : R0_ :=
 bif decide (i_ < m_.Inputs) then (
  (idx m_.Rows s_).bind fun al =>
  (idx al i_).bind fun ah =>
  (idx m_.Rows t_).bind fun ck =>
  (idx ck i_).bind fun ax =>
  bif ah.Out != ax.Out then (
   some (.done (.inr 1)))
  else (
   bif decide (ah.To ≥ 0) then (
    bif decide (ax.To ≥ 0) then (
     (idx am ah.To).bind fun bn =>
     (idx bn ax.To).bind fun ba =>
     bif ba then (
      some (.done (.inr 1)))
     else (
      wt i_ ah.To (decide (ah.To ≥ 0)) (decide (ah.To ≥ 0)) (decide (ax.To ≥ 0)) (decide (ax.To ≥ 0)) ba))
    else (
     wt i_ ah.To (decide (ah.To ≥ 0)) (decide (ah.To ≥ 0)) (decide (ax.To ≥ 0)) (decide (ax.To ≥ 0)) false))
   else (
    wt i_ ah.To (decide (ah.To ≥ 0)) (decide (ah.To ≥ 0)) false false false)))
 else (
  some (.done (.inl ())))
def jG (m_ : z6) (am : List (List Bool)) (s_ : Int) (t_ : Int) : Option Int :=
 (loop (fun s => vV m_ am s_ t_ s) 0).bind fun t2 =>
 match t2 with
 | .inl p => ZF
 | .inr p => some p
abbrev R6_ : Type := Option (List (List Bool))
def qp (dp : List (List Bool)) : R6_ :=
 some dp
abbrev R7_ : Type := Option (LR (List (List Bool) × Int) (List (List Bool)))
def qo (round : Int) (da : List (List Bool)) : R7_ :=
 some (.next (da, w64 (round + 1)))
def qn (round : Int) (next : List (List Bool)) : R7_ :=
 qo round next
def qm (s_ : Int) (dy : List (List Bool)) : R7_ :=
 some (.next (dy, w64 (s_ + 1)))
def w7 (m_ : z6) (ar : List (List Bool)) (s_ : Int) (bz : List (List Bool)) (t_ : Int) : R7_ :=
 bif decide (t_ < ((m_.Rows.length : Nat) : Int)) then (
  (idx bz s_).bind fun bo =>
  (idx ar s_).bind fun bn =>
  (idx bn t_).bind fun ba =>
  bif ba then (
   (idx bo t_).bind fun fz =>
   some (.next ((bz.set s_.toNat (bo.set t_.toNat true)), w64 (t_ + 1))))
  else (
   (jG m_ ar s_ t_).bind fun r_ =>
   (idx bo t_).bind fun fm =>
   some (.next ((bz.set s_.toNat (bo.set t_.toNat (r_ == 1))), w64 (t_ + 1)))))
 else (
  some (.done bz))
def w8 (m_ : z6) (ar : List (List Bool)) (cj : List (List Bool)) (s_ : Int) : R7_ :=
 bif decide (s_ < ((m_.Rows.length : Nat) : Int)) then (
  gd ((0 : Int) ≤ ((m_.Rows.length : Nat) : Int) ∧ (((m_.Rows.length : Nat) : Int) : Int) ≤ 4294967296) <|
  gd (cj.length + [(List.replicate ((m_.Rows.length : Nat) : Int).toNat false)].length ≤ 4294967296) <|
  (loop (fun s => w7 m_ ar s_ s.1 s.2) ((cj ++ [(List.replicate ((m_.Rows.length : Nat) : Int).toNat false)]), 0)).bind fun t8 =>
  qm s_ t8)
 else (
  some (.done cj))
def w9 (m_ : z6) (k_ : Int) (ar : List (List Bool)) (round : Int) : R7_ :=
 bif decide (round < k_) then (
  (loop (fun s => w8 m_ ar s.1 s.2) (([] : List (List Bool)), 0)).bind fun t6 =>
  qn round t6)
 else (
  some (.done ar))
def qq (m_ : z6) (k_ : Int) (am : List (List Bool)) : R6_ :=
 (loop (fun s => w9 m_ k_ s.1 s.2) (am, 0)).bind fun t3 =>
 qp t3
def w6 (m_ : z6) (bq : List (List Bool)) (cx : Int) : R7_ :=
 bif decide (cx < ((m_.Rows.length : Nat) : Int)) then (
  gd ((0 : Int) ≤ ((m_.Rows.length : Nat) : Int) ∧ (((m_.Rows.length : Nat) : Int) : Int) ≤ 4294967296) <|
  gd (bq.length + [(List.replicate ((m_.Rows.length : Nat) : Int).toNat false)].length ≤ 4294967296) <|
  some (.next ((bq ++ [(List.replicate ((m_.Rows.length : Nat) : Int).toNat false)]), w64 (cx + 1))))
 else (
  some (.done bq))
def qO (m_ : z6) (k_ : Int) : R6_ :=
 (loop (fun s => w6 m_ s.1 s.2) (([] : List (List Bool)), 0)).bind fun t9 =>
 qq m_ k_ t9
def qN (out : List Int) : Option (List Int) :=
 some out
abbrev R8_ : Type := Option (LR (List Int × Int × Int) (List Int))
def ve (s_ : Int) (a7 : List Int) (av : Int) : R8_ :=
 some (.next (a7, av, w64 (s_ + 1)))
def xj (ai : List Int) (s_ : Int) (dj : Int) (dz : Int) : R8_ :=
 gd (ai.length + [dz].length ≤ 4294967296) <|
 ve s_ (ai ++ [dz]) dj
def vd (ai : List Int) (n_ : Int) (s_ : Int) (b_ : Int) : R8_ :=
 bif decide (b_ < 0) then (
  xj ai s_ (w64 (n_ + 1)) n_)
 else (
  xj ai s_ n_ b_)
def xO (t_ : Int) (fp : Int) : R1_ :=
 some (.next (fp, w64 (t_ + 1)))
def vb (am : List (List Bool)) (ai : List Int) (s_ : Int) (d9 : Int) (t_ : Int) : R1_ :=
 bif decide (t_ < s_) then (
  (idx am s_).bind fun bn =>
  (idx bn t_).bind fun ba =>
  bif !ba then (
   (idx ai t_).bind fun cq =>
   xO t_ cq)
  else (
   xO t_ d9))
 else (
  some (.done d9))
def qM (am : List (List Bool)) (ai : List Int) (n_ : Int) (s_ : Int) : R8_ :=
 bif decide (s_ < ((am.length : Nat) : Int)) then (
  (loop (fun s => vb am ai s_ s.1 s.2) ((-1), 0)).bind fun t6 =>
  vd ai n_ s_ t6)
 else (
  some (.done ai))
def vg (am : List (List Bool)) : Option (List Int) :=
 (loop (fun s => qM am s.1 s.2.1 s.2.2) (([] : List Int), 0, 0)).bind fun t2 =>
 qN t2
def kG (m_ : z6) (k_ : Int) : Option (List Int) :=
 (qO m_ k_).bind fun r_ =>
 (vg r_).bind fun aj =>
 some aj
def uC (m_ : z6) : Option (List Int) :=
 (kG m_ ((m_.Rows.length : Nat) : Int)).bind fun r_ =>
 some r_
def qh : Option Int :=
 some 0
def qg (s_ : Int) : R0_ :=
 some (.next (w64 (s_ + 1)))
def v9 (az : List Int) (s_ : Int) (t_ : Int) : R0_ :=
 bif decide (t_ < s_) then (
  (idx az s_).bind fun dh =>
  (idx az t_).bind fun dx =>
  bif dh == dx then (
   some (.done (.inr 12)))
  else (
   some (.next (w64 (t_ + 1)))))
 else (
  some (.done (.inl ())))
def va (az : List Int) (s_ : Int) : R0_ :=
 bif decide (s_ < ((az.length : Nat) : Int)) then (
  (loop (fun s => v9 az s_ s) 0).bind fun t4 =>
  match t4 with
  | .inl p => qg s_
  | .inr p => some (.done (.inr p)))
 else (
  some (.done (.inl ())))
def wO (m_ : z6) : Option Int :=
 (vC m_).bind fun r_ =>
 bif r_ != 0 then (
  some r_)
 else (
  (vW m_).bind fun aj =>
  bif !aj then (
   some 9)
  else (
   (vn m_).bind fun bg =>
   bif !bg then (
    some 11)
   else (
    (uC m_).bind fun az =>
    (loop (fun s => va az s) 0).bind fun t2 =>
    match t2 with
    | .inl p => qh
    | .inr p => some p)))
def kE (n_ : Int) : Option Int :=
 some n_
def yS (m_ : z6) (states : Int) (av : Int) (i_ : Int) : R1_ :=
 bif decide (i_ < (w64 (states * m_.Inputs))) then (
  some (.next ((mn (w64 ((w64 (av * states)) * m_.Outputs)) 65537), w64 (i_ + 1))))
 else (
  some (.done av))
def yJ (m_ : z6) (states : Int) : Option Int :=
 bif decide (states > 20) then (
  some 65537)
 else (
  (loop (fun s => yS m_ states s.1 s.2) (1, 0)).bind fun t2 =>
  kE t2)
def jD (m_ : z6) (states : Int) : Option Int :=
 (wO m_).bind fun r_ =>
 bif r_ != 0 then (
  some r_)
 else (
  bif decide (states < 1) then (
   some 1)
  else (
   (yJ m_ states).bind fun aj =>
   bif decide (aj > 65536) then (
    some 3)
   else (
    some 0)))
def qr (m_ : z6) : Option ((Int × z6) × (Int × z6) × (Int × z6)) :=
 some ((9, m_), (11, m_), (12, m_))
def j6 (m_ : z6) : Option z6 :=
 some m_
variable {σ : Type}
def wI (bc : Int) (fq : σ) : Option (LR (σ × Int) σ) :=
 some (.next (fq, w64 (bc + 1)))
def yT (yy : σ → (wo Int × zj) → Option (σ × Bool)) (bc : Int) (al : List zj) (d0 : σ) (cr : Int) : Option (LR (σ × Int) (σ ⊕ σ)) :=
 bif decide (cr < ((al.length : Nat) : Int)) then (
  (idx al cr).bind fun ah =>
  (yy d0 ((wo.mk bc cr), ah)).bind fun yr =>
  bif !yr.2 then (
   some (.done (.inr yr.1)))
  else (
   some (.next (yr.1, w64 (cr + 1)))))
 else (
  some (.done (.inl d0)))
def xF (x0 : z6) (yy : σ → (wo Int × zj) → Option (σ × Bool)) (cm : σ) (bc : Int) : Option (LR (σ × Int) σ) :=
 bif decide (bc < ((x0.Rows.length : Nat) : Int)) then (
  (idx x0.Rows bc).bind fun al =>
  (loop (fun s => yT yy bc al s.1 s.2) (cm, 0)).bind fun t3 =>
  match t3 with
  | .inl p => wI bc p
  | .inr p => some (.done p))
 else (
  some (.done cm))
def wD (x0 : z6) {σ : Type} (yy : σ → (wo Int × zj) → Option (σ × Bool)) (sg : σ) : Option σ :=
 (loop (fun s => xF x0 yy s.1 s.2) (sg, 0)).bind fun t1 =>
 some t1
abbrev R9_ : Type := Option (List (wo Int))
def xC (s_ : List (wo Int)) : R9_ :=
 gd ((0 : Int) ≤ 0 ∧ (0 : Int) ≤ ((s_.length : Nat) : Int) ∧ (((s_.length : Nat) : Int) : Int) ≤ ((s_.length : Nat) : Int) ∧ (((s_.length : Nat) : Int) : Int) ≤ ((s_.length : Nat) : Int)) <|
 some ((s_.drop 0).take (((s_.length : Nat) : Int).toNat - 0))
def wa (out : List (wo Int)) : R9_ :=
 (xC out).bind fun r_ =>
 some r_
def zX (ai : List (wo Int)) (x8 : wo Int) (x9 : zj) : Option (LR (List (wo Int)) Empty) :=
 (vq).bind fun bg =>
 bif (x9.To == bg.To) && ((x9.Out == bg.Out) && true) then (
  gd (ai.length + [x8].length ≤ 4294967296) <|
  some (.next (ai ++ [x8])))
 else (
  some (.next ai))
def vp (m_ : z6) : R9_ :=
 (j6 m_).bind fun aj =>
 (wD aj (yOf (fun s x => zX s x.1 x.2)) (.next ([] : List (wo Int)))).bind fun t2 =>
 match t2 with
 | .next ai => (
  wa ai)
 | .done z => nomatch z
def we (m_ : z6) : Option (Bool × Int) :=
 (yO m_).bind fun r_ =>
 bif r_ != 0 then (
  some (false, r_))
 else (
  (vp m_).bind fun aj =>
  some (((aj.length : Nat) : Int) == 0, 0))
def vG (x0 : z6) : Option Bool :=
 (we x0).bind fun r_ =>
 some r_.1
def yI (ft : Int → (List Bool) → z6 → Option (List Bool × z6)) (al : List zj) (x1 : List Bool) (bp : Int) (bi : Int) (cg : List (List zj)) (fc : Int) : Option (LR (List Bool × Int × Int × List (List zj) × Int) ((List Bool × z6))) :=
 bif decide (fc < ((al.length : Nat) : Int)) then (
  (idx al fc).bind fun ah =>
  (ft ah.To x1 (z6.mk bp bi cg)).bind fun r_ =>
  some (.next (r_.1, r_.2.Inputs, r_.2.Outputs, r_.2.Rows, w64 (fc + 1))))
 else (
  some (.done (x1, (z6.mk bp bi cg))))
def yV (ft : Int → (List Bool) → z6 → Option (List Bool × z6)) (s_ : Int) (y0 : List Bool) (y1 : z6) : Option (List Bool × z6) :=
 bif s_ == (-1) then (
  some (y0, y1))
 else (
  (idx y0 s_).bind fun gw =>
  bif gw then (
   some (y0, y1))
  else (
   (idx y0 s_).bind fun ia =>
   (idx y1.Rows s_).bind fun al =>
   (loop (fun s => yI ft al s.1 s.2.1 s.2.2.1 s.2.2.2.1 s.2.2.2.2) ((y0.set s_.toNat true), y1.Inputs, y1.Outputs, y1.Rows, 0)).bind fun t1 =>
   some t1))
def zP (fu : Nat) : Int → (List Bool) → z6 → Option (List Bool × z6) := Nat.rec (motive := fun _ => Int → (List Bool) → z6 → Option (List Bool × z6)) (fun _ _ _ => none) (fun _ ih => yV ih) fu
def wq : Option Int :=
 some (-1)
def yo (s_ : List Bool) (v_ : Bool) (x8 : Int) : R0_ :=
 bif decide (x8 < ((s_.length : Nat) : Int)) then (
  (idx s_ x8).bind fun co =>
  bif v_ == co then (
   some (.done (.inr x8)))
  else (
   some (.next (w64 (x8 + 1)))))
 else (
  some (.done (.inl ())))
def xM (s_ : List Bool) (v_ : Bool) : Option Int :=
 (loop (fun s => yo s_ v_ s) 0).bind fun t2 =>
 match t2 with
 | .inl p => wq
 | .inr p => some p
def yp (s_ : List Bool) (v_ : Bool) : Option Bool :=
 (xM s_ v_).bind fun r_ =>
 some (decide (r_ ≥ 0))
def xQ (m_ : z6) : Option (Bool × Int) :=
 (yO m_).bind fun r_ =>
 bif r_ != 0 then (
  some (false, r_))
 else (
  gd ((0 : Int) ≤ ((m_.Rows.length : Nat) : Int) ∧ (((m_.Rows.length : Nat) : Int) : Int) ≤ 4294967296) <|
  (zP fuel 0 (List.replicate ((m_.Rows.length : Nat) : Int).toNat false) m_).bind fun aj =>
  (yp aj.1 false).bind fun bg =>
  some (!bg, 0))
def vF (x0 : z6) : Option Bool :=
 (xQ x0).bind fun r_ =>
 some r_.1
def qY (m_ : z6) : Option z6 :=
 some m_
def qb (out : yh (wo Int)) : Option (yh (wo Int)) :=
 some out
abbrev zeu : Type := Option (LR (yh (wo Int) × Int) (yh (wo Int)))
def wV (bj : Int) (a7 : yh (wo Int)) : zeu :=
 some (.next (a7, w64 (bj + 1)))
def qa (p_ : List Int) (al : List zj) (ai : yh (wo Int)) (bj : Int) : zeu :=
 bif decide (bj < ((al.length : Nat) : Int)) then (
  (idx al bj).bind fun ah =>
  (idx (yh.toL ai) bj).bind fun cell =>
  (some (yh.setI ai bj (wo.mk ah.Out (-1)))).bind fun arr =>
  bif ah.To != (-1) then (
   (idx p_ ah.To).bind fun a6 =>
   (idx (yh.toL arr) bj).bind fun ca =>
   (some (yh.setI arr bj (wo.mk ca.e0 a6))).bind fun arr1 =>
   wV bj arr1)
  else (
   wV bj arr))
 else (
  some (.done ai))
def wN (m_ : z6) (p_ : List Int) (s_ : Int) : Option (yh (wo Int)) :=
 (idx m_.Rows s_).bind fun al =>
 (loop (fun s => qa p_ al s.1 s.2) ((yh.mk (wo.mk 0 0) (wo.mk 0 0) (wo.mk 0 0) (wo.mk 0 0) (wo.mk 0 0) (wo.mk 0 0) (wo.mk 0 0) (wo.mk 0 0) (wo.mk 0 0) (wo.mk 0 0) (wo.mk 0 0) (wo.mk 0 0) (wo.mk 0 0) (wo.mk 0 0) (wo.mk 0 0) (wo.mk 0 0)), 0)).bind fun t2 =>
 qb t2
def wX (out : List Int) : Option (List Int) :=
 some out
abbrev zet : Type := Option (LR ((List (zr × Int)) × List Int × Int) (List Int))
def xg (ai : List Int) (bm : Int) (a6 : Int) (r_ : yh (wo Int)) (bk : List (zr × Int)) : zet :=
 (some ((Xq bk (zr.mk a6 r_)).getD 0)).bind fun val =>
 (idx ai bm).bind fun cq =>
 some (.next (bk, (ai.set bm.toNat val), w64 (bm + 1)))
def wW (m_ : z6) (p_ : List Int) (names : List (zr × Int)) (ai : List Int) (bm : Int) : zet :=
 bif decide (bm < ((p_.length : Nat) : Int)) then (
  (idx p_ bm).bind fun a6 =>
  (wN m_ p_ bm).bind fun r_ =>
  (some ((Xq names (zr.mk a6 r_)).getD 0)).bind fun gr =>
  bif !((Xq names (zr.mk a6 r_)).isSome) then (
   xg ai bm a6 r_ (z1e names (zr.mk a6 r_) ((names.length : Nat) : Int)))
  else (
   xg ai bm a6 r_ names))
 else (
  some (.done ai))
def wY (m_ : z6) (p_ : List Int) : Option (List Int) :=
 gd ((0 : Int) ≤ ((p_.length : Nat) : Int) ∧ (((p_.length : Nat) : Int) : Int) ≤ 4294967296) <|
 (loop (fun s => wW m_ p_ s.1 s.2.1 s.2.2) (([] : List (zr × Int)), (List.replicate ((p_.length : Nat) : Int).toNat (0 : Int)), 0)).bind fun t2 =>
 wX t2
def xz : Option Bool :=
 some true
def yG (s1 : List Int) (s2 : List Int) (dg : Int) : R2_ :=
 bif decide (dg < ((s1.length : Nat) : Int)) then (
  (idx s1 dg).bind fun ep =>
  (idx s2 dg).bind fun dw =>
  bif ep != dw then (
   some (.done (.inr false)))
  else (
   some (.next (w64 (dg + 1)))))
 else (
  some (.done (.inl ())))
def xq (s1 : List Int) (s2 : List Int) : Option Bool :=
 bif ((s1.length : Nat) : Int) != ((s2.length : Nat) : Int) then (
  some false)
 else (
  (loop (fun s => yG s1 s2 s) 0).bind fun t2 =>
  match t2 with
  | .inl p => xz
  | .inr p => some p)
def xD (x0 : z6) (yy : σ → (List Int) → Option (σ × Bool)) (cm : σ) (p_ : List Int) : Option (LR (σ × List Int) σ) :=
 (yy cm p_).bind fun yr =>
 bif yr.2 then (
  (wY x0 p_).bind fun r_ =>
  (xq p_ r_).bind fun aj =>
  bif aj then (
   some (.done yr.1))
  else (
   some (.next (yr.1, r_))))
 else (
  some (.done yr.1))
def wx (x0 : z6) {σ : Type} (yy : σ → (List Int) → Option (σ × Bool)) (sg : σ) : Option σ :=
 gd ((0 : Int) ≤ ((x0.Rows.length : Nat) : Int) ∧ (((x0.Rows.length : Nat) : Int) : Int) ≤ 4294967296) <|
 (loop (fun s => xD x0 yy s.1 s.2) (sg, (List.replicate ((x0.Rows.length : Nat) : Int).toNat (0 : Int)))).bind fun t1 =>
 some t1
def wZ (p_ : List Int) (n_ : Int) : Option (List Int × Int × Int) :=
 some (p_, n_, 0)
def xh (dt : List Int) (av : Int) (cp : List Int) : Option (LR (List Int × Int) Empty) :=
 some (.next (cp, w64 (av + 1)))
def v6 (m_ : z6) : Option (List Int × Int × Int) :=
 (yO m_).bind fun r_ =>
 bif r_ != 0 then (
  some (([] : List Int), 0, r_))
 else (
  (qY m_).bind fun aj =>
  (wx aj (yOf (fun s x => xh s.1 s.2 x)) (.next (([] : List Int), (-1)))).bind fun t2 =>
  match t2 with
  | .next (dt, av) => (
   wZ dt av)
  | .done z => nomatch z)
def xV (m_ : Int) : Option Int :=
 some m_
def xU (x_ : List Int) (fe : Int) (i_ : Int) : R1_ :=
 bif decide (i_ < ((x_.length : Nat) : Int)) then (
  (idx x_ i_).bind fun fj =>
  some (.next ((mx fe fj), w64 (i_ + 1))))
 else (
  some (.done fe))
def xN (x_ : List Int) : Option Int :=
 bif decide (((x_.length : Nat) : Int) < 1) then (
  none)
 else (
  (idx x_ 0).bind fun fk =>
  (loop (fun s => xU x_ s.1 s.2) (fk, 1)).bind fun t2 =>
  xV t2)
def vD (x0 : z6) : Option Bool :=
 (v6 x0).bind fun r_ =>
 (xN r_.1).bind fun aj =>
 some (aj == (w64 (((r_.1.length : Nat) : Int) - 1)))
def wG : Option Int :=
 some 0
def xc (m_ : z6) : Option Int :=
 (yO m_).bind fun r_ =>
 bif r_ != 0 then (
  some r_)
 else (
  (qr m_).bind fun aj =>
  (vG aj.1.2).bind fun bg =>
  bif !bg then (
   some aj.1.1)
  else (
   (vF aj.2.1.2).bind fun az =>
   bif !az then (
    some aj.2.1.1)
   else (
    (vD aj.2.2.2).bind fun br =>
    bif !br then (
     some aj.2.2.1)
    else (
     wG))))
def YE (n_ : Int) : Option Int :=
 some n_
def uH (m_ : z6) (states : Int) (av : Int) (i_ : Int) : R1_ :=
 bif decide (i_ < (w64 (states * m_.Inputs))) then (
  bif decide (av ≤ 65536) then (
   some (.next (w64 (av * (w64 (states * m_.Outputs))), w64 (i_ + 1))))
  else (
   some (.done av)))
 else (
  some (.done av))
def wR (m_ : z6) (states : Int) : Option Int :=
 bif decide (states > 65536) then (
  some 65537)
 else (
  (loop (fun s => uH m_ states s.1 s.2) (1, 0)).bind fun t2 =>
  YE t2)
def uR (m_ : z6) (states : Int) : Option Int :=
 (xc m_).bind fun r_ =>
 bif r_ != 0 then (
  some r_)
 else (
  bif decide (states < 1) then (
   some 1)
  else (
   (wR m_ states).bind fun aj =>
   bif decide (aj > 65536) then (
    some 3)
   else (
    some 0)))
def vJ (m_ : z6) (states : Int) : Option (Int × Int) :=
 (uR m_ states).bind fun r_ =>
 bif r_ != 0 then (
  some (0, r_))
 else (
  (wR m_ states).bind fun aj =>
  some (aj, 0))
def jN : Option Bool := some true
def uQ (m_ : z6) (l_ : List (List Int)) (states : Int) : Option Int :=
 (uR m_ states).bind fun r_ =>
 bif r_ != 0 then (
  some r_)
 else (
  (uY l_ m_.Inputs).bind fun aj =>
  some aj)
def XT (m_ : z6) (l_ : List (List Int)) (states : Int) : Option (z6 × Int) :=
 (uQ m_ l_ states).bind fun r_ =>
 bif r_ != 0 then (
  some ((z6.mk 0 0 []), r_))
 else (
  none)
def YF (m_ : z6) (l_ : List (List Int)) (states : Int) : Option (Int × Int) :=
 (uQ m_ l_ states).bind fun r_ =>
 bif r_ != 0 then (
  some (0, r_))
 else (
  none)
def xI (m_ : z6) (y_ : xL) (f_ : Int) : Option Bool :=
 bif f_ == 0 then (
  (jN).bind fun gx =>
  some gx)
 else (
  (XT m_ y_.L y_.States).bind fun gi =>
  (YF m_ y_.L y_.States).bind fun ga =>
  bif gi.2 == f_ then (
   bif ga.2 == f_ then (
    bif ((gi.1.Rows.length : Nat) : Int) == 0 then (
     bif ga.1 == 0 then (
      (jN).bind fun gt =>
      some gt)
     else (
      some false))
    else (
     some false))
   else (
    some false))
  else (
   some false))
def yz (m_ : z6) (y_ : xL) (cd : Int) : Option Bool :=
 bif cd == 0 then (
  (qe y_.L m_.Inputs).bind fun gb =>
  xI m_ y_ gb)
 else (
  xI m_ y_ cd)
def xJ (m_ : z6) (y_ : xL) : Option Bool :=
 (jD m_ y_.States).bind fun cd =>
 (vJ m_ y_.States).bind fun ff =>
 bif ff.2 != cd then (
  some false)
 else (
  bif cd != 0 then (
   bif ff.1 != 0 then (
    some false)
   else (
    bif cd == 0 then (
     (yJ m_ y_.States).bind fun gu =>
     bif ff.1 != gu then (
      some false)
     else (
      yz m_ y_ cd))
    else (
     yz m_ y_ cd)))
  else (
   bif cd == 0 then (
    (yJ m_ y_.States).bind fun gv =>
    bif ff.1 != gv then (
     some false)
    else (
     yz m_ y_ cd))
   else (
    yz m_ y_ cd)))
def xK (m_ : z6) (y_ : xL) (az : Int) (br : Int × Int × Int) (bu : List Int × Int) : Option Bool :=
 bif az == 0 then (
  (qL m_ y_.Other y_.L).bind fun gc =>
  bif br.1 != gc.1 then (
   some false)
  else (
   bif br.2.1 != gc.2 then (
    some false)
   else (
    (jC m_ y_.Other y_.L).bind fun db =>
    (Zj bu.1 db).bind fun ge =>
    bif !ge then (
     some false)
    else (
     xJ m_ y_))))
 else (
  xJ m_ y_)
def jO (m_ : z6) (y_ : xL) : Option Bool :=
 (qw m_).bind fun r_ =>
 (qw y_.Other).bind fun aj =>
 bif (w64 (r_ + aj)) != 0 then (
  some true)
 else (
  bif decide (((y_.L.length : Nat) : Int) > 60) then (
   some true)
  else (
   (qd y_.L).bind fun bg =>
   bif decide (bg > 600) then (
    some true)
   else (
    (jB m_ y_.Other y_.L).bind fun az =>
    (vK m_ y_.Other y_.L).bind fun br =>
    (uS m_ y_.L y_.Other).bind fun bu =>
    bif br.2.2 != az then (
     some false)
    else (
     bif bu.2 != az then (
      some false)
     else (
      bif az != 0 then (
       bif br.1 != 0 then (
        some false)
       else (
        bif br.2.1 != 0 then (
         some false)
        else (
         bif ((bu.1.length : Nat) : Int) != 0 then (
          some false)
         else (
          xK m_ y_ az br bu))))
      else (
       xK m_ y_ az br bu))))))
abbrev F0_ := YJ (eI .i64)
abbrev F1_ := eSl 1 true (eI .i64)
abbrev F2_ := eSl 1 false (eI .i64)
abbrev F3_ := eOs 1 false (eI .i64)
abbrev F4_ := z31 F0_
abbrev F5_ := yc (eI .i64) (eI .i64)
abbrev F6_ := eSl 1 false F2_
abbrev F7_ := eSl 2 false F5_
abbrev F8_ := jU (eI .i64) F4_
abbrev F9_ := eSl 1 false F7_
abbrev vz := y9 (eI .i64) (eI .i64) F9_
abbrev z3u := eSp vz
abbrev zeV := kW vz F6_ (eI .i64)
def rpN {α : Type _} (n : Nat) (a : α) (l : List α) : List α := Nat.rec l (fun _ r => a :: r) n
abbrev aLn (n : Nat) : H := .a (.atom (.int .i64 ((n : Nat) : Int)))
end Go.Own
end
