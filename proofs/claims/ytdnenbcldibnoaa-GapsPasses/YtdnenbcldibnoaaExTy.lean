/- The types that the code names, and that the program has them so. Printed by a program of the prover's. -/
import Derived.Test.YtdnenbcldibnoaaExI
import Derived.Test.YtdnenbcldibnoaaProg
namespace Go.Ex
open Go.Proofs

def i1 : EI := ⟨.func, 1, 8, some [.nilFunc], false⟩
theorem i1_ok : EIok Try.prog 1 i1 := ⟨⟨Try.t1, by kernel_rfl, rfl, rfl, fun z h => by cases h; exact ⟨_, rfl, rfl, allOne rfl, rfl, rfl⟩⟩, ⟨_, _, _, Try.underlying1⟩, by intro h; cases h⟩
def i2 : EI := ⟨.int .i64, 1, 8, some [.int .i64 0], false⟩
theorem i2_ok : EIok Try.prog 2 i2 := ⟨⟨Try.t2, by kernel_rfl, rfl, rfl, fun z h => by cases h; exact ⟨_, rfl, rfl, allOne rfl, rfl, rfl⟩⟩, Try.underlying2, by intro h; cases h⟩
def i3 : EI := ⟨.int .i64, 1, 8, some [.int .i64 0], false⟩
theorem i3_ok : EIok Try.prog 3 i3 := ⟨⟨Try.t3, by kernel_rfl, rfl, rfl, fun z h => by cases h; exact ⟨_, rfl, rfl, allOne rfl, rfl, rfl⟩⟩, Try.underlying3, by intro h; cases h⟩
def i4 : EI := ⟨.bool, 1, 1, some [.bool false], false⟩
theorem i4_ok : EIok Try.prog 4 i4 := ⟨⟨Try.t4, by kernel_rfl, rfl, rfl, fun z h => by cases h; exact ⟨_, rfl, rfl, allOne rfl, rfl, rfl⟩⟩, Try.underlying4, by intro h; cases h⟩
def i5 : EI := ⟨.int .u8, 1, 1, some [.int .u8 0], false⟩
theorem i5_ok : EIok Try.prog 5 i5 := ⟨⟨Try.t5, by kernel_rfl, rfl, rfl, fun z h => by cases h; exact ⟨_, rfl, rfl, allOne rfl, rfl, rfl⟩⟩, Try.underlying5, by intro h; cases h⟩
def i9 : EI := ⟨.str, 1, 16, some [.string ⟨#[]⟩], false⟩
theorem i9_ok : EIok Try.prog 9 i9 := ⟨⟨Try.t9, by kernel_rfl, rfl, rfl, fun z h => by cases h; exact ⟨_, rfl, rfl, allOne rfl, rfl, rfl⟩⟩, Try.underlying9, by intro h; cases h⟩
def i12 : EI := ⟨.int .u64, 1, 8, some [.int .u64 0], false⟩
theorem i12_ok : EIok Try.prog 12 i12 := ⟨⟨Try.t12, by kernel_rfl, rfl, rfl, fun z h => by cases h; exact ⟨_, rfl, rfl, allOne rfl, rfl, rfl⟩⟩, Try.underlying12, by intro h; cases h⟩
def i13 : EI := ⟨.struct [(0, 9), (1, 12)], 2, 24, some [.string ⟨#[]⟩, .int .u64 0], false⟩
theorem i13_ok : EIok Try.prog 13 i13 := ⟨⟨Try.t13, by kernel_rfl, rfl, rfl, fun z h => by cases h; exact ⟨_, rfl, rfl, allOne rfl, rfl, ⟨_, rfl⟩⟩⟩, ⟨_, Try.underlying13, by kernel_rfl, by
    intro f hf
    simp only [List.mem_cons, List.not_mem_nil, or_false] at hf
    rcases hf with rfl | rfl
    · exact ⟨Try.t9, by kernel_rfl⟩
    · exact ⟨Try.t12, by kernel_rfl⟩⟩, by intro h; cases h⟩
def i20 : EI := ⟨.iface, 1, 16, some [.nilIface], false⟩
theorem i20_ok : EIok Try.prog 20 i20 := ⟨⟨Try.t20, by kernel_rfl, rfl, rfl, fun z h => by cases h; exact ⟨_, rfl, rfl, allOne rfl, rfl, rfl⟩⟩, ⟨_, Try.underlying20⟩, by intro h; cases h⟩
def i21 : EI := ⟨.int .i32, 1, 4, some [.int .i32 0], false⟩
theorem i21_ok : EIok Try.prog 21 i21 := ⟨⟨Try.t21, by kernel_rfl, rfl, rfl, fun z h => by cases h; exact ⟨_, rfl, rfl, allOne rfl, rfl, rfl⟩⟩, Try.underlying21, by intro h; cases h⟩
def i22 : EI := ⟨.slice 102, 1, 24, some [.slice none 0 0], false⟩
theorem i22_ok : EIok Try.prog 22 i22 := ⟨⟨Try.t22, by kernel_rfl, rfl, rfl, fun z h => by cases h; exact ⟨_, rfl, rfl, allOne rfl, rfl, rfl⟩⟩, Try.underlying22, by intro h; cases h⟩
def i23 : EI := ⟨.struct [(0, 5), (1, 5), (2, 5), (3, 4), (4, 22)], 5, 32, some [.int .u8 0, .int .u8 0, .int .u8 0, .bool false, .slice none 0 0], false⟩
theorem i23_ok : EIok Try.prog 23 i23 := ⟨⟨Try.t23, by kernel_rfl, rfl, rfl, fun z h => by cases h; exact ⟨_, rfl, rfl, allOne rfl, rfl, ⟨_, rfl⟩⟩⟩, ⟨_, Try.underlying23, by kernel_rfl, by
    intro f hf
    simp only [List.mem_cons, List.not_mem_nil, or_false] at hf
    rcases hf with rfl | rfl | rfl | rfl | rfl
    · exact ⟨Try.t5, by kernel_rfl⟩
    · exact ⟨Try.t5, by kernel_rfl⟩
    · exact ⟨Try.t5, by kernel_rfl⟩
    · exact ⟨Try.t4, by kernel_rfl⟩
    · exact ⟨Try.t22, by kernel_rfl⟩⟩, by intro h; cases h⟩
def i24 : EI := ⟨.struct [(0, 5), (1, 5), (2, 5), (3, 4), (4, 22)], 5, 32, some [.int .u8 0, .int .u8 0, .int .u8 0, .bool false, .slice none 0 0], false⟩
theorem i24_ok : EIok Try.prog 24 i24 := ⟨⟨Try.t24, by kernel_rfl, rfl, rfl, fun z h => by cases h; exact ⟨_, rfl, rfl, allOne rfl, rfl, ⟨_, rfl⟩⟩⟩, ⟨_, Try.underlying24, by kernel_rfl, by
    intro f hf
    simp only [List.mem_cons, List.not_mem_nil, or_false] at hf
    rcases hf with rfl | rfl | rfl | rfl | rfl
    · exact ⟨Try.t5, by kernel_rfl⟩
    · exact ⟨Try.t5, by kernel_rfl⟩
    · exact ⟨Try.t5, by kernel_rfl⟩
    · exact ⟨Try.t4, by kernel_rfl⟩
    · exact ⟨Try.t22, by kernel_rfl⟩⟩, by intro h; cases h⟩
def i25 : EI := ⟨.slice 5, 1, 24, some [.slice none 0 0], false⟩
theorem i25_ok : EIok Try.prog 25 i25 := ⟨⟨Try.t25, by kernel_rfl, rfl, rfl, fun z h => by cases h; exact ⟨_, rfl, rfl, allOne rfl, rfl, rfl⟩⟩, Try.underlying25, by intro h; cases h⟩
def i26 : EI := ⟨.slice 103, 1, 24, some [.slice none 0 0], false⟩
theorem i26_ok : EIok Try.prog 26 i26 := ⟨⟨Try.t26, by kernel_rfl, rfl, rfl, fun z h => by cases h; exact ⟨_, rfl, rfl, allOne rfl, rfl, rfl⟩⟩, Try.underlying26, by intro h; cases h⟩
def i27 : EI := ⟨.struct [(0, 25), (1, 26)], 2, 48, some [.slice none 0 0, .slice none 0 0], false⟩
theorem i27_ok : EIok Try.prog 27 i27 := ⟨⟨Try.t27, by kernel_rfl, rfl, rfl, fun z h => by cases h; exact ⟨_, rfl, rfl, allOne rfl, rfl, ⟨_, rfl⟩⟩⟩, ⟨_, Try.underlying27, by kernel_rfl, by
    intro f hf
    simp only [List.mem_cons, List.not_mem_nil, or_false] at hf
    rcases hf with rfl | rfl
    · exact ⟨Try.t25, by kernel_rfl⟩
    · exact ⟨Try.t26, by kernel_rfl⟩⟩, by intro h; cases h⟩
def i28 : EI := ⟨.struct [(0, 25), (1, 26)], 2, 48, some [.slice none 0 0, .slice none 0 0], false⟩
theorem i28_ok : EIok Try.prog 28 i28 := ⟨⟨Try.t28, by kernel_rfl, rfl, rfl, fun z h => by cases h; exact ⟨_, rfl, rfl, allOne rfl, rfl, ⟨_, rfl⟩⟩⟩, ⟨_, Try.underlying28, by kernel_rfl, by
    intro f hf
    simp only [List.mem_cons, List.not_mem_nil, or_false] at hf
    rcases hf with rfl | rfl
    · exact ⟨Try.t25, by kernel_rfl⟩
    · exact ⟨Try.t26, by kernel_rfl⟩⟩, by intro h; cases h⟩
def i29 : EI := ⟨.slice 25, 1, 24, some [.slice none 0 0], false⟩
theorem i29_ok : EIok Try.prog 29 i29 := ⟨⟨Try.t29, by kernel_rfl, rfl, rfl, fun z h => by cases h; exact ⟨_, rfl, rfl, allOne rfl, rfl, rfl⟩⟩, Try.underlying29, by intro h; cases h⟩
def i30 : EI := ⟨.struct [(0, 5), (1, 29)], 2, 32, some [.int .u8 0, .slice none 0 0], false⟩
theorem i30_ok : EIok Try.prog 30 i30 := ⟨⟨Try.t30, by kernel_rfl, rfl, rfl, fun z h => by cases h; exact ⟨_, rfl, rfl, allOne rfl, rfl, ⟨_, rfl⟩⟩⟩, ⟨_, Try.underlying30, by kernel_rfl, by
    intro f hf
    simp only [List.mem_cons, List.not_mem_nil, or_false] at hf
    rcases hf with rfl | rfl
    · exact ⟨Try.t5, by kernel_rfl⟩
    · exact ⟨Try.t29, by kernel_rfl⟩⟩, by intro h; cases h⟩
def i31 : EI := ⟨.struct [(0, 5), (1, 29)], 2, 32, some [.int .u8 0, .slice none 0 0], false⟩
theorem i31_ok : EIok Try.prog 31 i31 := ⟨⟨Try.t31, by kernel_rfl, rfl, rfl, fun z h => by cases h; exact ⟨_, rfl, rfl, allOne rfl, rfl, ⟨_, rfl⟩⟩⟩, ⟨_, Try.underlying31, by kernel_rfl, by
    intro f hf
    simp only [List.mem_cons, List.not_mem_nil, or_false] at hf
    rcases hf with rfl | rfl
    · exact ⟨Try.t5, by kernel_rfl⟩
    · exact ⟨Try.t29, by kernel_rfl⟩⟩, by intro h; cases h⟩
def i32 : EI := ⟨.slice 98, 1, 24, some [.slice none 0 0], false⟩
theorem i32_ok : EIok Try.prog 32 i32 := ⟨⟨Try.t32, by kernel_rfl, rfl, rfl, fun z h => by cases h; exact ⟨_, rfl, rfl, allOne rfl, rfl, rfl⟩⟩, Try.underlying32, by intro h; cases h⟩
def i33 : EI := ⟨.struct [(0, 3), (1, 3), (2, 32)], 3, 40, some [.int .i64 0, .int .i64 0, .slice none 0 0], false⟩
theorem i33_ok : EIok Try.prog 33 i33 := ⟨⟨Try.t33, by kernel_rfl, rfl, rfl, fun z h => by cases h; exact ⟨_, rfl, rfl, allOne rfl, rfl, ⟨_, rfl⟩⟩⟩, ⟨_, Try.underlying33, by kernel_rfl, by
    intro f hf
    simp only [List.mem_cons, List.not_mem_nil, or_false] at hf
    rcases hf with rfl | rfl | rfl
    · exact ⟨Try.t3, by kernel_rfl⟩
    · exact ⟨Try.t3, by kernel_rfl⟩
    · exact ⟨Try.t32, by kernel_rfl⟩⟩, by intro h; cases h⟩
def i34 : EI := ⟨.struct [(0, 3), (1, 3), (2, 32)], 3, 40, some [.int .i64 0, .int .i64 0, .slice none 0 0], false⟩
theorem i34_ok : EIok Try.prog 34 i34 := ⟨⟨Try.t34, by kernel_rfl, rfl, rfl, fun z h => by cases h; exact ⟨_, rfl, rfl, allOne rfl, rfl, ⟨_, rfl⟩⟩⟩, ⟨_, Try.underlying34, by kernel_rfl, by
    intro f hf
    simp only [List.mem_cons, List.not_mem_nil, or_false] at hf
    rcases hf with rfl | rfl | rfl
    · exact ⟨Try.t3, by kernel_rfl⟩
    · exact ⟨Try.t3, by kernel_rfl⟩
    · exact ⟨Try.t32, by kernel_rfl⟩⟩, by intro h; cases h⟩
def i35 : EI := ⟨.func, 1, 8, some [.nilFunc], false⟩
theorem i35_ok : EIok Try.prog 35 i35 := ⟨⟨Try.t35, by kernel_rfl, rfl, rfl, fun z h => by cases h; exact ⟨_, rfl, rfl, allOne rfl, rfl, rfl⟩⟩, ⟨_, _, _, Try.underlying35⟩, by intro h; cases h⟩
def i36 : EI := ⟨.func, 1, 8, some [.nilFunc], false⟩
theorem i36_ok : EIok Try.prog 36 i36 := ⟨⟨Try.t36, by kernel_rfl, rfl, rfl, fun z h => by cases h; exact ⟨_, rfl, rfl, allOne rfl, rfl, rfl⟩⟩, ⟨_, _, _, Try.underlying36⟩, by intro h; cases h⟩
def i37 : EI := ⟨.slice 45, 1, 24, some [.slice none 0 0], false⟩
theorem i37_ok : EIok Try.prog 37 i37 := ⟨⟨Try.t37, by kernel_rfl, rfl, rfl, fun z h => by cases h; exact ⟨_, rfl, rfl, allOne rfl, rfl, rfl⟩⟩, Try.underlying37, by intro h; cases h⟩
def i38 : EI := ⟨.func, 1, 8, some [.nilFunc], false⟩
theorem i38_ok : EIok Try.prog 38 i38 := ⟨⟨Try.t38, by kernel_rfl, rfl, rfl, fun z h => by cases h; exact ⟨_, rfl, rfl, allOne rfl, rfl, rfl⟩⟩, ⟨_, _, _, Try.underlying38⟩, by intro h; cases h⟩
def i39 : EI := ⟨.func, 1, 8, some [.nilFunc], false⟩
theorem i39_ok : EIok Try.prog 39 i39 := ⟨⟨Try.t39, by kernel_rfl, rfl, rfl, fun z h => by cases h; exact ⟨_, rfl, rfl, allOne rfl, rfl, rfl⟩⟩, ⟨_, _, _, Try.underlying39⟩, by intro h; cases h⟩
def i40 : EI := ⟨.int .i64, 1, 8, some [.int .i64 0], false⟩
theorem i40_ok : EIok Try.prog 40 i40 := ⟨⟨Try.t40, by kernel_rfl, rfl, rfl, fun z h => by cases h; exact ⟨_, rfl, rfl, allOne rfl, rfl, rfl⟩⟩, Try.underlying40, by intro h; cases h⟩
def i42 : EI := ⟨.func, 1, 8, some [.nilFunc], false⟩
theorem i42_ok : EIok Try.prog 42 i42 := ⟨⟨Try.t42, by kernel_rfl, rfl, rfl, fun z h => by cases h; exact ⟨_, rfl, rfl, allOne rfl, rfl, rfl⟩⟩, ⟨_, _, _, Try.underlying42⟩, by intro h; cases h⟩
def i44 : EI := ⟨.func, 1, 8, some [.nilFunc], false⟩
theorem i44_ok : EIok Try.prog 44 i44 := ⟨⟨Try.t44, by kernel_rfl, rfl, rfl, fun z h => by cases h; exact ⟨_, rfl, rfl, allOne rfl, rfl, rfl⟩⟩, ⟨_, _, _, Try.underlying44⟩, by intro h; cases h⟩
def i45 : EI := ⟨.slice 3, 1, 24, some [.slice none 0 0], false⟩
theorem i45_ok : EIok Try.prog 45 i45 := ⟨⟨Try.t45, by kernel_rfl, rfl, rfl, fun z h => by cases h; exact ⟨_, rfl, rfl, allOne rfl, rfl, rfl⟩⟩, Try.underlying45, by intro h; cases h⟩
def i47 : EI := ⟨.func, 1, 8, some [.nilFunc], false⟩
theorem i47_ok : EIok Try.prog 47 i47 := ⟨⟨Try.t47, by kernel_rfl, rfl, rfl, fun z h => by cases h; exact ⟨_, rfl, rfl, allOne rfl, rfl, rfl⟩⟩, ⟨_, _, _, Try.underlying47⟩, by intro h; cases h⟩
def i48 : EI := ⟨.func, 1, 8, some [.nilFunc], false⟩
theorem i48_ok : EIok Try.prog 48 i48 := ⟨⟨Try.t48, by kernel_rfl, rfl, rfl, fun z h => by cases h; exact ⟨_, rfl, rfl, allOne rfl, rfl, rfl⟩⟩, ⟨_, _, _, Try.underlying48⟩, by intro h; cases h⟩
def i49 : EI := ⟨.func, 1, 8, some [.nilFunc], false⟩
theorem i49_ok : EIok Try.prog 49 i49 := ⟨⟨Try.t49, by kernel_rfl, rfl, rfl, fun z h => by cases h; exact ⟨_, rfl, rfl, allOne rfl, rfl, rfl⟩⟩, ⟨_, _, _, Try.underlying49⟩, by intro h; cases h⟩
def i50 : EI := ⟨.func, 1, 8, some [.nilFunc], false⟩
theorem i50_ok : EIok Try.prog 50 i50 := ⟨⟨Try.t50, by kernel_rfl, rfl, rfl, fun z h => by cases h; exact ⟨_, rfl, rfl, allOne rfl, rfl, rfl⟩⟩, ⟨_, _, _, Try.underlying50⟩, by intro h; cases h⟩
def i51 : EI := ⟨.func, 1, 8, some [.nilFunc], false⟩
theorem i51_ok : EIok Try.prog 51 i51 := ⟨⟨Try.t51, by kernel_rfl, rfl, rfl, fun z h => by cases h; exact ⟨_, rfl, rfl, allOne rfl, rfl, rfl⟩⟩, ⟨_, _, _, Try.underlying51⟩, by intro h; cases h⟩
def i52 : EI := ⟨.struct [(0, 34), (3, 37), (4, 3)], 5, 72, some [.int .i64 0, .int .i64 0, .slice none 0 0, .slice none 0 0, .int .i64 0], false⟩
theorem i52_ok : EIok Try.prog 52 i52 := ⟨⟨Try.t52, by kernel_rfl, rfl, rfl, fun z h => by cases h; exact ⟨_, rfl, rfl, allOne rfl, rfl, ⟨_, rfl⟩⟩⟩, ⟨_, Try.underlying52, by kernel_rfl, by
    intro f hf
    simp only [List.mem_cons, List.not_mem_nil, or_false] at hf
    rcases hf with rfl | rfl | rfl
    · exact ⟨Try.t34, by kernel_rfl⟩
    · exact ⟨Try.t37, by kernel_rfl⟩
    · exact ⟨Try.t3, by kernel_rfl⟩⟩, by intro h; cases h⟩
def i53 : EI := ⟨.struct [(0, 34), (3, 37), (4, 3)], 5, 72, some [.int .i64 0, .int .i64 0, .slice none 0 0, .slice none 0 0, .int .i64 0], false⟩
theorem i53_ok : EIok Try.prog 53 i53 := ⟨⟨Try.t53, by kernel_rfl, rfl, rfl, fun z h => by cases h; exact ⟨_, rfl, rfl, allOne rfl, rfl, ⟨_, rfl⟩⟩⟩, ⟨_, Try.underlying53, by kernel_rfl, by
    intro f hf
    simp only [List.mem_cons, List.not_mem_nil, or_false] at hf
    rcases hf with rfl | rfl | rfl
    · exact ⟨Try.t34, by kernel_rfl⟩
    · exact ⟨Try.t37, by kernel_rfl⟩
    · exact ⟨Try.t3, by kernel_rfl⟩⟩, by intro h; cases h⟩
def i54 : EI := ⟨.func, 1, 8, some [.nilFunc], false⟩
theorem i54_ok : EIok Try.prog 54 i54 := ⟨⟨Try.t54, by kernel_rfl, rfl, rfl, fun z h => by cases h; exact ⟨_, rfl, rfl, allOne rfl, rfl, rfl⟩⟩, ⟨_, _, _, Try.underlying54⟩, by intro h; cases h⟩
def i55 : EI := ⟨.func, 1, 8, some [.nilFunc], false⟩
theorem i55_ok : EIok Try.prog 55 i55 := ⟨⟨Try.t55, by kernel_rfl, rfl, rfl, fun z h => by cases h; exact ⟨_, rfl, rfl, allOne rfl, rfl, rfl⟩⟩, ⟨_, _, _, Try.underlying55⟩, by intro h; cases h⟩
def i56 : EI := ⟨.func, 1, 8, some [.nilFunc], false⟩
theorem i56_ok : EIok Try.prog 56 i56 := ⟨⟨Try.t56, by kernel_rfl, rfl, rfl, fun z h => by cases h; exact ⟨_, rfl, rfl, allOne rfl, rfl, rfl⟩⟩, ⟨_, _, _, Try.underlying56⟩, by intro h; cases h⟩
def i57 : EI := ⟨.func, 1, 8, some [.nilFunc], false⟩
theorem i57_ok : EIok Try.prog 57 i57 := ⟨⟨Try.t57, by kernel_rfl, rfl, rfl, fun z h => by cases h; exact ⟨_, rfl, rfl, allOne rfl, rfl, rfl⟩⟩, ⟨_, _, _, Try.underlying57⟩, by intro h; cases h⟩
def i59 : EI := ⟨.func, 1, 8, some [.nilFunc], false⟩
theorem i59_ok : EIok Try.prog 59 i59 := ⟨⟨Try.t59, by kernel_rfl, rfl, rfl, fun z h => by cases h; exact ⟨_, rfl, rfl, allOne rfl, rfl, rfl⟩⟩, ⟨_, _, _, Try.underlying59⟩, by intro h; cases h⟩
def i60 : EI := ⟨.func, 1, 8, some [.nilFunc], false⟩
theorem i60_ok : EIok Try.prog 60 i60 := ⟨⟨Try.t60, by kernel_rfl, rfl, rfl, fun z h => by cases h; exact ⟨_, rfl, rfl, allOne rfl, rfl, rfl⟩⟩, ⟨_, _, _, Try.underlying60⟩, by intro h; cases h⟩
def i62 : EI := ⟨.func, 1, 8, some [.nilFunc], false⟩
theorem i62_ok : EIok Try.prog 62 i62 := ⟨⟨Try.t62, by kernel_rfl, rfl, rfl, fun z h => by cases h; exact ⟨_, rfl, rfl, allOne rfl, rfl, rfl⟩⟩, ⟨_, _, _, Try.underlying62⟩, by intro h; cases h⟩
def i63 : EI := ⟨.func, 1, 8, some [.nilFunc], false⟩
theorem i63_ok : EIok Try.prog 63 i63 := ⟨⟨Try.t63, by kernel_rfl, rfl, rfl, fun z h => by cases h; exact ⟨_, rfl, rfl, allOne rfl, rfl, rfl⟩⟩, ⟨_, _, _, Try.underlying63⟩, by intro h; cases h⟩
def i64 : EI := ⟨.func, 1, 8, some [.nilFunc], false⟩
theorem i64_ok : EIok Try.prog 64 i64 := ⟨⟨Try.t64, by kernel_rfl, rfl, rfl, fun z h => by cases h; exact ⟨_, rfl, rfl, allOne rfl, rfl, rfl⟩⟩, ⟨_, _, _, Try.underlying64⟩, by intro h; cases h⟩
theorem q5 : EqP Try.prog 5 [.int .u8 0] false 1 := eqP_leaf (k := .int .u8) Try.underlying5 ⟨_, (by kernel_rfl : Try.prog.info? 5 = some Try.t5), rfl⟩ rfl
theorem q65 : EqP Try.prog 65 (repZ 2 [.int .u8 0]) true 2 := eqP_array Try.underlying65 q5 ⟨_, (by kernel_rfl : Try.prog.info? 65 = some Try.t65), rfl⟩
def i65 : EI := ⟨.array 2 5, 2, 2, some [.int .u8 0, .int .u8 0], true⟩
theorem i65_ok : EIok Try.prog 65 i65 := ⟨⟨Try.t65, by kernel_rfl, rfl, rfl, fun z h => by cases h; exact ⟨_, rfl, rfl, allOne rfl, rfl, ⟨_, rfl⟩⟩⟩, Try.underlying65, fun _ => eqOk_of q65 rfl rfl (Nat.le_of_ble_eq_true (by kernel_rfl)) (by decide)⟩
theorem q3 : EqP Try.prog 3 [.int .i64 0] false 1 := eqP_leaf (k := .int .i64) Try.underlying3 ⟨_, (by kernel_rfl : Try.prog.info? 3 = some Try.t3), rfl⟩ rfl
theorem q66 : EqP Try.prog 66 (flatZ [([.int .i64 0], false), ([.int .i64 0], false)]) true 2 := eqP_struct Try.underlying66 (by kernel_rfl) ⟨_, (by kernel_rfl : Try.prog.info? 66 = some Try.t66), rfl⟩ (by decide) (FieldsOk.cons (by decide) rfl (q3.mono (by decide)) (FieldsOk.cons (by decide) rfl (q3.mono (by decide)) (FieldsOk.nil)))
def i66 : EI := ⟨.struct [(0, 3), (1, 3)], 2, 16, some [.int .i64 0, .int .i64 0], true⟩
theorem i66_ok : EIok Try.prog 66 i66 := ⟨⟨Try.t66, by kernel_rfl, rfl, rfl, fun z h => by cases h; exact ⟨_, rfl, rfl, allOne rfl, rfl, ⟨_, rfl⟩⟩⟩, ⟨_, Try.underlying66, by kernel_rfl, by
    intro f hf
    simp only [List.mem_cons, List.not_mem_nil, or_false] at hf
    rcases hf with rfl | rfl
    · exact ⟨Try.t3, by kernel_rfl⟩
    · exact ⟨Try.t3, by kernel_rfl⟩⟩, fun _ => eqOk_of q66 rfl rfl (Nat.le_of_ble_eq_true (by kernel_rfl)) (by decide)⟩
theorem q67 : EqP Try.prog 67 (flatZ [([.int .i64 0], false), ([.int .i64 0], false)]) true 2 := eqP_struct Try.underlying67 (by kernel_rfl) ⟨_, (by kernel_rfl : Try.prog.info? 67 = some Try.t67), rfl⟩ (by decide) (FieldsOk.cons (by decide) rfl (q3.mono (by decide)) (FieldsOk.cons (by decide) rfl (q3.mono (by decide)) (FieldsOk.nil)))
def i67 : EI := ⟨.struct [(0, 3), (1, 3)], 2, 16, some [.int .i64 0, .int .i64 0], true⟩
theorem i67_ok : EIok Try.prog 67 i67 := ⟨⟨Try.t67, by kernel_rfl, rfl, rfl, fun z h => by cases h; exact ⟨_, rfl, rfl, allOne rfl, rfl, ⟨_, rfl⟩⟩⟩, ⟨_, Try.underlying67, by kernel_rfl, by
    intro f hf
    simp only [List.mem_cons, List.not_mem_nil, or_false] at hf
    rcases hf with rfl | rfl
    · exact ⟨Try.t3, by kernel_rfl⟩
    · exact ⟨Try.t3, by kernel_rfl⟩⟩, fun _ => eqOk_of q67 rfl rfl (Nat.le_of_ble_eq_true (by kernel_rfl)) (by decide)⟩
def i68 : EI := ⟨.struct [(0, 24), (5, 24), (10, 4), (11, 65), (13, 65), (15, 67)], 17, 88, some [.int .u8 0, .int .u8 0, .int .u8 0, .bool false, .slice none 0 0, .int .u8 0, .int .u8 0, .int .u8 0, .bool false, .slice none 0 0, .bool false, .int .u8 0, .int .u8 0, .int .u8 0, .int .u8 0, .int .i64 0, .int .i64 0], false⟩
theorem i68_ok : EIok Try.prog 68 i68 := ⟨⟨Try.t68, by kernel_rfl, rfl, rfl, fun z h => by cases h; exact ⟨_, rfl, rfl, allOne rfl, rfl, ⟨_, rfl⟩⟩⟩, ⟨_, Try.underlying68, by kernel_rfl, by
    intro f hf
    simp only [List.mem_cons, List.not_mem_nil, or_false] at hf
    rcases hf with rfl | rfl | rfl | rfl | rfl | rfl
    · exact ⟨Try.t24, by kernel_rfl⟩
    · exact ⟨Try.t24, by kernel_rfl⟩
    · exact ⟨Try.t4, by kernel_rfl⟩
    · exact ⟨Try.t65, by kernel_rfl⟩
    · exact ⟨Try.t65, by kernel_rfl⟩
    · exact ⟨Try.t67, by kernel_rfl⟩⟩, by intro h; cases h⟩
def i69 : EI := ⟨.struct [(0, 24), (5, 24), (10, 4), (11, 65), (13, 65), (15, 67)], 17, 88, some [.int .u8 0, .int .u8 0, .int .u8 0, .bool false, .slice none 0 0, .int .u8 0, .int .u8 0, .int .u8 0, .bool false, .slice none 0 0, .bool false, .int .u8 0, .int .u8 0, .int .u8 0, .int .u8 0, .int .i64 0, .int .i64 0], false⟩
theorem i69_ok : EIok Try.prog 69 i69 := ⟨⟨Try.t69, by kernel_rfl, rfl, rfl, fun z h => by cases h; exact ⟨_, rfl, rfl, allOne rfl, rfl, ⟨_, rfl⟩⟩⟩, ⟨_, Try.underlying69, by kernel_rfl, by
    intro f hf
    simp only [List.mem_cons, List.not_mem_nil, or_false] at hf
    rcases hf with rfl | rfl | rfl | rfl | rfl | rfl
    · exact ⟨Try.t24, by kernel_rfl⟩
    · exact ⟨Try.t24, by kernel_rfl⟩
    · exact ⟨Try.t4, by kernel_rfl⟩
    · exact ⟨Try.t65, by kernel_rfl⟩
    · exact ⟨Try.t65, by kernel_rfl⟩
    · exact ⟨Try.t67, by kernel_rfl⟩⟩, by intro h; cases h⟩
def i71 : EI := ⟨.func, 1, 8, some [.nilFunc], false⟩
theorem i71_ok : EIok Try.prog 71 i71 := ⟨⟨Try.t71, by kernel_rfl, rfl, rfl, fun z h => by cases h; exact ⟨_, rfl, rfl, allOne rfl, rfl, rfl⟩⟩, ⟨_, _, _, Try.underlying71⟩, by intro h; cases h⟩
def i73 : EI := ⟨.func, 1, 8, some [.nilFunc], false⟩
theorem i73_ok : EIok Try.prog 73 i73 := ⟨⟨Try.t73, by kernel_rfl, rfl, rfl, fun z h => by cases h; exact ⟨_, rfl, rfl, allOne rfl, rfl, rfl⟩⟩, ⟨_, _, _, Try.underlying73⟩, by intro h; cases h⟩
def i75 : EI := ⟨.func, 1, 8, some [.nilFunc], false⟩
theorem i75_ok : EIok Try.prog 75 i75 := ⟨⟨Try.t75, by kernel_rfl, rfl, rfl, fun z h => by cases h; exact ⟨_, rfl, rfl, allOne rfl, rfl, rfl⟩⟩, ⟨_, _, _, Try.underlying75⟩, by intro h; cases h⟩
def i76 : EI := ⟨.func, 1, 8, some [.nilFunc], false⟩
theorem i76_ok : EIok Try.prog 76 i76 := ⟨⟨Try.t76, by kernel_rfl, rfl, rfl, fun z h => by cases h; exact ⟨_, rfl, rfl, allOne rfl, rfl, rfl⟩⟩, ⟨_, _, _, Try.underlying76⟩, by intro h; cases h⟩
def i77 : EI := ⟨.func, 1, 8, some [.nilFunc], false⟩
theorem i77_ok : EIok Try.prog 77 i77 := ⟨⟨Try.t77, by kernel_rfl, rfl, rfl, fun z h => by cases h; exact ⟨_, rfl, rfl, allOne rfl, rfl, rfl⟩⟩, ⟨_, _, _, Try.underlying77⟩, by intro h; cases h⟩
def i78 : EI := ⟨.func, 1, 8, some [.nilFunc], false⟩
theorem i78_ok : EIok Try.prog 78 i78 := ⟨⟨Try.t78, by kernel_rfl, rfl, rfl, fun z h => by cases h; exact ⟨_, rfl, rfl, allOne rfl, rfl, rfl⟩⟩, ⟨_, _, _, Try.underlying78⟩, by intro h; cases h⟩
def i79 : EI := ⟨.struct [(0, 25)], 1, 24, some [.slice none 0 0], false⟩
theorem i79_ok : EIok Try.prog 79 i79 := ⟨⟨Try.t79, by kernel_rfl, rfl, rfl, fun z h => by cases h; exact ⟨_, rfl, rfl, allOne rfl, rfl, ⟨_, rfl⟩⟩⟩, ⟨_, Try.underlying79, by kernel_rfl, by
    intro f hf
    simp only [List.mem_cons, List.not_mem_nil, or_false] at hf
    rcases hf with rfl
    · exact ⟨Try.t25, by kernel_rfl⟩⟩, by intro h; cases h⟩
def i80 : EI := ⟨.struct [(0, 25)], 1, 24, some [.slice none 0 0], false⟩
theorem i80_ok : EIok Try.prog 80 i80 := ⟨⟨Try.t80, by kernel_rfl, rfl, rfl, fun z h => by cases h; exact ⟨_, rfl, rfl, allOne rfl, rfl, ⟨_, rfl⟩⟩⟩, ⟨_, Try.underlying80, by kernel_rfl, by
    intro f hf
    simp only [List.mem_cons, List.not_mem_nil, or_false] at hf
    rcases hf with rfl
    · exact ⟨Try.t25, by kernel_rfl⟩⟩, by intro h; cases h⟩
def i81 : EI := ⟨.func, 1, 8, some [.nilFunc], false⟩
theorem i81_ok : EIok Try.prog 81 i81 := ⟨⟨Try.t81, by kernel_rfl, rfl, rfl, fun z h => by cases h; exact ⟨_, rfl, rfl, allOne rfl, rfl, rfl⟩⟩, ⟨_, _, _, Try.underlying81⟩, by intro h; cases h⟩
def i83 : EI := ⟨.func, 1, 8, some [.nilFunc], false⟩
theorem i83_ok : EIok Try.prog 83 i83 := ⟨⟨Try.t83, by kernel_rfl, rfl, rfl, fun z h => by cases h; exact ⟨_, rfl, rfl, allOne rfl, rfl, rfl⟩⟩, ⟨_, _, _, Try.underlying83⟩, by intro h; cases h⟩
def i84 : EI := ⟨.func, 1, 8, some [.nilFunc], false⟩
theorem i84_ok : EIok Try.prog 84 i84 := ⟨⟨Try.t84, by kernel_rfl, rfl, rfl, fun z h => by cases h; exact ⟨_, rfl, rfl, allOne rfl, rfl, rfl⟩⟩, ⟨_, _, _, Try.underlying84⟩, by intro h; cases h⟩
def i85 : EI := ⟨.func, 1, 8, some [.nilFunc], false⟩
theorem i85_ok : EIok Try.prog 85 i85 := ⟨⟨Try.t85, by kernel_rfl, rfl, rfl, fun z h => by cases h; exact ⟨_, rfl, rfl, allOne rfl, rfl, rfl⟩⟩, ⟨_, _, _, Try.underlying85⟩, by intro h; cases h⟩
def i86 : EI := ⟨.func, 1, 8, some [.nilFunc], false⟩
theorem i86_ok : EIok Try.prog 86 i86 := ⟨⟨Try.t86, by kernel_rfl, rfl, rfl, fun z h => by cases h; exact ⟨_, rfl, rfl, allOne rfl, rfl, rfl⟩⟩, ⟨_, _, _, Try.underlying86⟩, by intro h; cases h⟩
def i87 : EI := ⟨.func, 1, 8, some [.nilFunc], false⟩
theorem i87_ok : EIok Try.prog 87 i87 := ⟨⟨Try.t87, by kernel_rfl, rfl, rfl, fun z h => by cases h; exact ⟨_, rfl, rfl, allOne rfl, rfl, rfl⟩⟩, ⟨_, _, _, Try.underlying87⟩, by intro h; cases h⟩
def i88 : EI := ⟨.slice 65, 1, 24, some [.slice none 0 0], false⟩
theorem i88_ok : EIok Try.prog 88 i88 := ⟨⟨Try.t88, by kernel_rfl, rfl, rfl, fun z h => by cases h; exact ⟨_, rfl, rfl, allOne rfl, rfl, rfl⟩⟩, Try.underlying88, by intro h; cases h⟩
def i89 : EI := ⟨.slice 95, 1, 24, some [.slice none 0 0], false⟩
theorem i89_ok : EIok Try.prog 89 i89 := ⟨⟨Try.t89, by kernel_rfl, rfl, rfl, fun z h => by cases h; exact ⟨_, rfl, rfl, allOne rfl, rfl, rfl⟩⟩, Try.underlying89, by intro h; cases h⟩
def i91 : EI := ⟨.func, 1, 8, some [.nilFunc], false⟩
theorem i91_ok : EIok Try.prog 91 i91 := ⟨⟨Try.t91, by kernel_rfl, rfl, rfl, fun z h => by cases h; exact ⟨_, rfl, rfl, allOne rfl, rfl, rfl⟩⟩, ⟨_, _, _, Try.underlying91⟩, by intro h; cases h⟩
def i92 : EI := ⟨.func, 1, 8, some [.nilFunc], false⟩
theorem i92_ok : EIok Try.prog 92 i92 := ⟨⟨Try.t92, by kernel_rfl, rfl, rfl, fun z h => by cases h; exact ⟨_, rfl, rfl, allOne rfl, rfl, rfl⟩⟩, ⟨_, _, _, Try.underlying92⟩, by intro h; cases h⟩
def i93 : EI := ⟨.func, 1, 8, some [.nilFunc], false⟩
theorem i93_ok : EIok Try.prog 93 i93 := ⟨⟨Try.t93, by kernel_rfl, rfl, rfl, fun z h => by cases h; exact ⟨_, rfl, rfl, allOne rfl, rfl, rfl⟩⟩, ⟨_, _, _, Try.underlying93⟩, by intro h; cases h⟩
def i94 : EI := ⟨.func, 1, 8, some [.nilFunc], false⟩
theorem i94_ok : EIok Try.prog 94 i94 := ⟨⟨Try.t94, by kernel_rfl, rfl, rfl, fun z h => by cases h; exact ⟨_, rfl, rfl, allOne rfl, rfl, rfl⟩⟩, ⟨_, _, _, Try.underlying94⟩, by intro h; cases h⟩
theorem q95 : EqP Try.prog 95 (repZ 2 [.int .i64 0]) true 2 := eqP_array Try.underlying95 q3 ⟨_, (by kernel_rfl : Try.prog.info? 95 = some Try.t95), rfl⟩
def i95 : EI := ⟨.array 2 3, 2, 16, some [.int .i64 0, .int .i64 0], true⟩
theorem i95_ok : EIok Try.prog 95 i95 := ⟨⟨Try.t95, by kernel_rfl, rfl, rfl, fun z h => by cases h; exact ⟨_, rfl, rfl, allOne rfl, rfl, ⟨_, rfl⟩⟩⟩, Try.underlying95, fun _ => eqOk_of q95 rfl rfl (Nat.le_of_ble_eq_true (by kernel_rfl)) (by decide)⟩
def i96 : EI := ⟨.func, 1, 8, some [.nilFunc], false⟩
theorem i96_ok : EIok Try.prog 96 i96 := ⟨⟨Try.t96, by kernel_rfl, rfl, rfl, fun z h => by cases h; exact ⟨_, rfl, rfl, allOne rfl, rfl, rfl⟩⟩, ⟨_, _, _, Try.underlying96⟩, by intro h; cases h⟩
def i97 : EI := ⟨.func, 1, 8, some [.nilFunc], false⟩
theorem i97_ok : EIok Try.prog 97 i97 := ⟨⟨Try.t97, by kernel_rfl, rfl, rfl, fun z h => by cases h; exact ⟨_, rfl, rfl, allOne rfl, rfl, rfl⟩⟩, ⟨_, _, _, Try.underlying97⟩, by intro h; cases h⟩
def i98 : EI := ⟨.slice 67, 1, 24, some [.slice none 0 0], false⟩
theorem i98_ok : EIok Try.prog 98 i98 := ⟨⟨Try.t98, by kernel_rfl, rfl, rfl, fun z h => by cases h; exact ⟨_, rfl, rfl, allOne rfl, rfl, rfl⟩⟩, Try.underlying98, by intro h; cases h⟩
def i99 : EI := ⟨.func, 1, 8, some [.nilFunc], false⟩
theorem i99_ok : EIok Try.prog 99 i99 := ⟨⟨Try.t99, by kernel_rfl, rfl, rfl, fun z h => by cases h; exact ⟨_, rfl, rfl, allOne rfl, rfl, rfl⟩⟩, ⟨_, _, _, Try.underlying99⟩, by intro h; cases h⟩
def i100 : EI := ⟨.array 2 34, 6, 80, some [.int .i64 0, .int .i64 0, .slice none 0 0, .int .i64 0, .int .i64 0, .slice none 0 0], false⟩
theorem i100_ok : EIok Try.prog 100 i100 := ⟨⟨Try.t100, by kernel_rfl, rfl, rfl, fun z h => by cases h; exact ⟨_, rfl, rfl, allOne rfl, rfl, ⟨_, rfl⟩⟩⟩, Try.underlying100, by intro h; cases h⟩
def i101 : EI := ⟨.func, 1, 8, some [.nilFunc], false⟩
theorem i101_ok : EIok Try.prog 101 i101 := ⟨⟨Try.t101, by kernel_rfl, rfl, rfl, fun z h => by cases h; exact ⟨_, rfl, rfl, allOne rfl, rfl, rfl⟩⟩, ⟨_, _, _, Try.underlying101⟩, by intro h; cases h⟩
def i102 : EI := ⟨.int .u16, 1, 2, some [.int .u16 0], false⟩
theorem i102_ok : EIok Try.prog 102 i102 := ⟨⟨Try.t102, by kernel_rfl, rfl, rfl, fun z h => by cases h; exact ⟨_, rfl, rfl, allOne rfl, rfl, rfl⟩⟩, Try.underlying102, by intro h; cases h⟩
theorem q103 : EqP Try.prog 103 (repZ 4 [.int .u8 0]) true 2 := eqP_array Try.underlying103 q5 ⟨_, (by kernel_rfl : Try.prog.info? 103 = some Try.t103), rfl⟩
def i103 : EI := ⟨.array 4 5, 4, 4, some [.int .u8 0, .int .u8 0, .int .u8 0, .int .u8 0], true⟩
theorem i103_ok : EIok Try.prog 103 i103 := ⟨⟨Try.t103, by kernel_rfl, rfl, rfl, fun z h => by cases h; exact ⟨_, rfl, rfl, allOne rfl, rfl, ⟨_, rfl⟩⟩⟩, Try.underlying103, fun _ => eqOk_of q103 rfl rfl (Nat.le_of_ble_eq_true (by kernel_rfl)) (by decide)⟩
def i104 : EI := ⟨.func, 1, 8, some [.nilFunc], false⟩
theorem i104_ok : EIok Try.prog 104 i104 := ⟨⟨Try.t104, by kernel_rfl, rfl, rfl, fun z h => by cases h; exact ⟨_, rfl, rfl, allOne rfl, rfl, rfl⟩⟩, ⟨_, _, _, Try.underlying104⟩, by intro h; cases h⟩
def i105 : EI := ⟨.func, 1, 8, some [.nilFunc], false⟩
theorem i105_ok : EIok Try.prog 105 i105 := ⟨⟨Try.t105, by kernel_rfl, rfl, rfl, fun z h => by cases h; exact ⟨_, rfl, rfl, allOne rfl, rfl, rfl⟩⟩, ⟨_, _, _, Try.underlying105⟩, by intro h; cases h⟩
def i106 : EI := ⟨.func, 1, 8, some [.nilFunc], false⟩
theorem i106_ok : EIok Try.prog 106 i106 := ⟨⟨Try.t106, by kernel_rfl, rfl, rfl, fun z h => by cases h; exact ⟨_, rfl, rfl, allOne rfl, rfl, rfl⟩⟩, ⟨_, _, _, Try.underlying106⟩, by intro h; cases h⟩
def i107 : EI := ⟨.func, 1, 8, some [.nilFunc], false⟩
theorem i107_ok : EIok Try.prog 107 i107 := ⟨⟨Try.t107, by kernel_rfl, rfl, rfl, fun z h => by cases h; exact ⟨_, rfl, rfl, allOne rfl, rfl, rfl⟩⟩, ⟨_, _, _, Try.underlying107⟩, by intro h; cases h⟩
def i108 : EI := ⟨.func, 1, 8, some [.nilFunc], false⟩
theorem i108_ok : EIok Try.prog 108 i108 := ⟨⟨Try.t108, by kernel_rfl, rfl, rfl, fun z h => by cases h; exact ⟨_, rfl, rfl, allOne rfl, rfl, rfl⟩⟩, ⟨_, _, _, Try.underlying108⟩, by intro h; cases h⟩
def i109 : EI := ⟨.func, 1, 8, some [.nilFunc], false⟩
theorem i109_ok : EIok Try.prog 109 i109 := ⟨⟨Try.t109, by kernel_rfl, rfl, rfl, fun z h => by cases h; exact ⟨_, rfl, rfl, allOne rfl, rfl, rfl⟩⟩, ⟨_, _, _, Try.underlying109⟩, by intro h; cases h⟩
def i110 : EI := ⟨.func, 1, 8, some [.nilFunc], false⟩
theorem i110_ok : EIok Try.prog 110 i110 := ⟨⟨Try.t110, by kernel_rfl, rfl, rfl, fun z h => by cases h; exact ⟨_, rfl, rfl, allOne rfl, rfl, rfl⟩⟩, ⟨_, _, _, Try.underlying110⟩, by intro h; cases h⟩
def i111 : EI := ⟨.func, 1, 8, some [.nilFunc], false⟩
theorem i111_ok : EIok Try.prog 111 i111 := ⟨⟨Try.t111, by kernel_rfl, rfl, rfl, fun z h => by cases h; exact ⟨_, rfl, rfl, allOne rfl, rfl, rfl⟩⟩, ⟨_, _, _, Try.underlying111⟩, by intro h; cases h⟩
def i112 : EI := ⟨.func, 1, 8, some [.nilFunc], false⟩
theorem i112_ok : EIok Try.prog 112 i112 := ⟨⟨Try.t112, by kernel_rfl, rfl, rfl, fun z h => by cases h; exact ⟨_, rfl, rfl, allOne rfl, rfl, rfl⟩⟩, ⟨_, _, _, Try.underlying112⟩, by intro h; cases h⟩
def i113 : EI := ⟨.func, 1, 8, some [.nilFunc], false⟩
theorem i113_ok : EIok Try.prog 113 i113 := ⟨⟨Try.t113, by kernel_rfl, rfl, rfl, fun z h => by cases h; exact ⟨_, rfl, rfl, allOne rfl, rfl, rfl⟩⟩, ⟨_, _, _, Try.underlying113⟩, by intro h; cases h⟩
def i114 : EI := ⟨.struct [(0, 34), (3, 37), (4, 113)], 5, 72, some [.int .i64 0, .int .i64 0, .slice none 0 0, .slice none 0 0, .nilFunc], false⟩
theorem i114_ok : EIok Try.prog 114 i114 := ⟨⟨Try.t114, by kernel_rfl, rfl, rfl, fun z h => by cases h; exact ⟨_, rfl, rfl, allOne rfl, rfl, ⟨_, rfl⟩⟩⟩, ⟨_, Try.underlying114, by kernel_rfl, by
    intro f hf
    simp only [List.mem_cons, List.not_mem_nil, or_false] at hf
    rcases hf with rfl | rfl | rfl
    · exact ⟨Try.t34, by kernel_rfl⟩
    · exact ⟨Try.t37, by kernel_rfl⟩
    · exact ⟨Try.t113, by kernel_rfl⟩⟩, by intro h; cases h⟩
def i115 : EI := ⟨.struct [(0, 34), (3, 37), (4, 113)], 5, 72, some [.int .i64 0, .int .i64 0, .slice none 0 0, .slice none 0 0, .nilFunc], false⟩
theorem i115_ok : EIok Try.prog 115 i115 := ⟨⟨Try.t115, by kernel_rfl, rfl, rfl, fun z h => by cases h; exact ⟨_, rfl, rfl, allOne rfl, rfl, ⟨_, rfl⟩⟩⟩, ⟨_, Try.underlying115, by kernel_rfl, by
    intro f hf
    simp only [List.mem_cons, List.not_mem_nil, or_false] at hf
    rcases hf with rfl | rfl | rfl
    · exact ⟨Try.t34, by kernel_rfl⟩
    · exact ⟨Try.t37, by kernel_rfl⟩
    · exact ⟨Try.t113, by kernel_rfl⟩⟩, by intro h; cases h⟩
def i116 : EI := ⟨.func, 1, 8, some [.nilFunc], false⟩
theorem i116_ok : EIok Try.prog 116 i116 := ⟨⟨Try.t116, by kernel_rfl, rfl, rfl, fun z h => by cases h; exact ⟨_, rfl, rfl, allOne rfl, rfl, rfl⟩⟩, ⟨_, _, _, Try.underlying116⟩, by intro h; cases h⟩
def i117 : EI := ⟨.func, 1, 8, some [.nilFunc], false⟩
theorem i117_ok : EIok Try.prog 117 i117 := ⟨⟨Try.t117, by kernel_rfl, rfl, rfl, fun z h => by cases h; exact ⟨_, rfl, rfl, allOne rfl, rfl, rfl⟩⟩, ⟨_, _, _, Try.underlying117⟩, by intro h; cases h⟩
def i118 : EI := ⟨.func, 1, 8, some [.nilFunc], false⟩
theorem i118_ok : EIok Try.prog 118 i118 := ⟨⟨Try.t118, by kernel_rfl, rfl, rfl, fun z h => by cases h; exact ⟨_, rfl, rfl, allOne rfl, rfl, rfl⟩⟩, ⟨_, _, _, Try.underlying118⟩, by intro h; cases h⟩
def i120 : EI := ⟨.func, 1, 8, some [.nilFunc], false⟩
theorem i120_ok : EIok Try.prog 120 i120 := ⟨⟨Try.t120, by kernel_rfl, rfl, rfl, fun z h => by cases h; exact ⟨_, rfl, rfl, allOne rfl, rfl, rfl⟩⟩, ⟨_, _, _, Try.underlying120⟩, by intro h; cases h⟩
def i121 : EI := ⟨.func, 1, 8, some [.nilFunc], false⟩
theorem i121_ok : EIok Try.prog 121 i121 := ⟨⟨Try.t121, by kernel_rfl, rfl, rfl, fun z h => by cases h; exact ⟨_, rfl, rfl, allOne rfl, rfl, rfl⟩⟩, ⟨_, _, _, Try.underlying121⟩, by intro h; cases h⟩
def i122 : EI := ⟨.slice 4, 1, 24, some [.slice none 0 0], false⟩
theorem i122_ok : EIok Try.prog 122 i122 := ⟨⟨Try.t122, by kernel_rfl, rfl, rfl, fun z h => by cases h; exact ⟨_, rfl, rfl, allOne rfl, rfl, rfl⟩⟩, Try.underlying122, by intro h; cases h⟩
def i123 : EI := ⟨.slice 122, 1, 24, some [.slice none 0 0], false⟩
theorem i123_ok : EIok Try.prog 123 i123 := ⟨⟨Try.t123, by kernel_rfl, rfl, rfl, fun z h => by cases h; exact ⟨_, rfl, rfl, allOne rfl, rfl, rfl⟩⟩, Try.underlying123, by intro h; cases h⟩
def i124 : EI := ⟨.func, 1, 8, some [.nilFunc], false⟩
theorem i124_ok : EIok Try.prog 124 i124 := ⟨⟨Try.t124, by kernel_rfl, rfl, rfl, fun z h => by cases h; exact ⟨_, rfl, rfl, allOne rfl, rfl, rfl⟩⟩, ⟨_, _, _, Try.underlying124⟩, by intro h; cases h⟩
def i125 : EI := ⟨.func, 1, 8, some [.nilFunc], false⟩
theorem i125_ok : EIok Try.prog 125 i125 := ⟨⟨Try.t125, by kernel_rfl, rfl, rfl, fun z h => by cases h; exact ⟨_, rfl, rfl, allOne rfl, rfl, rfl⟩⟩, ⟨_, _, _, Try.underlying125⟩, by intro h; cases h⟩
def i126 : EI := ⟨.func, 1, 8, some [.nilFunc], false⟩
theorem i126_ok : EIok Try.prog 126 i126 := ⟨⟨Try.t126, by kernel_rfl, rfl, rfl, fun z h => by cases h; exact ⟨_, rfl, rfl, allOne rfl, rfl, rfl⟩⟩, ⟨_, _, _, Try.underlying126⟩, by intro h; cases h⟩
def i127 : EI := ⟨.func, 1, 8, some [.nilFunc], false⟩
theorem i127_ok : EIok Try.prog 127 i127 := ⟨⟨Try.t127, by kernel_rfl, rfl, rfl, fun z h => by cases h; exact ⟨_, rfl, rfl, allOne rfl, rfl, rfl⟩⟩, ⟨_, _, _, Try.underlying127⟩, by intro h; cases h⟩
def i128 : EI := ⟨.func, 1, 8, some [.nilFunc], false⟩
theorem i128_ok : EIok Try.prog 128 i128 := ⟨⟨Try.t128, by kernel_rfl, rfl, rfl, fun z h => by cases h; exact ⟨_, rfl, rfl, allOne rfl, rfl, rfl⟩⟩, ⟨_, _, _, Try.underlying128⟩, by intro h; cases h⟩
def i129 : EI := ⟨.func, 1, 8, some [.nilFunc], false⟩
theorem i129_ok : EIok Try.prog 129 i129 := ⟨⟨Try.t129, by kernel_rfl, rfl, rfl, fun z h => by cases h; exact ⟨_, rfl, rfl, allOne rfl, rfl, rfl⟩⟩, ⟨_, _, _, Try.underlying129⟩, by intro h; cases h⟩
def i130 : EI := ⟨.map 95 4, 1, 8, some [.map none], false⟩
theorem i130_ok : EIok Try.prog 130 i130 := ⟨⟨Try.t130, by kernel_rfl, rfl, rfl, fun z h => by cases h; exact ⟨_, rfl, rfl, allOne rfl, rfl, rfl⟩⟩, Try.underlying130, by intro h; cases h⟩
def i131 : EI := ⟨.func, 1, 8, some [.nilFunc], false⟩
theorem i131_ok : EIok Try.prog 131 i131 := ⟨⟨Try.t131, by kernel_rfl, rfl, rfl, fun z h => by cases h; exact ⟨_, rfl, rfl, allOne rfl, rfl, rfl⟩⟩, ⟨_, _, _, Try.underlying131⟩, by intro h; cases h⟩
def i132 : EI := ⟨.func, 1, 8, some [.nilFunc], false⟩
theorem i132_ok : EIok Try.prog 132 i132 := ⟨⟨Try.t132, by kernel_rfl, rfl, rfl, fun z h => by cases h; exact ⟨_, rfl, rfl, allOne rfl, rfl, rfl⟩⟩, ⟨_, _, _, Try.underlying132⟩, by intro h; cases h⟩
def i133 : EI := ⟨.func, 1, 8, some [.nilFunc], false⟩
theorem i133_ok : EIok Try.prog 133 i133 := ⟨⟨Try.t133, by kernel_rfl, rfl, rfl, fun z h => by cases h; exact ⟨_, rfl, rfl, allOne rfl, rfl, rfl⟩⟩, ⟨_, _, _, Try.underlying133⟩, by intro h; cases h⟩
def i134 : EI := ⟨.slice 34, 1, 24, some [.slice none 0 0], false⟩
theorem i134_ok : EIok Try.prog 134 i134 := ⟨⟨Try.t134, by kernel_rfl, rfl, rfl, fun z h => by cases h; exact ⟨_, rfl, rfl, allOne rfl, rfl, rfl⟩⟩, Try.underlying134, by intro h; cases h⟩
def i135 : EI := ⟨.func, 1, 8, some [.nilFunc], false⟩
theorem i135_ok : EIok Try.prog 135 i135 := ⟨⟨Try.t135, by kernel_rfl, rfl, rfl, fun z h => by cases h; exact ⟨_, rfl, rfl, allOne rfl, rfl, rfl⟩⟩, ⟨_, _, _, Try.underlying135⟩, by intro h; cases h⟩
def i136 : EI := ⟨.func, 1, 8, some [.nilFunc], false⟩
theorem i136_ok : EIok Try.prog 136 i136 := ⟨⟨Try.t136, by kernel_rfl, rfl, rfl, fun z h => by cases h; exact ⟨_, rfl, rfl, allOne rfl, rfl, rfl⟩⟩, ⟨_, _, _, Try.underlying136⟩, by intro h; cases h⟩
def i137 : EI := ⟨.func, 1, 8, some [.nilFunc], false⟩
theorem i137_ok : EIok Try.prog 137 i137 := ⟨⟨Try.t137, by kernel_rfl, rfl, rfl, fun z h => by cases h; exact ⟨_, rfl, rfl, allOne rfl, rfl, rfl⟩⟩, ⟨_, _, _, Try.underlying137⟩, by intro h; cases h⟩
def i138 : EI := ⟨.func, 1, 8, some [.nilFunc], false⟩
theorem i138_ok : EIok Try.prog 138 i138 := ⟨⟨Try.t138, by kernel_rfl, rfl, rfl, fun z h => by cases h; exact ⟨_, rfl, rfl, allOne rfl, rfl, rfl⟩⟩, ⟨_, _, _, Try.underlying138⟩, by intro h; cases h⟩
def i139 : EI := ⟨.func, 1, 8, some [.nilFunc], false⟩
theorem i139_ok : EIok Try.prog 139 i139 := ⟨⟨Try.t139, by kernel_rfl, rfl, rfl, fun z h => by cases h; exact ⟨_, rfl, rfl, allOne rfl, rfl, rfl⟩⟩, ⟨_, _, _, Try.underlying139⟩, by intro h; cases h⟩
def i140 : EI := ⟨.func, 1, 8, some [.nilFunc], false⟩
theorem i140_ok : EIok Try.prog 140 i140 := ⟨⟨Try.t140, by kernel_rfl, rfl, rfl, fun z h => by cases h; exact ⟨_, rfl, rfl, allOne rfl, rfl, rfl⟩⟩, ⟨_, _, _, Try.underlying140⟩, by intro h; cases h⟩
def i141 : EI := ⟨.func, 1, 8, some [.nilFunc], false⟩
theorem i141_ok : EIok Try.prog 141 i141 := ⟨⟨Try.t141, by kernel_rfl, rfl, rfl, fun z h => by cases h; exact ⟨_, rfl, rfl, allOne rfl, rfl, rfl⟩⟩, ⟨_, _, _, Try.underlying141⟩, by intro h; cases h⟩
def i142 : EI := ⟨.func, 1, 8, some [.nilFunc], false⟩
theorem i142_ok : EIok Try.prog 142 i142 := ⟨⟨Try.t142, by kernel_rfl, rfl, rfl, fun z h => by cases h; exact ⟨_, rfl, rfl, allOne rfl, rfl, rfl⟩⟩, ⟨_, _, _, Try.underlying142⟩, by intro h; cases h⟩
def i143 : EI := ⟨.func, 1, 8, some [.nilFunc], false⟩
theorem i143_ok : EIok Try.prog 143 i143 := ⟨⟨Try.t143, by kernel_rfl, rfl, rfl, fun z h => by cases h; exact ⟨_, rfl, rfl, allOne rfl, rfl, rfl⟩⟩, ⟨_, _, _, Try.underlying143⟩, by intro h; cases h⟩
def i144 : EI := ⟨.func, 1, 8, some [.nilFunc], false⟩
theorem i144_ok : EIok Try.prog 144 i144 := ⟨⟨Try.t144, by kernel_rfl, rfl, rfl, fun z h => by cases h; exact ⟨_, rfl, rfl, allOne rfl, rfl, rfl⟩⟩, ⟨_, _, _, Try.underlying144⟩, by intro h; cases h⟩
def i145 : EI := ⟨.func, 1, 8, some [.nilFunc], false⟩
theorem i145_ok : EIok Try.prog 145 i145 := ⟨⟨Try.t145, by kernel_rfl, rfl, rfl, fun z h => by cases h; exact ⟨_, rfl, rfl, allOne rfl, rfl, rfl⟩⟩, ⟨_, _, _, Try.underlying145⟩, by intro h; cases h⟩
theorem q146 : EqP Try.prog 146 (flatZ [([.int .i64 0], false), ([.int .i64 0], false), ([.int .i64 0, .int .i64 0], true), ([.int .i64 0, .int .i64 0], true)]) true 3 := eqP_struct Try.underlying146 (by kernel_rfl) ⟨_, (by kernel_rfl : Try.prog.info? 146 = some Try.t146), rfl⟩ (by decide) (FieldsOk.cons (by decide) rfl (q3.mono (by decide)) (FieldsOk.cons (by decide) rfl (q3.mono (by decide)) (FieldsOk.cons (by decide) rfl (q67.mono (by decide)) (FieldsOk.cons (by decide) rfl (q67.mono (by decide)) (FieldsOk.nil)))))
def i146 : EI := ⟨.struct [(0, 3), (1, 3), (2, 67), (4, 67)], 6, 48, some [.int .i64 0, .int .i64 0, .int .i64 0, .int .i64 0, .int .i64 0, .int .i64 0], true⟩
theorem i146_ok : EIok Try.prog 146 i146 := ⟨⟨Try.t146, by kernel_rfl, rfl, rfl, fun z h => by cases h; exact ⟨_, rfl, rfl, allOne rfl, rfl, ⟨_, rfl⟩⟩⟩, ⟨_, Try.underlying146, by kernel_rfl, by
    intro f hf
    simp only [List.mem_cons, List.not_mem_nil, or_false] at hf
    rcases hf with rfl | rfl | rfl | rfl
    · exact ⟨Try.t3, by kernel_rfl⟩
    · exact ⟨Try.t3, by kernel_rfl⟩
    · exact ⟨Try.t67, by kernel_rfl⟩
    · exact ⟨Try.t67, by kernel_rfl⟩⟩, fun _ => eqOk_of q146 rfl rfl (Nat.le_of_ble_eq_true (by kernel_rfl)) (by decide)⟩
theorem q147 : EqP Try.prog 147 (flatZ [([.int .i64 0], false), ([.int .i64 0], false), ([.int .i64 0, .int .i64 0], true), ([.int .i64 0, .int .i64 0], true)]) true 3 := eqP_struct Try.underlying147 (by kernel_rfl) ⟨_, (by kernel_rfl : Try.prog.info? 147 = some Try.t147), rfl⟩ (by decide) (FieldsOk.cons (by decide) rfl (q3.mono (by decide)) (FieldsOk.cons (by decide) rfl (q3.mono (by decide)) (FieldsOk.cons (by decide) rfl (q67.mono (by decide)) (FieldsOk.cons (by decide) rfl (q67.mono (by decide)) (FieldsOk.nil)))))
def i147 : EI := ⟨.struct [(0, 3), (1, 3), (2, 67), (4, 67)], 6, 48, some [.int .i64 0, .int .i64 0, .int .i64 0, .int .i64 0, .int .i64 0, .int .i64 0], true⟩
theorem i147_ok : EIok Try.prog 147 i147 := ⟨⟨Try.t147, by kernel_rfl, rfl, rfl, fun z h => by cases h; exact ⟨_, rfl, rfl, allOne rfl, rfl, ⟨_, rfl⟩⟩⟩, ⟨_, Try.underlying147, by kernel_rfl, by
    intro f hf
    simp only [List.mem_cons, List.not_mem_nil, or_false] at hf
    rcases hf with rfl | rfl | rfl | rfl
    · exact ⟨Try.t3, by kernel_rfl⟩
    · exact ⟨Try.t3, by kernel_rfl⟩
    · exact ⟨Try.t67, by kernel_rfl⟩
    · exact ⟨Try.t67, by kernel_rfl⟩⟩, fun _ => eqOk_of q147 rfl rfl (Nat.le_of_ble_eq_true (by kernel_rfl)) (by decide)⟩
def i148 : EI := ⟨.slice 170, 1, 24, some [.slice none 0 0], false⟩
theorem i148_ok : EIok Try.prog 148 i148 := ⟨⟨Try.t148, by kernel_rfl, rfl, rfl, fun z h => by cases h; exact ⟨_, rfl, rfl, allOne rfl, rfl, rfl⟩⟩, Try.underlying148, by intro h; cases h⟩
def i149 : EI := ⟨.func, 1, 8, some [.nilFunc], false⟩
theorem i149_ok : EIok Try.prog 149 i149 := ⟨⟨Try.t149, by kernel_rfl, rfl, rfl, fun z h => by cases h; exact ⟨_, rfl, rfl, allOne rfl, rfl, rfl⟩⟩, ⟨_, _, _, Try.underlying149⟩, by intro h; cases h⟩
def i150 : EI := ⟨.func, 1, 8, some [.nilFunc], false⟩
theorem i150_ok : EIok Try.prog 150 i150 := ⟨⟨Try.t150, by kernel_rfl, rfl, rfl, fun z h => by cases h; exact ⟨_, rfl, rfl, allOne rfl, rfl, rfl⟩⟩, ⟨_, _, _, Try.underlying150⟩, by intro h; cases h⟩
def i151 : EI := ⟨.func, 1, 8, some [.nilFunc], false⟩
theorem i151_ok : EIok Try.prog 151 i151 := ⟨⟨Try.t151, by kernel_rfl, rfl, rfl, fun z h => by cases h; exact ⟨_, rfl, rfl, allOne rfl, rfl, rfl⟩⟩, ⟨_, _, _, Try.underlying151⟩, by intro h; cases h⟩
def i152 : EI := ⟨.func, 1, 8, some [.nilFunc], false⟩
theorem i152_ok : EIok Try.prog 152 i152 := ⟨⟨Try.t152, by kernel_rfl, rfl, rfl, fun z h => by cases h; exact ⟨_, rfl, rfl, allOne rfl, rfl, rfl⟩⟩, ⟨_, _, _, Try.underlying152⟩, by intro h; cases h⟩
def i153 : EI := ⟨.func, 1, 8, some [.nilFunc], false⟩
theorem i153_ok : EIok Try.prog 153 i153 := ⟨⟨Try.t153, by kernel_rfl, rfl, rfl, fun z h => by cases h; exact ⟨_, rfl, rfl, allOne rfl, rfl, rfl⟩⟩, ⟨_, _, _, Try.underlying153⟩, by intro h; cases h⟩
def i154 : EI := ⟨.func, 1, 8, some [.nilFunc], false⟩
theorem i154_ok : EIok Try.prog 154 i154 := ⟨⟨Try.t154, by kernel_rfl, rfl, rfl, fun z h => by cases h; exact ⟨_, rfl, rfl, allOne rfl, rfl, rfl⟩⟩, ⟨_, _, _, Try.underlying154⟩, by intro h; cases h⟩
def i155 : EI := ⟨.int .u64, 1, 8, some [.int .u64 0], false⟩
theorem i155_ok : EIok Try.prog 155 i155 := ⟨⟨Try.t155, by kernel_rfl, rfl, rfl, fun z h => by cases h; exact ⟨_, rfl, rfl, allOne rfl, rfl, rfl⟩⟩, Try.underlying155, by intro h; cases h⟩
def i156 : EI := ⟨.func, 1, 8, some [.nilFunc], false⟩
theorem i156_ok : EIok Try.prog 156 i156 := ⟨⟨Try.t156, by kernel_rfl, rfl, rfl, fun z h => by cases h; exact ⟨_, rfl, rfl, allOne rfl, rfl, rfl⟩⟩, ⟨_, _, _, Try.underlying156⟩, by intro h; cases h⟩
def i157 : EI := ⟨.func, 1, 8, some [.nilFunc], false⟩
theorem i157_ok : EIok Try.prog 157 i157 := ⟨⟨Try.t157, by kernel_rfl, rfl, rfl, fun z h => by cases h; exact ⟨_, rfl, rfl, allOne rfl, rfl, rfl⟩⟩, ⟨_, _, _, Try.underlying157⟩, by intro h; cases h⟩
def i158 : EI := ⟨.func, 1, 8, some [.nilFunc], false⟩
theorem i158_ok : EIok Try.prog 158 i158 := ⟨⟨Try.t158, by kernel_rfl, rfl, rfl, fun z h => by cases h; exact ⟨_, rfl, rfl, allOne rfl, rfl, rfl⟩⟩, ⟨_, _, _, Try.underlying158⟩, by intro h; cases h⟩
def i159 : EI := ⟨.func, 1, 8, some [.nilFunc], false⟩
theorem i159_ok : EIok Try.prog 159 i159 := ⟨⟨Try.t159, by kernel_rfl, rfl, rfl, fun z h => by cases h; exact ⟨_, rfl, rfl, allOne rfl, rfl, rfl⟩⟩, ⟨_, _, _, Try.underlying159⟩, by intro h; cases h⟩
def i160 : EI := ⟨.func, 1, 8, some [.nilFunc], false⟩
theorem i160_ok : EIok Try.prog 160 i160 := ⟨⟨Try.t160, by kernel_rfl, rfl, rfl, fun z h => by cases h; exact ⟨_, rfl, rfl, allOne rfl, rfl, rfl⟩⟩, ⟨_, _, _, Try.underlying160⟩, by intro h; cases h⟩
def i161 : EI := ⟨.func, 1, 8, some [.nilFunc], false⟩
theorem i161_ok : EIok Try.prog 161 i161 := ⟨⟨Try.t161, by kernel_rfl, rfl, rfl, fun z h => by cases h; exact ⟨_, rfl, rfl, allOne rfl, rfl, rfl⟩⟩, ⟨_, _, _, Try.underlying161⟩, by intro h; cases h⟩
def i162 : EI := ⟨.struct [(0, 40), (1, 50)], 2, 16, some [.int .i64 0, .nilFunc], false⟩
theorem i162_ok : EIok Try.prog 162 i162 := ⟨⟨Try.t162, by kernel_rfl, rfl, rfl, fun z h => by cases h; exact ⟨_, rfl, rfl, allOne rfl, rfl, ⟨_, rfl⟩⟩⟩, ⟨_, Try.underlying162, by kernel_rfl, by
    intro f hf
    simp only [List.mem_cons, List.not_mem_nil, or_false] at hf
    rcases hf with rfl | rfl
    · exact ⟨Try.t40, by kernel_rfl⟩
    · exact ⟨Try.t50, by kernel_rfl⟩⟩, by intro h; cases h⟩
def i163 : EI := ⟨.struct [(0, 40), (1, 50)], 2, 16, some [.int .i64 0, .nilFunc], false⟩
theorem i163_ok : EIok Try.prog 163 i163 := ⟨⟨Try.t163, by kernel_rfl, rfl, rfl, fun z h => by cases h; exact ⟨_, rfl, rfl, allOne rfl, rfl, ⟨_, rfl⟩⟩⟩, ⟨_, Try.underlying163, by kernel_rfl, by
    intro f hf
    simp only [List.mem_cons, List.not_mem_nil, or_false] at hf
    rcases hf with rfl | rfl
    · exact ⟨Try.t40, by kernel_rfl⟩
    · exact ⟨Try.t50, by kernel_rfl⟩⟩, by intro h; cases h⟩
def i164 : EI := ⟨.array 3 163, 6, 48, some [.int .i64 0, .nilFunc, .int .i64 0, .nilFunc, .int .i64 0, .nilFunc], false⟩
theorem i164_ok : EIok Try.prog 164 i164 := ⟨⟨Try.t164, by kernel_rfl, rfl, rfl, fun z h => by cases h; exact ⟨_, rfl, rfl, allOne rfl, rfl, ⟨_, rfl⟩⟩⟩, Try.underlying164, by intro h; cases h⟩
def i165 : EI := ⟨.func, 1, 8, some [.nilFunc], false⟩
theorem i165_ok : EIok Try.prog 165 i165 := ⟨⟨Try.t165, by kernel_rfl, rfl, rfl, fun z h => by cases h; exact ⟨_, rfl, rfl, allOne rfl, rfl, rfl⟩⟩, ⟨_, _, _, Try.underlying165⟩, by intro h; cases h⟩
def i166 : EI := ⟨.ptr 67, 1, 8, some [.pointer none], false⟩
theorem i166_ok : EIok Try.prog 166 i166 := ⟨⟨Try.t166, by kernel_rfl, rfl, rfl, fun z h => by cases h; exact ⟨_, rfl, rfl, allOne rfl, rfl, rfl⟩⟩, Try.underlying166, by intro h; cases h⟩
def i167 : EI := ⟨.slice 40, 1, 24, some [.slice none 0 0], false⟩
theorem i167_ok : EIok Try.prog 167 i167 := ⟨⟨Try.t167, by kernel_rfl, rfl, rfl, fun z h => by cases h; exact ⟨_, rfl, rfl, allOne rfl, rfl, rfl⟩⟩, Try.underlying167, by intro h; cases h⟩
def i168 : EI := ⟨.func, 1, 8, some [.nilFunc], false⟩
theorem i168_ok : EIok Try.prog 168 i168 := ⟨⟨Try.t168, by kernel_rfl, rfl, rfl, fun z h => by cases h; exact ⟨_, rfl, rfl, allOne rfl, rfl, rfl⟩⟩, ⟨_, _, _, Try.underlying168⟩, by intro h; cases h⟩
theorem q169 : EqP Try.prog 169 (flatZ [([.int .i64 0, .int .i64 0], true), ([.int .i64 0], false), ([.int .i64 0], false)]) true 3 := eqP_struct Try.underlying169 (by kernel_rfl) ⟨_, (by kernel_rfl : Try.prog.info? 169 = some Try.t169), rfl⟩ (by decide) (FieldsOk.cons (by decide) rfl (q95.mono (by decide)) (FieldsOk.cons (by decide) rfl (q3.mono (by decide)) (FieldsOk.cons (by decide) rfl (q3.mono (by decide)) (FieldsOk.nil))))
def i169 : EI := ⟨.struct [(0, 95), (2, 3), (3, 3)], 4, 32, some [.int .i64 0, .int .i64 0, .int .i64 0, .int .i64 0], true⟩
theorem i169_ok : EIok Try.prog 169 i169 := ⟨⟨Try.t169, by kernel_rfl, rfl, rfl, fun z h => by cases h; exact ⟨_, rfl, rfl, allOne rfl, rfl, ⟨_, rfl⟩⟩⟩, ⟨_, Try.underlying169, by kernel_rfl, by
    intro f hf
    simp only [List.mem_cons, List.not_mem_nil, or_false] at hf
    rcases hf with rfl | rfl | rfl
    · exact ⟨Try.t95, by kernel_rfl⟩
    · exact ⟨Try.t3, by kernel_rfl⟩
    · exact ⟨Try.t3, by kernel_rfl⟩⟩, fun _ => eqOk_of q169 rfl rfl (Nat.le_of_ble_eq_true (by kernel_rfl)) (by decide)⟩
theorem q170 : EqP Try.prog 170 (flatZ [([.int .i64 0, .int .i64 0], true), ([.int .i64 0], false), ([.int .i64 0], false)]) true 3 := eqP_struct Try.underlying170 (by kernel_rfl) ⟨_, (by kernel_rfl : Try.prog.info? 170 = some Try.t170), rfl⟩ (by decide) (FieldsOk.cons (by decide) rfl (q95.mono (by decide)) (FieldsOk.cons (by decide) rfl (q3.mono (by decide)) (FieldsOk.cons (by decide) rfl (q3.mono (by decide)) (FieldsOk.nil))))
def i170 : EI := ⟨.struct [(0, 95), (2, 3), (3, 3)], 4, 32, some [.int .i64 0, .int .i64 0, .int .i64 0, .int .i64 0], true⟩
theorem i170_ok : EIok Try.prog 170 i170 := ⟨⟨Try.t170, by kernel_rfl, rfl, rfl, fun z h => by cases h; exact ⟨_, rfl, rfl, allOne rfl, rfl, ⟨_, rfl⟩⟩⟩, ⟨_, Try.underlying170, by kernel_rfl, by
    intro f hf
    simp only [List.mem_cons, List.not_mem_nil, or_false] at hf
    rcases hf with rfl | rfl | rfl
    · exact ⟨Try.t95, by kernel_rfl⟩
    · exact ⟨Try.t3, by kernel_rfl⟩
    · exact ⟨Try.t3, by kernel_rfl⟩⟩, fun _ => eqOk_of q170 rfl rfl (Nat.le_of_ble_eq_true (by kernel_rfl)) (by decide)⟩
def i172 : EI := ⟨.func, 1, 8, some [.nilFunc], false⟩
theorem i172_ok : EIok Try.prog 172 i172 := ⟨⟨Try.t172, by kernel_rfl, rfl, rfl, fun z h => by cases h; exact ⟨_, rfl, rfl, allOne rfl, rfl, rfl⟩⟩, ⟨_, _, _, Try.underlying172⟩, by intro h; cases h⟩
def i173 : EI := ⟨.func, 1, 8, some [.nilFunc], false⟩
theorem i173_ok : EIok Try.prog 173 i173 := ⟨⟨Try.t173, by kernel_rfl, rfl, rfl, fun z h => by cases h; exact ⟨_, rfl, rfl, allOne rfl, rfl, rfl⟩⟩, ⟨_, _, _, Try.underlying173⟩, by intro h; cases h⟩
def i174 : EI := ⟨.int .i64, 1, 8, some [.int .i64 0], false⟩
theorem i174_ok : EIok Try.prog 174 i174 := ⟨⟨Try.t174, by kernel_rfl, rfl, rfl, fun z h => by cases h; exact ⟨_, rfl, rfl, allOne rfl, rfl, rfl⟩⟩, Try.underlying174, by intro h; cases h⟩
def i176 : EI := ⟨.func, 1, 8, some [.nilFunc], false⟩
theorem i176_ok : EIok Try.prog 176 i176 := ⟨⟨Try.t176, by kernel_rfl, rfl, rfl, fun z h => by cases h; exact ⟨_, rfl, rfl, allOne rfl, rfl, rfl⟩⟩, ⟨_, _, _, Try.underlying176⟩, by intro h; cases h⟩
def i177 : EI := ⟨.func, 1, 8, some [.nilFunc], false⟩
theorem i177_ok : EIok Try.prog 177 i177 := ⟨⟨Try.t177, by kernel_rfl, rfl, rfl, fun z h => by cases h; exact ⟨_, rfl, rfl, allOne rfl, rfl, rfl⟩⟩, ⟨_, _, _, Try.underlying177⟩, by intro h; cases h⟩
def i178 : EI := ⟨.func, 1, 8, some [.nilFunc], false⟩
theorem i178_ok : EIok Try.prog 178 i178 := ⟨⟨Try.t178, by kernel_rfl, rfl, rfl, fun z h => by cases h; exact ⟨_, rfl, rfl, allOne rfl, rfl, rfl⟩⟩, ⟨_, _, _, Try.underlying178⟩, by intro h; cases h⟩
def i180 : EI := ⟨.func, 1, 8, some [.nilFunc], false⟩
theorem i180_ok : EIok Try.prog 180 i180 := ⟨⟨Try.t180, by kernel_rfl, rfl, rfl, fun z h => by cases h; exact ⟨_, rfl, rfl, allOne rfl, rfl, rfl⟩⟩, ⟨_, _, _, Try.underlying180⟩, by intro h; cases h⟩
def i181 : EI := ⟨.func, 1, 8, some [.nilFunc], false⟩
theorem i181_ok : EIok Try.prog 181 i181 := ⟨⟨Try.t181, by kernel_rfl, rfl, rfl, fun z h => by cases h; exact ⟨_, rfl, rfl, allOne rfl, rfl, rfl⟩⟩, ⟨_, _, _, Try.underlying181⟩, by intro h; cases h⟩
def i182 : EI := ⟨.int .u32, 1, 4, some [.int .u32 0], false⟩
theorem i182_ok : EIok Try.prog 182 i182 := ⟨⟨Try.t182, by kernel_rfl, rfl, rfl, fun z h => by cases h; exact ⟨_, rfl, rfl, allOne rfl, rfl, rfl⟩⟩, Try.underlying182, by intro h; cases h⟩
def i183 : EI := ⟨.func, 1, 8, some [.nilFunc], false⟩
theorem i183_ok : EIok Try.prog 183 i183 := ⟨⟨Try.t183, by kernel_rfl, rfl, rfl, fun z h => by cases h; exact ⟨_, rfl, rfl, allOne rfl, rfl, rfl⟩⟩, ⟨_, _, _, Try.underlying183⟩, by intro h; cases h⟩
def i184 : EI := ⟨.int .u64, 1, 8, some [.int .u64 0], false⟩
theorem i184_ok : EIok Try.prog 184 i184 := ⟨⟨Try.t184, by kernel_rfl, rfl, rfl, fun z h => by cases h; exact ⟨_, rfl, rfl, allOne rfl, rfl, rfl⟩⟩, Try.underlying184, by intro h; cases h⟩
def i185 : EI := ⟨.func, 1, 8, some [.nilFunc], false⟩
theorem i185_ok : EIok Try.prog 185 i185 := ⟨⟨Try.t185, by kernel_rfl, rfl, rfl, fun z h => by cases h; exact ⟨_, rfl, rfl, allOne rfl, rfl, rfl⟩⟩, ⟨_, _, _, Try.underlying185⟩, by intro h; cases h⟩
def i186 : EI := ⟨.func, 1, 8, some [.nilFunc], false⟩
theorem i186_ok : EIok Try.prog 186 i186 := ⟨⟨Try.t186, by kernel_rfl, rfl, rfl, fun z h => by cases h; exact ⟨_, rfl, rfl, allOne rfl, rfl, rfl⟩⟩, ⟨_, _, _, Try.underlying186⟩, by intro h; cases h⟩
def i187 : EI := ⟨.func, 1, 8, some [.nilFunc], false⟩
theorem i187_ok : EIok Try.prog 187 i187 := ⟨⟨Try.t187, by kernel_rfl, rfl, rfl, fun z h => by cases h; exact ⟨_, rfl, rfl, allOne rfl, rfl, rfl⟩⟩, ⟨_, _, _, Try.underlying187⟩, by intro h; cases h⟩
def i188 : EI := ⟨.func, 1, 8, some [.nilFunc], false⟩
theorem i188_ok : EIok Try.prog 188 i188 := ⟨⟨Try.t188, by kernel_rfl, rfl, rfl, fun z h => by cases h; exact ⟨_, rfl, rfl, allOne rfl, rfl, rfl⟩⟩, ⟨_, _, _, Try.underlying188⟩, by intro h; cases h⟩
def i189 : EI := ⟨.func, 1, 8, some [.nilFunc], false⟩
theorem i189_ok : EIok Try.prog 189 i189 := ⟨⟨Try.t189, by kernel_rfl, rfl, rfl, fun z h => by cases h; exact ⟨_, rfl, rfl, allOne rfl, rfl, rfl⟩⟩, ⟨_, _, _, Try.underlying189⟩, by intro h; cases h⟩
def i190 : EI := ⟨.func, 1, 8, some [.nilFunc], false⟩
theorem i190_ok : EIok Try.prog 190 i190 := ⟨⟨Try.t190, by kernel_rfl, rfl, rfl, fun z h => by cases h; exact ⟨_, rfl, rfl, allOne rfl, rfl, rfl⟩⟩, ⟨_, _, _, Try.underlying190⟩, by intro h; cases h⟩
def i192 : EI := ⟨.func, 1, 8, some [.nilFunc], false⟩
theorem i192_ok : EIok Try.prog 192 i192 := ⟨⟨Try.t192, by kernel_rfl, rfl, rfl, fun z h => by cases h; exact ⟨_, rfl, rfl, allOne rfl, rfl, rfl⟩⟩, ⟨_, _, _, Try.underlying192⟩, by intro h; cases h⟩
def i193 : EI := ⟨.func, 1, 8, some [.nilFunc], false⟩
theorem i193_ok : EIok Try.prog 193 i193 := ⟨⟨Try.t193, by kernel_rfl, rfl, rfl, fun z h => by cases h; exact ⟨_, rfl, rfl, allOne rfl, rfl, rfl⟩⟩, ⟨_, _, _, Try.underlying193⟩, by intro h; cases h⟩
def i194 : EI := ⟨.int .u64, 1, 8, some [.int .u64 0], false⟩
theorem i194_ok : EIok Try.prog 194 i194 := ⟨⟨Try.t194, by kernel_rfl, rfl, rfl, fun z h => by cases h; exact ⟨_, rfl, rfl, allOne rfl, rfl, rfl⟩⟩, Try.underlying194, by intro h; cases h⟩
def i195 : EI := ⟨.func, 1, 8, some [.nilFunc], false⟩
theorem i195_ok : EIok Try.prog 195 i195 := ⟨⟨Try.t195, by kernel_rfl, rfl, rfl, fun z h => by cases h; exact ⟨_, rfl, rfl, allOne rfl, rfl, rfl⟩⟩, ⟨_, _, _, Try.underlying195⟩, by intro h; cases h⟩
def i196 : EI := ⟨.func, 1, 8, some [.nilFunc], false⟩
theorem i196_ok : EIok Try.prog 196 i196 := ⟨⟨Try.t196, by kernel_rfl, rfl, rfl, fun z h => by cases h; exact ⟨_, rfl, rfl, allOne rfl, rfl, rfl⟩⟩, ⟨_, _, _, Try.underlying196⟩, by intro h; cases h⟩
def i197 : EI := ⟨.func, 1, 8, some [.nilFunc], false⟩
theorem i197_ok : EIok Try.prog 197 i197 := ⟨⟨Try.t197, by kernel_rfl, rfl, rfl, fun z h => by cases h; exact ⟨_, rfl, rfl, allOne rfl, rfl, rfl⟩⟩, ⟨_, _, _, Try.underlying197⟩, by intro h; cases h⟩
def i198 : EI := ⟨.ptr 3, 1, 8, some [.pointer none], false⟩
theorem i198_ok : EIok Try.prog 198 i198 := ⟨⟨Try.t198, by kernel_rfl, rfl, rfl, fun z h => by cases h; exact ⟨_, rfl, rfl, allOne rfl, rfl, rfl⟩⟩, Try.underlying198, by intro h; cases h⟩
def i199 : EI := ⟨.func, 1, 8, some [.nilFunc], false⟩
theorem i199_ok : EIok Try.prog 199 i199 := ⟨⟨Try.t199, by kernel_rfl, rfl, rfl, fun z h => by cases h; exact ⟨_, rfl, rfl, allOne rfl, rfl, rfl⟩⟩, ⟨_, _, _, Try.underlying199⟩, by intro h; cases h⟩
def i200 : EI := ⟨.func, 1, 8, some [.nilFunc], false⟩
theorem i200_ok : EIok Try.prog 200 i200 := ⟨⟨Try.t200, by kernel_rfl, rfl, rfl, fun z h => by cases h; exact ⟨_, rfl, rfl, allOne rfl, rfl, rfl⟩⟩, ⟨_, _, _, Try.underlying200⟩, by intro h; cases h⟩
def i201 : EI := ⟨.func, 1, 8, some [.nilFunc], false⟩
theorem i201_ok : EIok Try.prog 201 i201 := ⟨⟨Try.t201, by kernel_rfl, rfl, rfl, fun z h => by cases h; exact ⟨_, rfl, rfl, allOne rfl, rfl, rfl⟩⟩, ⟨_, _, _, Try.underlying201⟩, by intro h; cases h⟩
def i202 : EI := ⟨.func, 1, 8, some [.nilFunc], false⟩
theorem i202_ok : EIok Try.prog 202 i202 := ⟨⟨Try.t202, by kernel_rfl, rfl, rfl, fun z h => by cases h; exact ⟨_, rfl, rfl, allOne rfl, rfl, rfl⟩⟩, ⟨_, _, _, Try.underlying202⟩, by intro h; cases h⟩
def i203 : EI := ⟨.func, 1, 8, some [.nilFunc], false⟩
theorem i203_ok : EIok Try.prog 203 i203 := ⟨⟨Try.t203, by kernel_rfl, rfl, rfl, fun z h => by cases h; exact ⟨_, rfl, rfl, allOne rfl, rfl, rfl⟩⟩, ⟨_, _, _, Try.underlying203⟩, by intro h; cases h⟩
def i204 : EI := ⟨.func, 1, 8, some [.nilFunc], false⟩
theorem i204_ok : EIok Try.prog 204 i204 := ⟨⟨Try.t204, by kernel_rfl, rfl, rfl, fun z h => by cases h; exact ⟨_, rfl, rfl, allOne rfl, rfl, rfl⟩⟩, ⟨_, _, _, Try.underlying204⟩, by intro h; cases h⟩
def i205 : EI := ⟨.func, 1, 8, some [.nilFunc], false⟩
theorem i205_ok : EIok Try.prog 205 i205 := ⟨⟨Try.t205, by kernel_rfl, rfl, rfl, fun z h => by cases h; exact ⟨_, rfl, rfl, allOne rfl, rfl, rfl⟩⟩, ⟨_, _, _, Try.underlying205⟩, by intro h; cases h⟩
def i206 : EI := ⟨.func, 1, 8, some [.nilFunc], false⟩
theorem i206_ok : EIok Try.prog 206 i206 := ⟨⟨Try.t206, by kernel_rfl, rfl, rfl, fun z h => by cases h; exact ⟨_, rfl, rfl, allOne rfl, rfl, rfl⟩⟩, ⟨_, _, _, Try.underlying206⟩, by intro h; cases h⟩
def i207 : EI := ⟨.func, 1, 8, some [.nilFunc], false⟩
theorem i207_ok : EIok Try.prog 207 i207 := ⟨⟨Try.t207, by kernel_rfl, rfl, rfl, fun z h => by cases h; exact ⟨_, rfl, rfl, allOne rfl, rfl, rfl⟩⟩, ⟨_, _, _, Try.underlying207⟩, by intro h; cases h⟩
def i208 : EI := ⟨.func, 1, 8, some [.nilFunc], false⟩
theorem i208_ok : EIok Try.prog 208 i208 := ⟨⟨Try.t208, by kernel_rfl, rfl, rfl, fun z h => by cases h; exact ⟨_, rfl, rfl, allOne rfl, rfl, rfl⟩⟩, ⟨_, _, _, Try.underlying208⟩, by intro h; cases h⟩
def i209 : EI := ⟨.ptr 194, 1, 8, some [.pointer none], false⟩
theorem i209_ok : EIok Try.prog 209 i209 := ⟨⟨Try.t209, by kernel_rfl, rfl, rfl, fun z h => by cases h; exact ⟨_, rfl, rfl, allOne rfl, rfl, rfl⟩⟩, Try.underlying209, by intro h; cases h⟩
def i210 : EI := ⟨.func, 1, 8, some [.nilFunc], false⟩
theorem i210_ok : EIok Try.prog 210 i210 := ⟨⟨Try.t210, by kernel_rfl, rfl, rfl, fun z h => by cases h; exact ⟨_, rfl, rfl, allOne rfl, rfl, rfl⟩⟩, ⟨_, _, _, Try.underlying210⟩, by intro h; cases h⟩
def i211 : EI := ⟨.func, 1, 8, some [.nilFunc], false⟩
theorem i211_ok : EIok Try.prog 211 i211 := ⟨⟨Try.t211, by kernel_rfl, rfl, rfl, fun z h => by cases h; exact ⟨_, rfl, rfl, allOne rfl, rfl, rfl⟩⟩, ⟨_, _, _, Try.underlying211⟩, by intro h; cases h⟩
def i212 : EI := ⟨.func, 1, 8, some [.nilFunc], false⟩
theorem i212_ok : EIok Try.prog 212 i212 := ⟨⟨Try.t212, by kernel_rfl, rfl, rfl, fun z h => by cases h; exact ⟨_, rfl, rfl, allOne rfl, rfl, rfl⟩⟩, ⟨_, _, _, Try.underlying212⟩, by intro h; cases h⟩
def i213 : EI := ⟨.func, 1, 8, some [.nilFunc], false⟩
theorem i213_ok : EIok Try.prog 213 i213 := ⟨⟨Try.t213, by kernel_rfl, rfl, rfl, fun z h => by cases h; exact ⟨_, rfl, rfl, allOne rfl, rfl, rfl⟩⟩, ⟨_, _, _, Try.underlying213⟩, by intro h; cases h⟩
def i214 : EI := ⟨.func, 1, 8, some [.nilFunc], false⟩
theorem i214_ok : EIok Try.prog 214 i214 := ⟨⟨Try.t214, by kernel_rfl, rfl, rfl, fun z h => by cases h; exact ⟨_, rfl, rfl, allOne rfl, rfl, rfl⟩⟩, ⟨_, _, _, Try.underlying214⟩, by intro h; cases h⟩
def i215 : EI := ⟨.func, 1, 8, some [.nilFunc], false⟩
theorem i215_ok : EIok Try.prog 215 i215 := ⟨⟨Try.t215, by kernel_rfl, rfl, rfl, fun z h => by cases h; exact ⟨_, rfl, rfl, allOne rfl, rfl, rfl⟩⟩, ⟨_, _, _, Try.underlying215⟩, by intro h; cases h⟩
def i216 : EI := ⟨.func, 1, 8, some [.nilFunc], false⟩
theorem i216_ok : EIok Try.prog 216 i216 := ⟨⟨Try.t216, by kernel_rfl, rfl, rfl, fun z h => by cases h; exact ⟨_, rfl, rfl, allOne rfl, rfl, rfl⟩⟩, ⟨_, _, _, Try.underlying216⟩, by intro h; cases h⟩
def i217 : EI := ⟨.func, 1, 8, some [.nilFunc], false⟩
theorem i217_ok : EIok Try.prog 217 i217 := ⟨⟨Try.t217, by kernel_rfl, rfl, rfl, fun z h => by cases h; exact ⟨_, rfl, rfl, allOne rfl, rfl, rfl⟩⟩, ⟨_, _, _, Try.underlying217⟩, by intro h; cases h⟩
def i218 : EI := ⟨.func, 1, 8, some [.nilFunc], false⟩
theorem i218_ok : EIok Try.prog 218 i218 := ⟨⟨Try.t218, by kernel_rfl, rfl, rfl, fun z h => by cases h; exact ⟨_, rfl, rfl, allOne rfl, rfl, rfl⟩⟩, ⟨_, _, _, Try.underlying218⟩, by intro h; cases h⟩
def i219 : EI := ⟨.map 224 3, 1, 8, some [.map none], false⟩
theorem i219_ok : EIok Try.prog 219 i219 := ⟨⟨Try.t219, by kernel_rfl, rfl, rfl, fun z h => by cases h; exact ⟨_, rfl, rfl, allOne rfl, rfl, rfl⟩⟩, Try.underlying219, by intro h; cases h⟩
theorem q220 : EqP Try.prog 220 (repZ 16 [.int .i64 0, .int .i64 0]) true 3 := eqP_array Try.underlying220 q95 ⟨_, (by kernel_rfl : Try.prog.info? 220 = some Try.t220), rfl⟩
def i220 : EI := ⟨.array 16 95, 32, 256, some [.int .i64 0, .int .i64 0, .int .i64 0, .int .i64 0, .int .i64 0, .int .i64 0, .int .i64 0, .int .i64 0, .int .i64 0, .int .i64 0, .int .i64 0, .int .i64 0, .int .i64 0, .int .i64 0, .int .i64 0, .int .i64 0, .int .i64 0, .int .i64 0, .int .i64 0, .int .i64 0, .int .i64 0, .int .i64 0, .int .i64 0, .int .i64 0, .int .i64 0, .int .i64 0, .int .i64 0, .int .i64 0, .int .i64 0, .int .i64 0, .int .i64 0, .int .i64 0], true⟩
theorem i220_ok : EIok Try.prog 220 i220 := ⟨⟨Try.t220, by kernel_rfl, rfl, rfl, fun z h => by cases h; exact ⟨_, rfl, rfl, allOne rfl, rfl, ⟨_, rfl⟩⟩⟩, Try.underlying220, fun _ => eqOk_of q220 rfl rfl (Nat.le_of_ble_eq_true (by kernel_rfl)) (by decide)⟩
theorem q221 : EqP Try.prog 221 (repZ 16 [.int .i64 0, .int .i64 0]) true 3 := eqP_array Try.underlying221 q95 ⟨_, (by kernel_rfl : Try.prog.info? 221 = some Try.t221), rfl⟩
def i221 : EI := ⟨.array 16 95, 32, 256, some [.int .i64 0, .int .i64 0, .int .i64 0, .int .i64 0, .int .i64 0, .int .i64 0, .int .i64 0, .int .i64 0, .int .i64 0, .int .i64 0, .int .i64 0, .int .i64 0, .int .i64 0, .int .i64 0, .int .i64 0, .int .i64 0, .int .i64 0, .int .i64 0, .int .i64 0, .int .i64 0, .int .i64 0, .int .i64 0, .int .i64 0, .int .i64 0, .int .i64 0, .int .i64 0, .int .i64 0, .int .i64 0, .int .i64 0, .int .i64 0, .int .i64 0, .int .i64 0], true⟩
theorem i221_ok : EIok Try.prog 221 i221 := ⟨⟨Try.t221, by kernel_rfl, rfl, rfl, fun z h => by cases h; exact ⟨_, rfl, rfl, allOne rfl, rfl, ⟨_, rfl⟩⟩⟩, Try.underlying221, fun _ => eqOk_of q221 rfl rfl (Nat.le_of_ble_eq_true (by kernel_rfl)) (by decide)⟩
def i222 : EI := ⟨.func, 1, 8, some [.nilFunc], false⟩
theorem i222_ok : EIok Try.prog 222 i222 := ⟨⟨Try.t222, by kernel_rfl, rfl, rfl, fun z h => by cases h; exact ⟨_, rfl, rfl, allOne rfl, rfl, rfl⟩⟩, ⟨_, _, _, Try.underlying222⟩, by intro h; cases h⟩
theorem q223 : EqP Try.prog 223 (flatZ [([.int .i64 0], false), ([.int .i64 0, .int .i64 0, .int .i64 0, .int .i64 0, .int .i64 0, .int .i64 0, .int .i64 0, .int .i64 0, .int .i64 0, .int .i64 0, .int .i64 0, .int .i64 0, .int .i64 0, .int .i64 0, .int .i64 0, .int .i64 0, .int .i64 0, .int .i64 0, .int .i64 0, .int .i64 0, .int .i64 0, .int .i64 0, .int .i64 0, .int .i64 0, .int .i64 0, .int .i64 0, .int .i64 0, .int .i64 0, .int .i64 0, .int .i64 0, .int .i64 0, .int .i64 0], true)]) true 4 := eqP_struct Try.underlying223 (by kernel_rfl) ⟨_, (by kernel_rfl : Try.prog.info? 223 = some Try.t223), rfl⟩ (by decide) (FieldsOk.cons (by decide) rfl (q3.mono (by decide)) (FieldsOk.cons (by decide) rfl (q221.mono (by decide)) (FieldsOk.nil)))
def i223 : EI := ⟨.struct [(0, 3), (1, 221)], 33, 264, some [.int .i64 0, .int .i64 0, .int .i64 0, .int .i64 0, .int .i64 0, .int .i64 0, .int .i64 0, .int .i64 0, .int .i64 0, .int .i64 0, .int .i64 0, .int .i64 0, .int .i64 0, .int .i64 0, .int .i64 0, .int .i64 0, .int .i64 0, .int .i64 0, .int .i64 0, .int .i64 0, .int .i64 0, .int .i64 0, .int .i64 0, .int .i64 0, .int .i64 0, .int .i64 0, .int .i64 0, .int .i64 0, .int .i64 0, .int .i64 0, .int .i64 0, .int .i64 0, .int .i64 0], true⟩
theorem i223_ok : EIok Try.prog 223 i223 := ⟨⟨Try.t223, by kernel_rfl, rfl, rfl, fun z h => by cases h; exact ⟨_, rfl, rfl, allOne rfl, rfl, ⟨_, rfl⟩⟩⟩, ⟨_, Try.underlying223, by kernel_rfl, by
    intro f hf
    simp only [List.mem_cons, List.not_mem_nil, or_false] at hf
    rcases hf with rfl | rfl
    · exact ⟨Try.t3, by kernel_rfl⟩
    · exact ⟨Try.t221, by kernel_rfl⟩⟩, fun _ => eqOk_of q223 rfl rfl (Nat.le_of_ble_eq_true (by kernel_rfl)) (by decide)⟩
theorem q224 : EqP Try.prog 224 (flatZ [([.int .i64 0], false), ([.int .i64 0, .int .i64 0, .int .i64 0, .int .i64 0, .int .i64 0, .int .i64 0, .int .i64 0, .int .i64 0, .int .i64 0, .int .i64 0, .int .i64 0, .int .i64 0, .int .i64 0, .int .i64 0, .int .i64 0, .int .i64 0, .int .i64 0, .int .i64 0, .int .i64 0, .int .i64 0, .int .i64 0, .int .i64 0, .int .i64 0, .int .i64 0, .int .i64 0, .int .i64 0, .int .i64 0, .int .i64 0, .int .i64 0, .int .i64 0, .int .i64 0, .int .i64 0], true)]) true 4 := eqP_struct Try.underlying224 (by kernel_rfl) ⟨_, (by kernel_rfl : Try.prog.info? 224 = some Try.t224), rfl⟩ (by decide) (FieldsOk.cons (by decide) rfl (q3.mono (by decide)) (FieldsOk.cons (by decide) rfl (q221.mono (by decide)) (FieldsOk.nil)))
def i224 : EI := ⟨.struct [(0, 3), (1, 221)], 33, 264, some [.int .i64 0, .int .i64 0, .int .i64 0, .int .i64 0, .int .i64 0, .int .i64 0, .int .i64 0, .int .i64 0, .int .i64 0, .int .i64 0, .int .i64 0, .int .i64 0, .int .i64 0, .int .i64 0, .int .i64 0, .int .i64 0, .int .i64 0, .int .i64 0, .int .i64 0, .int .i64 0, .int .i64 0, .int .i64 0, .int .i64 0, .int .i64 0, .int .i64 0, .int .i64 0, .int .i64 0, .int .i64 0, .int .i64 0, .int .i64 0, .int .i64 0, .int .i64 0, .int .i64 0], true⟩
theorem i224_ok : EIok Try.prog 224 i224 := ⟨⟨Try.t224, by kernel_rfl, rfl, rfl, fun z h => by cases h; exact ⟨_, rfl, rfl, allOne rfl, rfl, ⟨_, rfl⟩⟩⟩, ⟨_, Try.underlying224, by kernel_rfl, by
    intro f hf
    simp only [List.mem_cons, List.not_mem_nil, or_false] at hf
    rcases hf with rfl | rfl
    · exact ⟨Try.t3, by kernel_rfl⟩
    · exact ⟨Try.t221, by kernel_rfl⟩⟩, fun _ => eqOk_of q224 rfl rfl (Nat.le_of_ble_eq_true (by kernel_rfl)) (by decide)⟩
def i225 : EI := ⟨.func, 1, 8, some [.nilFunc], false⟩
theorem i225_ok : EIok Try.prog 225 i225 := ⟨⟨Try.t225, by kernel_rfl, rfl, rfl, fun z h => by cases h; exact ⟨_, rfl, rfl, allOne rfl, rfl, rfl⟩⟩, ⟨_, _, _, Try.underlying225⟩, by intro h; cases h⟩
def i234 : EI := ⟨.ptr 5, 1, 8, some [.pointer none], false⟩
theorem i234_ok : EIok Try.prog 234 i234 := ⟨⟨Try.t234, by kernel_rfl, rfl, rfl, fun z h => by cases h; exact ⟨_, rfl, rfl, allOne rfl, rfl, rfl⟩⟩, Try.underlying234, by intro h; cases h⟩

def etT : TrT EI := .node none (.node (some i1) (.node (some i3) (.node none (.node none (.node (some i31) (.node (some i63) (.node (some i127) (.nil) (.nil)) (.nil)) (.node (some i95) (.node (some i159) (.nil) (.nil)) (.node (some i223) (.nil) (.nil)))) (.node (some i47) (.node (some i79) (.node (some i143) (.nil) (.nil)) (.node (some i207) (.nil) (.nil))) (.node (some i111) (.nil) (.nil)))) (.node (some i23) (.node (some i39) (.node (some i71) (.node (some i135) (.nil) (.nil)) (.node (some i199) (.nil) (.nil))) (.node (some i103) (.node (some i167) (.nil) (.nil)) (.nil))) (.node (some i55) (.node (some i87) (.node (some i151) (.nil) (.nil)) (.node (some i215) (.nil) (.nil))) (.node none (.node (some i183) (.nil) (.nil)) (.nil))))) (.node none (.node none (.node (some i35) (.node (some i67) (.node (some i131) (.nil) (.nil)) (.node (some i195) (.nil) (.nil))) (.node (some i99) (.node (some i163) (.nil) (.nil)) (.nil))) (.node (some i51) (.node (some i83) (.node (some i147) (.nil) (.nil)) (.node (some i211) (.nil) (.nil))) (.node (some i115) (.nil) (.nil)))) (.node (some i27) (.node none (.node (some i75) (.node (some i139) (.nil) (.nil)) (.node (some i203) (.nil) (.nil))) (.node (some i107) (.nil) (.nil))) (.node (some i59) (.node (some i91) (.node (some i155) (.nil) (.nil)) (.node (some i219) (.nil) (.nil))) (.node (some i123) (.node (some i187) (.nil) (.nil)) (.nil)))))) (.node (some i5) (.node (some i9) (.node none (.node (some i33) (.node (some i65) (.node (some i129) (.nil) (.nil)) (.node (some i193) (.nil) (.nil))) (.node (some i97) (.node (some i161) (.nil) (.nil)) (.node (some i225) (.nil) (.nil)))) (.node (some i49) (.node (some i81) (.node (some i145) (.nil) (.nil)) (.node (some i209) (.nil) (.nil))) (.node (some i113) (.node (some i177) (.nil) (.nil)) (.nil)))) (.node (some i25) (.node none (.node (some i73) (.node (some i137) (.nil) (.nil)) (.node (some i201) (.nil) (.nil))) (.node (some i105) (.node (some i169) (.nil) (.nil)) (.nil))) (.node (some i57) (.node (some i89) (.node (some i153) (.nil) (.nil)) (.node (some i217) (.nil) (.nil))) (.node (some i121) (.node (some i185) (.nil) (.nil)) (.nil))))) (.node (some i13) (.node (some i21) (.node (some i37) (.node (some i69) (.node (some i133) (.nil) (.nil)) (.node (some i197) (.nil) (.nil))) (.node (some i101) (.node (some i165) (.nil) (.nil)) (.nil))) (.node (some i53) (.node (some i85) (.node (some i149) (.nil) (.nil)) (.node (some i213) (.nil) (.nil))) (.node (some i117) (.node (some i181) (.nil) (.nil)) (.nil)))) (.node (some i29) (.node (some i45) (.node (some i77) (.node (some i141) (.nil) (.nil)) (.node (some i205) (.nil) (.nil))) (.node (some i109) (.node (some i173) (.nil) (.nil)) (.nil))) (.node none (.node (some i93) (.node (some i157) (.nil) (.nil)) (.node (some i221) (.nil) (.nil))) (.node (some i125) (.node (some i189) (.nil) (.nil)) (.nil))))))) (.node (some i2) (.node (some i4) (.node none (.node none (.node (some i32) (.node (some i64) (.node (some i128) (.nil) (.nil)) (.node (some i192) (.nil) (.nil))) (.node (some i96) (.node (some i160) (.nil) (.nil)) (.node (some i224) (.nil) (.nil)))) (.node (some i48) (.node (some i80) (.node (some i144) (.nil) (.nil)) (.node (some i208) (.nil) (.nil))) (.node (some i112) (.node (some i176) (.nil) (.nil)) (.nil)))) (.node (some i24) (.node (some i40) (.node none (.node (some i136) (.nil) (.nil)) (.node (some i200) (.nil) (.nil))) (.node (some i104) (.node (some i168) (.nil) (.nil)) (.nil))) (.node (some i56) (.node (some i88) (.node (some i152) (.nil) (.nil)) (.node (some i216) (.nil) (.nil))) (.node (some i120) (.node (some i184) (.nil) (.nil)) (.nil))))) (.node (some i12) (.node (some i20) (.node (some i36) (.node (some i68) (.node (some i132) (.nil) (.nil)) (.node (some i196) (.nil) (.nil))) (.node (some i100) (.node (some i164) (.nil) (.nil)) (.nil))) (.node (some i52) (.node (some i84) (.node (some i148) (.nil) (.nil)) (.node (some i212) (.nil) (.nil))) (.node (some i116) (.node (some i180) (.nil) (.nil)) (.nil)))) (.node (some i28) (.node (some i44) (.node (some i76) (.node (some i140) (.nil) (.nil)) (.node (some i204) (.nil) (.nil))) (.node (some i108) (.node (some i172) (.nil) (.nil)) (.nil))) (.node (some i60) (.node (some i92) (.node (some i156) (.nil) (.nil)) (.node (some i220) (.nil) (.nil))) (.node (some i124) (.node (some i188) (.nil) (.nil)) (.nil)))))) (.node none (.node none (.node none (.node (some i34) (.node (some i66) (.node (some i130) (.nil) (.nil)) (.node (some i194) (.nil) (.nil))) (.node (some i98) (.node (some i162) (.nil) (.nil)) (.nil))) (.node (some i50) (.node none (.node (some i146) (.nil) (.nil)) (.node (some i210) (.nil) (.nil))) (.node (some i114) (.node (some i178) (.nil) (.nil)) (.nil)))) (.node (some i26) (.node (some i42) (.node none (.node (some i138) (.nil) (.nil)) (.node (some i202) (.nil) (.nil))) (.node (some i106) (.node (some i170) (.nil) (.nil)) (.node (some i234) (.nil) (.nil)))) (.node none (.node none (.node (some i154) (.nil) (.nil)) (.node (some i218) (.nil) (.nil))) (.node (some i122) (.node (some i186) (.nil) (.nil)) (.nil))))) (.node none (.node (some i22) (.node (some i38) (.node none (.node (some i134) (.nil) (.nil)) (.node (some i198) (.nil) (.nil))) (.node (some i102) (.node (some i166) (.nil) (.nil)) (.nil))) (.node (some i54) (.node (some i86) (.node (some i150) (.nil) (.nil)) (.node (some i214) (.nil) (.nil))) (.node (some i118) (.node (some i182) (.nil) (.nil)) (.nil)))) (.node (some i30) (.node none (.node (some i78) (.node (some i142) (.nil) (.nil)) (.node (some i206) (.nil) (.nil))) (.node (some i110) (.node (some i174) (.nil) (.nil)) (.nil))) (.node (some i62) (.node (some i94) (.node (some i158) (.nil) (.nil)) (.node (some i222) (.nil) (.nil))) (.node (some i126) (.node (some i190) (.nil) (.nil)) (.nil)))))))
noncomputable def ETab : ET := fun t => etT.get t
theorem etT_ok : etT.All (EIok Try.prog) (fun k => k) := .none (.some i1_ok (.some i3_ok (.none (.none (.some i31_ok (.some i63_ok (.some i127_ok (.nil) (.nil)) (.nil)) (.some i95_ok (.some i159_ok (.nil) (.nil)) (.some i223_ok (.nil) (.nil)))) (.some i47_ok (.some i79_ok (.some i143_ok (.nil) (.nil)) (.some i207_ok (.nil) (.nil))) (.some i111_ok (.nil) (.nil)))) (.some i23_ok (.some i39_ok (.some i71_ok (.some i135_ok (.nil) (.nil)) (.some i199_ok (.nil) (.nil))) (.some i103_ok (.some i167_ok (.nil) (.nil)) (.nil))) (.some i55_ok (.some i87_ok (.some i151_ok (.nil) (.nil)) (.some i215_ok (.nil) (.nil))) (.none (.some i183_ok (.nil) (.nil)) (.nil))))) (.none (.none (.some i35_ok (.some i67_ok (.some i131_ok (.nil) (.nil)) (.some i195_ok (.nil) (.nil))) (.some i99_ok (.some i163_ok (.nil) (.nil)) (.nil))) (.some i51_ok (.some i83_ok (.some i147_ok (.nil) (.nil)) (.some i211_ok (.nil) (.nil))) (.some i115_ok (.nil) (.nil)))) (.some i27_ok (.none (.some i75_ok (.some i139_ok (.nil) (.nil)) (.some i203_ok (.nil) (.nil))) (.some i107_ok (.nil) (.nil))) (.some i59_ok (.some i91_ok (.some i155_ok (.nil) (.nil)) (.some i219_ok (.nil) (.nil))) (.some i123_ok (.some i187_ok (.nil) (.nil)) (.nil)))))) (.some i5_ok (.some i9_ok (.none (.some i33_ok (.some i65_ok (.some i129_ok (.nil) (.nil)) (.some i193_ok (.nil) (.nil))) (.some i97_ok (.some i161_ok (.nil) (.nil)) (.some i225_ok (.nil) (.nil)))) (.some i49_ok (.some i81_ok (.some i145_ok (.nil) (.nil)) (.some i209_ok (.nil) (.nil))) (.some i113_ok (.some i177_ok (.nil) (.nil)) (.nil)))) (.some i25_ok (.none (.some i73_ok (.some i137_ok (.nil) (.nil)) (.some i201_ok (.nil) (.nil))) (.some i105_ok (.some i169_ok (.nil) (.nil)) (.nil))) (.some i57_ok (.some i89_ok (.some i153_ok (.nil) (.nil)) (.some i217_ok (.nil) (.nil))) (.some i121_ok (.some i185_ok (.nil) (.nil)) (.nil))))) (.some i13_ok (.some i21_ok (.some i37_ok (.some i69_ok (.some i133_ok (.nil) (.nil)) (.some i197_ok (.nil) (.nil))) (.some i101_ok (.some i165_ok (.nil) (.nil)) (.nil))) (.some i53_ok (.some i85_ok (.some i149_ok (.nil) (.nil)) (.some i213_ok (.nil) (.nil))) (.some i117_ok (.some i181_ok (.nil) (.nil)) (.nil)))) (.some i29_ok (.some i45_ok (.some i77_ok (.some i141_ok (.nil) (.nil)) (.some i205_ok (.nil) (.nil))) (.some i109_ok (.some i173_ok (.nil) (.nil)) (.nil))) (.none (.some i93_ok (.some i157_ok (.nil) (.nil)) (.some i221_ok (.nil) (.nil))) (.some i125_ok (.some i189_ok (.nil) (.nil)) (.nil))))))) (.some i2_ok (.some i4_ok (.none (.none (.some i32_ok (.some i64_ok (.some i128_ok (.nil) (.nil)) (.some i192_ok (.nil) (.nil))) (.some i96_ok (.some i160_ok (.nil) (.nil)) (.some i224_ok (.nil) (.nil)))) (.some i48_ok (.some i80_ok (.some i144_ok (.nil) (.nil)) (.some i208_ok (.nil) (.nil))) (.some i112_ok (.some i176_ok (.nil) (.nil)) (.nil)))) (.some i24_ok (.some i40_ok (.none (.some i136_ok (.nil) (.nil)) (.some i200_ok (.nil) (.nil))) (.some i104_ok (.some i168_ok (.nil) (.nil)) (.nil))) (.some i56_ok (.some i88_ok (.some i152_ok (.nil) (.nil)) (.some i216_ok (.nil) (.nil))) (.some i120_ok (.some i184_ok (.nil) (.nil)) (.nil))))) (.some i12_ok (.some i20_ok (.some i36_ok (.some i68_ok (.some i132_ok (.nil) (.nil)) (.some i196_ok (.nil) (.nil))) (.some i100_ok (.some i164_ok (.nil) (.nil)) (.nil))) (.some i52_ok (.some i84_ok (.some i148_ok (.nil) (.nil)) (.some i212_ok (.nil) (.nil))) (.some i116_ok (.some i180_ok (.nil) (.nil)) (.nil)))) (.some i28_ok (.some i44_ok (.some i76_ok (.some i140_ok (.nil) (.nil)) (.some i204_ok (.nil) (.nil))) (.some i108_ok (.some i172_ok (.nil) (.nil)) (.nil))) (.some i60_ok (.some i92_ok (.some i156_ok (.nil) (.nil)) (.some i220_ok (.nil) (.nil))) (.some i124_ok (.some i188_ok (.nil) (.nil)) (.nil)))))) (.none (.none (.none (.some i34_ok (.some i66_ok (.some i130_ok (.nil) (.nil)) (.some i194_ok (.nil) (.nil))) (.some i98_ok (.some i162_ok (.nil) (.nil)) (.nil))) (.some i50_ok (.none (.some i146_ok (.nil) (.nil)) (.some i210_ok (.nil) (.nil))) (.some i114_ok (.some i178_ok (.nil) (.nil)) (.nil)))) (.some i26_ok (.some i42_ok (.none (.some i138_ok (.nil) (.nil)) (.some i202_ok (.nil) (.nil))) (.some i106_ok (.some i170_ok (.nil) (.nil)) (.some i234_ok (.nil) (.nil)))) (.none (.none (.some i154_ok (.nil) (.nil)) (.some i218_ok (.nil) (.nil))) (.some i122_ok (.some i186_ok (.nil) (.nil)) (.nil))))) (.none (.some i22_ok (.some i38_ok (.none (.some i134_ok (.nil) (.nil)) (.some i198_ok (.nil) (.nil))) (.some i102_ok (.some i166_ok (.nil) (.nil)) (.nil))) (.some i54_ok (.some i86_ok (.some i150_ok (.nil) (.nil)) (.some i214_ok (.nil) (.nil))) (.some i118_ok (.some i182_ok (.nil) (.nil)) (.nil)))) (.some i30_ok (.none (.some i78_ok (.some i142_ok (.nil) (.nil)) (.some i206_ok (.nil) (.nil))) (.some i110_ok (.some i174_ok (.nil) (.nil)) (.nil))) (.some i62_ok (.some i94_ok (.some i158_ok (.nil) (.nil)) (.some i222_ok (.nil) (.nil))) (.some i126_ok (.some i190_ok (.nil) (.nil)) (.nil)))))))
theorem ETab_ok : ETok Try.prog ETab := fun t _ h => etT_ok.get t h

end Go.Ex
