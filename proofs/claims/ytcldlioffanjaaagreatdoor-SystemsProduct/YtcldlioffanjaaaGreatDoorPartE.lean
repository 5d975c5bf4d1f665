/- -/
import Derived.Test.YtcldlioffanjaaaGreatDoorPartB
import Derived.Test.YtcldlioffanjaaaGreatDoorProg
import Derived.Test.YtcldlioffanjaaaGreatDoorChecked
import Derived.Test.YtcldlioffanjaaaGreatDoorPartD
import Derived.LaidEql
import Derived.Stop.Asserts
import Derived.RowKitTokens
import Derived.Test.YtcldlioffanjaaaGreatDoorPartC
import Derived.Shelf.SlSortCmp.NoneTotal
import Derived.Ground.SlsfProg
set_option linter.unusedVariables false
set_option linter.unusedSimpArgs false
namespace Go.Ex
open Go.Proofs
theorem q5 : EqP Tryz.prog 5 [.int .u8 0] false 1 := z4b (k := .int .u8) Tryz.underlying5 ⟨_,(by kernel_rfl : Tryz.prog.info? 5 = some Tryz.t5),rfl⟩ rfl
theorem q22 : EqP Tryz.prog 22 (z4D 2 [.int .u8 0]) true 2 := Uk Tryz.underlying22 q5 ⟨_,(by kernel_rfl : Tryz.prog.info? 22 = some Tryz.t22),rfl⟩
def i22 : EI := ⟨.array 2 5,2,2,some [.int .u8 0,.int .u8 0],true⟩
theorem zc9 : z1k Tryz.prog 22 i22 := ⟨⟨Tryz.t22,by kernel_rfl,rfl,rfl,fun z h => by cases h; exact ⟨_,rfl,rfl,kE rfl,rfl,⟨_,rfl⟩⟩⟩,Tryz.underlying22,fun _ => qn q22 rfl rfl (Nat.le_of_ble_eq_true (by kernel_rfl)) (by decide)⟩
theorem q3 : EqP Tryz.prog 3 [.int .i64 0] false 1 := z4b (k := .int .i64) Tryz.underlying3 ⟨_,(by kernel_rfl : Tryz.prog.info? 3 = some Tryz.t3),rfl⟩ rfl
theorem q60 : EqP Tryz.prog 60 (kB [([.int .u8 0],false),([.int .i64 0],false),([.int .i64 0],false)]) true 2 := wM Tryz.underlying60 (by kernel_rfl) ⟨_,(by kernel_rfl : Tryz.prog.info? 60 = some Tryz.t60),rfl⟩ (by decide) (zD.cons (by decide) rfl (q5.mono (by decide)) (zD.cons (by decide) rfl (q3.mono (by decide)) (zD.cons (by decide) rfl (q3.mono (by decide)) (zD.nil))))
def i60 : EI := ⟨.struct [(0,5),(1,3),(2,3)],3,24,some [.int .u8 0,.int .i64 0,.int .i64 0],true⟩
theorem zgy : z1k Tryz.prog 60 i60 := ⟨⟨Tryz.t60,by kernel_rfl,rfl,rfl,fun z h => by cases h; exact ⟨_,rfl,rfl,kE rfl,rfl,⟨_,rfl⟩⟩⟩,⟨_,Tryz.underlying60,by kernel_rfl,by
  intro f hf
  simp only [List.mem_cons,List.not_mem_nil,or_false] at hf
  rcases hf with rfl | rfl | rfl
  ·exact ⟨Tryz.t5,by kernel_rfl⟩
  ·exact ⟨Tryz.t3,by kernel_rfl⟩
  ·exact ⟨Tryz.t3,by kernel_rfl⟩⟩,fun _ => qn q60 rfl rfl (Nat.le_of_ble_eq_true (by kernel_rfl)) (by decide)⟩
theorem q61 : EqP Tryz.prog 61 (kB [([.int .u8 0],false),([.int .i64 0],false),([.int .i64 0],false)]) true 2 := wM Tryz.underlying61 (by kernel_rfl) ⟨_,(by kernel_rfl : Tryz.prog.info? 61 = some Tryz.t61),rfl⟩ (by decide) (zD.cons (by decide) rfl (q5.mono (by decide)) (zD.cons (by decide) rfl (q3.mono (by decide)) (zD.cons (by decide) rfl (q3.mono (by decide)) (zD.nil))))
def i61 : EI := ⟨.struct [(0,5),(1,3),(2,3)],3,24,some [.int .u8 0,.int .i64 0,.int .i64 0],true⟩
theorem zc8 : z1k Tryz.prog 61 i61 := ⟨⟨Tryz.t61,by kernel_rfl,rfl,rfl,fun z h => by cases h; exact ⟨_,rfl,rfl,kE rfl,rfl,⟨_,rfl⟩⟩⟩,⟨_,Tryz.underlying61,by kernel_rfl,by
  intro f hf
  simp only [List.mem_cons,List.not_mem_nil,or_false] at hf
  rcases hf with rfl | rfl | rfl
  ·exact ⟨Tryz.t5,by kernel_rfl⟩
  ·exact ⟨Tryz.t3,by kernel_rfl⟩
  ·exact ⟨Tryz.t3,by kernel_rfl⟩⟩,fun _ => qn q61 rfl rfl (Nat.le_of_ble_eq_true (by kernel_rfl)) (by decide)⟩
theorem q64 : EqP Tryz.prog 64 (kB [([.int .i64 0],false),([.int .i64 0],false),([.int .i64 0],false),([.int .i64 0],false)]) true 2 := wM Tryz.underlying64 (by kernel_rfl) ⟨_,(by kernel_rfl : Tryz.prog.info? 64 = some Tryz.t64),rfl⟩ (by decide) (zD.cons (by decide) rfl (q3.mono (by decide)) (zD.cons (by decide) rfl (q3.mono (by decide)) (zD.cons (by decide) rfl (q3.mono (by decide)) (zD.cons (by decide) rfl (q3.mono (by decide)) (zD.nil)))))
def i64 : EI := ⟨.struct [(0,3),(1,3),(2,3),(3,3)],4,32,some [.int .i64 0,.int .i64 0,.int .i64 0,.int .i64 0],true⟩
theorem zgx : z1k Tryz.prog 64 i64 := ⟨⟨Tryz.t64,by kernel_rfl,rfl,rfl,fun z h => by cases h; exact ⟨_,rfl,rfl,kE rfl,rfl,⟨_,rfl⟩⟩⟩,⟨_,Tryz.underlying64,by kernel_rfl,by
  intro f hf
  simp only [List.mem_cons,List.not_mem_nil,or_false] at hf
  rcases hf with rfl | rfl | rfl | rfl
  ·exact ⟨Tryz.t3,by kernel_rfl⟩
  ·exact ⟨Tryz.t3,by kernel_rfl⟩
  ·exact ⟨Tryz.t3,by kernel_rfl⟩
  ·exact ⟨Tryz.t3,by kernel_rfl⟩⟩,fun _ => qn q64 rfl rfl (Nat.le_of_ble_eq_true (by kernel_rfl)) (by decide)⟩
theorem q65 : EqP Tryz.prog 65 (kB [([.int .i64 0],false),([.int .i64 0],false),([.int .i64 0],false),([.int .i64 0],false)]) true 2 := wM Tryz.underlying65 (by kernel_rfl) ⟨_,(by kernel_rfl : Tryz.prog.info? 65 = some Tryz.t65),rfl⟩ (by decide) (zD.cons (by decide) rfl (q3.mono (by decide)) (zD.cons (by decide) rfl (q3.mono (by decide)) (zD.cons (by decide) rfl (q3.mono (by decide)) (zD.cons (by decide) rfl (q3.mono (by decide)) (zD.nil)))))
def i65 : EI := ⟨.struct [(0,3),(1,3),(2,3),(3,3)],4,32,some [.int .i64 0,.int .i64 0,.int .i64 0,.int .i64 0],true⟩
theorem zc7 : z1k Tryz.prog 65 i65 := ⟨⟨Tryz.t65,by kernel_rfl,rfl,rfl,fun z h => by cases h; exact ⟨_,rfl,rfl,kE rfl,rfl,⟨_,rfl⟩⟩⟩,⟨_,Tryz.underlying65,by kernel_rfl,by
  intro f hf
  simp only [List.mem_cons,List.not_mem_nil,or_false] at hf
  rcases hf with rfl | rfl | rfl | rfl
  ·exact ⟨Tryz.t3,by kernel_rfl⟩
  ·exact ⟨Tryz.t3,by kernel_rfl⟩
  ·exact ⟨Tryz.t3,by kernel_rfl⟩
  ·exact ⟨Tryz.t3,by kernel_rfl⟩⟩,fun _ => qn q65 rfl rfl (Nat.le_of_ble_eq_true (by kernel_rfl)) (by decide)⟩
theorem q96 : EqP Tryz.prog 96 (z4D 5 [.int .u8 0]) true 2 := Uk Tryz.underlying96 q5 ⟨_,(by kernel_rfl : Tryz.prog.info? 96 = some Tryz.t96),rfl⟩
def i96 : EI := ⟨.array 5 5,5,5,some [.int .u8 0,.int .u8 0,.int .u8 0,.int .u8 0,.int .u8 0],true⟩
theorem zc6 : z1k Tryz.prog 96 i96 := ⟨⟨Tryz.t96,by kernel_rfl,rfl,rfl,fun z h => by cases h; exact ⟨_,rfl,rfl,kE rfl,rfl,⟨_,rfl⟩⟩⟩,Tryz.underlying96,fun _ => qn q96 rfl rfl (Nat.le_of_ble_eq_true (by kernel_rfl)) (by decide)⟩
theorem q97 : EqP Tryz.prog 97 (kB [([.int .i64 0],false),([.int .u8 0],false),([.int .i64 0],false),([.int .i64 0],false),([.int .i64 0],false)]) true 2 := wM Tryz.underlying97 (by kernel_rfl) ⟨_,(by kernel_rfl : Tryz.prog.info? 97 = some Tryz.t97),rfl⟩ (by decide) (zD.cons (by decide) rfl (q3.mono (by decide)) (zD.cons (by decide) rfl (q5.mono (by decide)) (zD.cons (by decide) rfl (q3.mono (by decide)) (zD.cons (by decide) rfl (q3.mono (by decide)) (zD.cons (by decide) rfl (q3.mono (by decide)) (zD.nil))))))
def i97 : EI := ⟨.struct [(0,3),(1,5),(2,3),(3,3),(4,3)],5,40,some [.int .i64 0,.int .u8 0,.int .i64 0,.int .i64 0,.int .i64 0],true⟩
theorem zgw : z1k Tryz.prog 97 i97 := ⟨⟨Tryz.t97,by kernel_rfl,rfl,rfl,fun z h => by cases h; exact ⟨_,rfl,rfl,kE rfl,rfl,⟨_,rfl⟩⟩⟩,⟨_,Tryz.underlying97,by kernel_rfl,by
  intro f hf
  simp only [List.mem_cons,List.not_mem_nil,or_false] at hf
  rcases hf with rfl | rfl | rfl | rfl | rfl
  ·exact ⟨Tryz.t3,by kernel_rfl⟩
  ·exact ⟨Tryz.t5,by kernel_rfl⟩
  ·exact ⟨Tryz.t3,by kernel_rfl⟩
  ·exact ⟨Tryz.t3,by kernel_rfl⟩
  ·exact ⟨Tryz.t3,by kernel_rfl⟩⟩,fun _ => qn q97 rfl rfl (Nat.le_of_ble_eq_true (by kernel_rfl)) (by decide)⟩
theorem q98 : EqP Tryz.prog 98 (kB [([.int .i64 0],false),([.int .u8 0],false),([.int .i64 0],false),([.int .i64 0],false),([.int .i64 0],false)]) true 2 := wM Tryz.underlying98 (by kernel_rfl) ⟨_,(by kernel_rfl : Tryz.prog.info? 98 = some Tryz.t98),rfl⟩ (by decide) (zD.cons (by decide) rfl (q3.mono (by decide)) (zD.cons (by decide) rfl (q5.mono (by decide)) (zD.cons (by decide) rfl (q3.mono (by decide)) (zD.cons (by decide) rfl (q3.mono (by decide)) (zD.cons (by decide) rfl (q3.mono (by decide)) (zD.nil))))))
def i98 : EI := ⟨.struct [(0,3),(1,5),(2,3),(3,3),(4,3)],5,40,some [.int .i64 0,.int .u8 0,.int .i64 0,.int .i64 0,.int .i64 0],true⟩
theorem zc5 : z1k Tryz.prog 98 i98 := ⟨⟨Tryz.t98,by kernel_rfl,rfl,rfl,fun z h => by cases h; exact ⟨_,rfl,rfl,kE rfl,rfl,⟨_,rfl⟩⟩⟩,⟨_,Tryz.underlying98,by kernel_rfl,by
  intro f hf
  simp only [List.mem_cons,List.not_mem_nil,or_false] at hf
  rcases hf with rfl | rfl | rfl | rfl | rfl
  ·exact ⟨Tryz.t3,by kernel_rfl⟩
  ·exact ⟨Tryz.t5,by kernel_rfl⟩
  ·exact ⟨Tryz.t3,by kernel_rfl⟩
  ·exact ⟨Tryz.t3,by kernel_rfl⟩
  ·exact ⟨Tryz.t3,by kernel_rfl⟩⟩,fun _ => qn q98 rfl rfl (Nat.le_of_ble_eq_true (by kernel_rfl)) (by decide)⟩
theorem q99 : EqP Tryz.prog 99 (kB [([.int .i64 0,.int .i64 0,.int .i64 0,.int .i64 0],true),([.int .i64 0],false)]) true 3 := wM Tryz.underlying99 (by kernel_rfl) ⟨_,(by kernel_rfl : Tryz.prog.info? 99 = some Tryz.t99),rfl⟩ (by decide) (zD.cons (by decide) rfl (q65.mono (by decide)) (zD.cons (by decide) rfl (q3.mono (by decide)) (zD.nil)))
def i99 : EI := ⟨.struct [(0,65),(4,3)],5,40,some [.int .i64 0,.int .i64 0,.int .i64 0,.int .i64 0,.int .i64 0],true⟩
theorem zgv : z1k Tryz.prog 99 i99 := ⟨⟨Tryz.t99,by kernel_rfl,rfl,rfl,fun z h => by cases h; exact ⟨_,rfl,rfl,kE rfl,rfl,⟨_,rfl⟩⟩⟩,⟨_,Tryz.underlying99,by kernel_rfl,by
  intro f hf
  simp only [List.mem_cons,List.not_mem_nil,or_false] at hf
  rcases hf with rfl | rfl
  ·exact ⟨Tryz.t65,by kernel_rfl⟩
  ·exact ⟨Tryz.t3,by kernel_rfl⟩⟩,fun _ => qn q99 rfl rfl (Nat.le_of_ble_eq_true (by kernel_rfl)) (by decide)⟩
theorem zhl : EqP Tryz.prog 100 (kB [([.int .i64 0,.int .i64 0,.int .i64 0,.int .i64 0],true),([.int .i64 0],false)]) true 3 := wM Tryz.underlying100 (by kernel_rfl) ⟨_,(by kernel_rfl : Tryz.prog.info? 100 = some Tryz.t100),rfl⟩ (by decide) (zD.cons (by decide) rfl (q65.mono (by decide)) (zD.cons (by decide) rfl (q3.mono (by decide)) (zD.nil)))
def zhx : EI := ⟨.struct [(0,65),(4,3)],5,40,some [.int .i64 0,.int .i64 0,.int .i64 0,.int .i64 0,.int .i64 0],true⟩
theorem zao : z1k Tryz.prog 100 zhx := ⟨⟨Tryz.t100,by kernel_rfl,rfl,rfl,fun z h => by cases h; exact ⟨_,rfl,rfl,kE rfl,rfl,⟨_,rfl⟩⟩⟩,⟨_,Tryz.underlying100,by kernel_rfl,by
  intro f hf
  simp only [List.mem_cons,List.not_mem_nil,or_false] at hf
  rcases hf with rfl | rfl
  ·exact ⟨Tryz.t65,by kernel_rfl⟩
  ·exact ⟨Tryz.t3,by kernel_rfl⟩⟩,fun _ => qn zhl rfl rfl (Nat.le_of_ble_eq_true (by kernel_rfl)) (by decide)⟩
theorem zhk : EqP Tryz.prog 107 (kB [([.int .i64 0],false),([.int .i64 0,.int .i64 0,.int .i64 0,.int .i64 0],true)]) true 3 := wM Tryz.underlying107 (by kernel_rfl) ⟨_,(by kernel_rfl : Tryz.prog.info? 107 = some Tryz.t107),rfl⟩ (by decide) (zD.cons (by decide) rfl (q3.mono (by decide)) (zD.cons (by decide) rfl (q65.mono (by decide)) (zD.nil)))
def zhw : EI := ⟨.struct [(0,3),(1,65)],5,40,some [.int .i64 0,.int .i64 0,.int .i64 0,.int .i64 0,.int .i64 0],true⟩
theorem zeI : z1k Tryz.prog 107 zhw := ⟨⟨Tryz.t107,by kernel_rfl,rfl,rfl,fun z h => by cases h; exact ⟨_,rfl,rfl,kE rfl,rfl,⟨_,rfl⟩⟩⟩,⟨_,Tryz.underlying107,by kernel_rfl,by
  intro f hf
  simp only [List.mem_cons,List.not_mem_nil,or_false] at hf
  rcases hf with rfl | rfl
  ·exact ⟨Tryz.t3,by kernel_rfl⟩
  ·exact ⟨Tryz.t65,by kernel_rfl⟩⟩,fun _ => qn zhk rfl rfl (Nat.le_of_ble_eq_true (by kernel_rfl)) (by decide)⟩
theorem zhj : EqP Tryz.prog 108 (kB [([.int .i64 0],false),([.int .i64 0,.int .i64 0,.int .i64 0,.int .i64 0],true)]) true 3 := wM Tryz.underlying108 (by kernel_rfl) ⟨_,(by kernel_rfl : Tryz.prog.info? 108 = some Tryz.t108),rfl⟩ (by decide) (zD.cons (by decide) rfl (q3.mono (by decide)) (zD.cons (by decide) rfl (q65.mono (by decide)) (zD.nil)))
def zhv : EI := ⟨.struct [(0,3),(1,65)],5,40,some [.int .i64 0,.int .i64 0,.int .i64 0,.int .i64 0,.int .i64 0],true⟩
theorem zan : z1k Tryz.prog 108 zhv := ⟨⟨Tryz.t108,by kernel_rfl,rfl,rfl,fun z h => by cases h; exact ⟨_,rfl,rfl,kE rfl,rfl,⟨_,rfl⟩⟩⟩,⟨_,Tryz.underlying108,by kernel_rfl,by
  intro f hf
  simp only [List.mem_cons,List.not_mem_nil,or_false] at hf
  rcases hf with rfl | rfl
  ·exact ⟨Tryz.t3,by kernel_rfl⟩
  ·exact ⟨Tryz.t65,by kernel_rfl⟩⟩,fun _ => qn zhj rfl rfl (Nat.le_of_ble_eq_true (by kernel_rfl)) (by decide)⟩
theorem zbG : EqP Tryz.prog 110 (z4D 4 [.int .i64 0]) true 2 := Uk Tryz.underlying110 q3 ⟨_,(by kernel_rfl : Tryz.prog.info? 110 = some Tryz.t110),rfl⟩
def zhu : EI := ⟨.array 4 3,4,32,some [.int .i64 0,.int .i64 0,.int .i64 0,.int .i64 0],true⟩
theorem zam : z1k Tryz.prog 110 zhu := ⟨⟨Tryz.t110,by kernel_rfl,rfl,rfl,fun z h => by cases h; exact ⟨_,rfl,rfl,kE rfl,rfl,⟨_,rfl⟩⟩⟩,Tryz.underlying110,fun _ => qn zbG rfl rfl (Nat.le_of_ble_eq_true (by kernel_rfl)) (by decide)⟩
theorem zhi : EqP Tryz.prog 111 (kB [([.int .i64 0],false),([.int .i64 0,.int .i64 0,.int .i64 0,.int .i64 0],true)]) true 3 := wM Tryz.underlying111 (by kernel_rfl) ⟨_,(by kernel_rfl : Tryz.prog.info? 111 = some Tryz.t111),rfl⟩ (by decide) (zD.cons (by decide) rfl (q3.mono (by decide)) (zD.cons (by decide) rfl (zbG.mono (by decide)) (zD.nil)))
def zht : EI := ⟨.struct [(0,3),(1,110)],5,40,some [.int .i64 0,.int .i64 0,.int .i64 0,.int .i64 0,.int .i64 0],true⟩
theorem zeH : z1k Tryz.prog 111 zht := ⟨⟨Tryz.t111,by kernel_rfl,rfl,rfl,fun z h => by cases h; exact ⟨_,rfl,rfl,kE rfl,rfl,⟨_,rfl⟩⟩⟩,⟨_,Tryz.underlying111,by kernel_rfl,by
  intro f hf
  simp only [List.mem_cons,List.not_mem_nil,or_false] at hf
  rcases hf with rfl | rfl
  ·exact ⟨Tryz.t3,by kernel_rfl⟩
  ·exact ⟨Tryz.t110,by kernel_rfl⟩⟩,fun _ => qn zhi rfl rfl (Nat.le_of_ble_eq_true (by kernel_rfl)) (by decide)⟩
theorem zgc : EqP Tryz.prog 112 (kB [([.int .i64 0],false),([.int .i64 0,.int .i64 0,.int .i64 0,.int .i64 0],true)]) true 3 := wM Tryz.underlying112 (by kernel_rfl) ⟨_,(by kernel_rfl : Tryz.prog.info? 112 = some Tryz.t112),rfl⟩ (by decide) (zD.cons (by decide) rfl (q3.mono (by decide)) (zD.cons (by decide) rfl (zbG.mono (by decide)) (zD.nil)))
def zhs : EI := ⟨.struct [(0,3),(1,110)],5,40,some [.int .i64 0,.int .i64 0,.int .i64 0,.int .i64 0,.int .i64 0],true⟩
theorem zal : z1k Tryz.prog 112 zhs := ⟨⟨Tryz.t112,by kernel_rfl,rfl,rfl,fun z h => by cases h; exact ⟨_,rfl,rfl,kE rfl,rfl,⟨_,rfl⟩⟩⟩,⟨_,Tryz.underlying112,by kernel_rfl,by
  intro f hf
  simp only [List.mem_cons,List.not_mem_nil,or_false] at hf
  rcases hf with rfl | rfl
  ·exact ⟨Tryz.t3,by kernel_rfl⟩
  ·exact ⟨Tryz.t110,by kernel_rfl⟩⟩,fun _ => qn zgc rfl rfl (Nat.le_of_ble_eq_true (by kernel_rfl)) (by decide)⟩
theorem zeq : EqP Tryz.prog 113 (z4D 4 [.int .i64 0,.int .i64 0,.int .i64 0,.int .i64 0,.int .i64 0]) true 4 := Uk Tryz.underlying113 zgc ⟨_,(by kernel_rfl : Tryz.prog.info? 113 = some Tryz.t113),rfl⟩
def zhr : EI := ⟨.array 4 112,20,160,some [.int .i64 0,.int .i64 0,.int .i64 0,.int .i64 0,.int .i64 0,.int .i64 0,.int .i64 0,.int .i64 0,.int .i64 0,.int .i64 0,.int .i64 0,.int .i64 0,.int .i64 0,.int .i64 0,.int .i64 0,.int .i64 0,.int .i64 0,.int .i64 0,.int .i64 0,.int .i64 0],true⟩
theorem zak : z1k Tryz.prog 113 zhr := ⟨⟨Tryz.t113,by kernel_rfl,rfl,rfl,fun z h => by cases h; exact ⟨_,rfl,rfl,kE rfl,rfl,⟨_,rfl⟩⟩⟩,Tryz.underlying113,fun _ => qn zeq rfl rfl (Nat.le_of_ble_eq_true (by kernel_rfl)) (by decide)⟩
theorem zhh : EqP Tryz.prog 114 (kB [([.int .i64 0,.int .i64 0,.int .i64 0,.int .i64 0],true),([.int .i64 0,.int .i64 0,.int .i64 0,.int .i64 0,.int .i64 0,.int .i64 0,.int .i64 0,.int .i64 0,.int .i64 0,.int .i64 0,.int .i64 0,.int .i64 0,.int .i64 0,.int .i64 0,.int .i64 0,.int .i64 0,.int .i64 0,.int .i64 0,.int .i64 0,.int .i64 0],true)]) true 5 := wM Tryz.underlying114 (by kernel_rfl) ⟨_,(by kernel_rfl : Tryz.prog.info? 114 = some Tryz.t114),rfl⟩ (by decide) (zD.cons (by decide) rfl (zbG.mono (by decide)) (zD.cons (by decide) rfl (zeq.mono (by decide)) (zD.nil)))
def zhq : EI := ⟨.struct [(0,110),(4,113)],24,192,some [.int .i64 0,.int .i64 0,.int .i64 0,.int .i64 0,.int .i64 0,.int .i64 0,.int .i64 0,.int .i64 0,.int .i64 0,.int .i64 0,.int .i64 0,.int .i64 0,.int .i64 0,.int .i64 0,.int .i64 0,.int .i64 0,.int .i64 0,.int .i64 0,.int .i64 0,.int .i64 0,.int .i64 0,.int .i64 0,.int .i64 0,.int .i64 0],true⟩
theorem zeG : z1k Tryz.prog 114 zhq := ⟨⟨Tryz.t114,by kernel_rfl,rfl,rfl,fun z h => by cases h; exact ⟨_,rfl,rfl,kE rfl,rfl,⟨_,rfl⟩⟩⟩,⟨_,Tryz.underlying114,by kernel_rfl,by
  intro f hf
  simp only [List.mem_cons,List.not_mem_nil,or_false] at hf
  rcases hf with rfl | rfl
  ·exact ⟨Tryz.t110,by kernel_rfl⟩
  ·exact ⟨Tryz.t113,by kernel_rfl⟩⟩,fun _ => qn zhh rfl rfl (Nat.le_of_ble_eq_true (by kernel_rfl)) (by decide)⟩
theorem zhg : EqP Tryz.prog 115 (kB [([.int .i64 0,.int .i64 0,.int .i64 0,.int .i64 0],true),([.int .i64 0,.int .i64 0,.int .i64 0,.int .i64 0,.int .i64 0,.int .i64 0,.int .i64 0,.int .i64 0,.int .i64 0,.int .i64 0,.int .i64 0,.int .i64 0,.int .i64 0,.int .i64 0,.int .i64 0,.int .i64 0,.int .i64 0,.int .i64 0,.int .i64 0,.int .i64 0],true)]) true 5 := wM Tryz.underlying115 (by kernel_rfl) ⟨_,(by kernel_rfl : Tryz.prog.info? 115 = some Tryz.t115),rfl⟩ (by decide) (zD.cons (by decide) rfl (zbG.mono (by decide)) (zD.cons (by decide) rfl (zeq.mono (by decide)) (zD.nil)))
def zhp : EI := ⟨.struct [(0,110),(4,113)],24,192,some [.int .i64 0,.int .i64 0,.int .i64 0,.int .i64 0,.int .i64 0,.int .i64 0,.int .i64 0,.int .i64 0,.int .i64 0,.int .i64 0,.int .i64 0,.int .i64 0,.int .i64 0,.int .i64 0,.int .i64 0,.int .i64 0,.int .i64 0,.int .i64 0,.int .i64 0,.int .i64 0,.int .i64 0,.int .i64 0,.int .i64 0,.int .i64 0],true⟩
theorem z5L : z1k Tryz.prog 115 zhp := ⟨⟨Tryz.t115,by kernel_rfl,rfl,rfl,fun z h => by cases h; exact ⟨_,rfl,rfl,kE rfl,rfl,⟨_,rfl⟩⟩⟩,⟨_,Tryz.underlying115,by kernel_rfl,by
  intro f hf
  simp only [List.mem_cons,List.not_mem_nil,or_false] at hf
  rcases hf with rfl | rfl
  ·exact ⟨Tryz.t110,by kernel_rfl⟩
  ·exact ⟨Tryz.t113,by kernel_rfl⟩⟩,fun _ => qn zhg rfl rfl (Nat.le_of_ble_eq_true (by kernel_rfl)) (by decide)⟩
end Go.Ex

namespace Go.Own
open Go.Proofs
def zeB : Value → Bool
 | .int _ _ => true
 | _ => false
theorem z2u : ∀ {z vs us : List Value} {r : Bool},z.all zeB = true → z.length = vs.length → xH vs us = some r → Go.Ex.z1h z vs = true ∧ Go.Ex.xH vs us = some r
 | [],[],us,r,_,_,h => by
  cases us with
  | nil => simp only [xH,Option.some.injEq] at h; subst h; exact ⟨rfl,rfl⟩
  | cons u us => simp [xH] at h
 | a :: z,v :: vs,us,r,hz,hl,h => by
  have q : ∃ k x u' k' y,v = .int k x ∧ us = .int k' y :: u' ∧ k = k' := by
   cases us with
   | nil => cases v <;> simp [xH] at h
   | cons u us =>
    cases v <;> cases u <;> simp [xH] at h
    exact ⟨_,_,_,_,_,rfl,rfl,h.1⟩
  obtain ⟨k,x,u',k',y,rfl,rfl,hk⟩ := q
  simp only [xH,hk,if_true,Option.map_eq_some_iff] at h
  obtain ⟨r',e1,rfl⟩ := h
  simp only [List.all_cons,Bool.and_eq_true] at hz
  obtain ⟨q1,q2⟩ := z2u hz.2 (by simpa using hl) e1
  refine ⟨?_,by simp [Go.Ex.xH,hk,q2]⟩
  cases a <;> first | (simp [zeB] at hz; done) | simpa [Go.Ex.z1h] using q1
 | [],_ :: _,_,_,_,hl,_ => by simp at hl
 | _ :: _,[],_,_,_,hl,_ => by simp at hl
theorem Y0 {P : Program} {t n : Nat} {i : Go.Ex.EI} (h : Go.Ex.z93 P t i) {z : List Value} (hz : i.zero = some z) (hi : z.all zeB = true) (hs : i.size = n) (hn : z.length = n) : z93 P t n := {
 guard := h.guard
 run := fun vs us r w hv hu he => by
  obtain ⟨q1,q2⟩ := z2u hi (by rw [hn,hv]) he
  exact h.run vs us r w (by rw [hs]; exact hv) (by rw [hs]; exact hu) (by simpa only [Go.Ex.zeK,hz] using q1) q2 }
theorem zm {S : zt} {h : Array Obj} {v : Value} (hv : v.oneCell' = true) : zQ S h (.atom v) [v] [] := by simp only [zQ,Rep]; exact ⟨⟨trivial,hv⟩,trivial⟩
theorem xE {S : zt} {h : Array Obj} (sz : Nat) : zQ S h (.osl sz true []) [.slice none 0 0] [] := by
 simp only [zQ]
 exact ⟨none,0,rfl,(fun _ => rfl),Nat.le_refl _,Nat.zero_le _,by simp,.inl ⟨trivial,rfl,rfl,trivial⟩⟩
theorem y9 {S : zt} {h : Array Obj} {fs : List A} {cs : List Value} (q : y3 S h fs cs []) : zQ S h (.agg fs) cs [] := by simpa only [zQ] using q
theorem zL {S : zt} {h : Array Obj} : y3 S h [] [] [] := by simp [y3]
theorem zk {S : zt} {h : Array Obj} {a : A} {fs : List A} {c1 c2 : List Value} (q1 : zQ S h a c1 []) (q2 : y3 S h fs c2 []) : y3 S h (a :: fs) (c1 ++ c2) [] := by simp only [y3]; exact ⟨c1,c2,[],[],rfl,rfl,q1,q2⟩
def ti1 : TI := ⟨.other,1,8,some (.atom .nilFunc),false⟩
theorem zbc : kC Tryz.prog 1 ti1 := ⟨⟨Tryz.t1,by kernel_rfl,rfl,rfl,fun z h => by cases h; exact ⟨_,rfl,rfl,fun S h => zm rfl⟩⟩,⟨_,Tryz.underlying1,rfl⟩,by intro h; cases h⟩
def ti2 : TI := ⟨.int .i64,1,8,some (.atom (.int .i64 0)),false⟩
theorem zbb : kC Tryz.prog 2 ti2 := ⟨⟨Tryz.t2,by kernel_rfl,rfl,rfl,fun z h => by cases h; exact ⟨_,rfl,rfl,fun S h => zm rfl⟩⟩,Tryz.underlying2,by intro h; cases h⟩
def ti3 : TI := ⟨.int .i64,1,8,some (.atom (.int .i64 0)),false⟩
theorem zba : kC Tryz.prog 3 ti3 := ⟨⟨Tryz.t3,by kernel_rfl,rfl,rfl,fun z h => by cases h; exact ⟨_,rfl,rfl,fun S h => zm rfl⟩⟩,Tryz.underlying3,by intro h; cases h⟩
def ti4 : TI := ⟨.bool,1,1,some (.atom (.bool false)),false⟩
theorem zb9 : kC Tryz.prog 4 ti4 := ⟨⟨Tryz.t4,by kernel_rfl,rfl,rfl,fun z h => by cases h; exact ⟨_,rfl,rfl,fun S h => zm rfl⟩⟩,Tryz.underlying4,by intro h; cases h⟩
def ti5 : TI := ⟨.int .u8,1,1,some (.atom (.int .u8 0)),false⟩
theorem zb8 : kC Tryz.prog 5 ti5 := ⟨⟨Tryz.t5,by kernel_rfl,rfl,rfl,fun z h => by cases h; exact ⟨_,rfl,rfl,fun S h => zm rfl⟩⟩,Tryz.underlying5,by intro h; cases h⟩
def zg8 : TI := ⟨.array 2 5,2,2,some (.agg [.atom (.int .u8 0),.atom (.int .u8 0)]),true⟩
theorem z9A : kC Tryz.prog 22 zg8 := ⟨⟨Tryz.t22,by kernel_rfl,rfl,rfl,fun z h => by cases h; exact ⟨_,rfl,rfl,fun S h => y9 (zk (zm rfl) (zk (zm rfl) (zL)))⟩⟩,Tryz.underlying22,fun _ => Y0 (Go.Ex.zc9.eqn rfl) rfl rfl rfl rfl⟩
def zg7 : TI := ⟨.slice 95,1,24,some (.osl 3 true []),false⟩
theorem z9z : kC Tryz.prog 23 zg7 := ⟨⟨Tryz.t23,by kernel_rfl,rfl,rfl,fun z h => by cases h; exact ⟨_,rfl,rfl,fun S h => xE _⟩⟩,Tryz.underlying23,by intro h; cases h⟩
def zg6 : TI := ⟨.struct [(0,2),(2,1)],3,32,some (.agg [.agg [.atom (.int .u8 0),.atom (.int .u8 0)],.osl 3 true []]),false⟩
theorem z9y : kC Tryz.prog 25 zg6 := ⟨⟨Tryz.t25,by kernel_rfl,rfl,rfl,fun z h => by cases h; exact ⟨_,rfl,rfl,fun S h => y9 (zk (y9 (zk (zm rfl) (zk (zm rfl) (zL)))) (zk (xE _) (zL)))⟩⟩,⟨_,Tryz.underlying25,by kernel_rfl,by
  intro f hf
  simp only [List.mem_cons,List.not_mem_nil,or_false] at hf
  rcases hf with rfl | rfl
  ·exact ⟨Tryz.t22,by kernel_rfl⟩
  ·exact ⟨Tryz.t23,by kernel_rfl⟩⟩,by intro h; cases h⟩
def zg5 : TI := ⟨.slice 3,1,24,some (.osl 1 true []),false⟩
theorem z9x : kC Tryz.prog 26 zg5 := ⟨⟨Tryz.t26,by kernel_rfl,rfl,rfl,fun z h => by cases h; exact ⟨_,rfl,rfl,fun S h => xE _⟩⟩,Tryz.underlying26,by intro h; cases h⟩
def zg4 : TI := ⟨.slice 87,1,24,some (.osl 3 true []),false⟩
theorem z9w : kC Tryz.prog 27 zg4 := ⟨⟨Tryz.t27,by kernel_rfl,rfl,rfl,fun z h => by cases h; exact ⟨_,rfl,rfl,fun S h => xE _⟩⟩,Tryz.underlying27,by intro h; cases h⟩
def zg3 : TI := ⟨.struct [(0,1),(1,1),(2,1),(3,1)],4,64,some (.agg [.atom (.int .i64 0),.atom (.int .i64 0),.osl 1 true [],.osl 3 true []]),false⟩
theorem z9v : kC Tryz.prog 29 zg3 := ⟨⟨Tryz.t29,by kernel_rfl,rfl,rfl,fun z h => by cases h; exact ⟨_,rfl,rfl,fun S h => y9 (zk (zm rfl) (zk (zm rfl) (zk (xE _) (zk (xE _) (zL)))))⟩⟩,⟨_,Tryz.underlying29,by kernel_rfl,by
  intro f hf
  simp only [List.mem_cons,List.not_mem_nil,or_false] at hf
  rcases hf with rfl | rfl | rfl | rfl
  ·exact ⟨Tryz.t3,by kernel_rfl⟩
  ·exact ⟨Tryz.t3,by kernel_rfl⟩
  ·exact ⟨Tryz.t26,by kernel_rfl⟩
  ·exact ⟨Tryz.t27,by kernel_rfl⟩⟩,by intro h; cases h⟩
def zg2 : TI := ⟨.slice 39,1,24,some (.osl 2 true []),false⟩
theorem z9u : kC Tryz.prog 31 zg2 := ⟨⟨Tryz.t31,by kernel_rfl,rfl,rfl,fun z h => by cases h; exact ⟨_,rfl,rfl,fun S h => xE _⟩⟩,Tryz.underlying31,by intro h; cases h⟩
def zg1 : TI := ⟨.slice 45,1,24,some (.osl 1 true []),false⟩
theorem z9t : kC Tryz.prog 32 zg1 := ⟨⟨Tryz.t32,by kernel_rfl,rfl,rfl,fun z h => by cases h; exact ⟨_,rfl,rfl,fun S h => xE _⟩⟩,Tryz.underlying32,by intro h; cases h⟩
def zg0 : TI := ⟨.slice 65,1,24,some (.osl 4 true []),false⟩
theorem z9s : kC Tryz.prog 36 zg0 := ⟨⟨Tryz.t36,by kernel_rfl,rfl,rfl,fun z h => by cases h; exact ⟨_,rfl,rfl,fun S h => xE _⟩⟩,Tryz.underlying36,by intro h; cases h⟩
def zfZ : TI := ⟨.slice 26,1,24,some (.osl 1 true []),false⟩
theorem z9r : kC Tryz.prog 37 zfZ := ⟨⟨Tryz.t37,by kernel_rfl,rfl,rfl,fun z h => by cases h; exact ⟨_,rfl,rfl,fun S h => xE _⟩⟩,Tryz.underlying37,by intro h; cases h⟩
def zfY : TI := ⟨.struct [(0,1),(1,1)],2,48,some (.agg [.osl 1 true [],.osl 1 true []]),false⟩
theorem z9q : kC Tryz.prog 39 zfY := ⟨⟨Tryz.t39,by kernel_rfl,rfl,rfl,fun z h => by cases h; exact ⟨_,rfl,rfl,fun S h => y9 (zk (xE _) (zk (xE _) (zL)))⟩⟩,⟨_,Tryz.underlying39,by kernel_rfl,by
  intro f hf
  simp only [List.mem_cons,List.not_mem_nil,or_false] at hf
  rcases hf with rfl | rfl
  ·exact ⟨Tryz.t26,by kernel_rfl⟩
  ·exact ⟨Tryz.t37,by kernel_rfl⟩⟩,by intro h; cases h⟩
def zfX : TI := ⟨.int .i64,1,8,some (.atom (.int .i64 0)),false⟩
theorem z9p : kC Tryz.prog 40 zfX := ⟨⟨Tryz.t40,by kernel_rfl,rfl,rfl,fun z h => by cases h; exact ⟨_,rfl,rfl,fun S h => zm rfl⟩⟩,Tryz.underlying40,by intro h; cases h⟩
def zfW : TI := ⟨.slice 100,1,24,some (.osl 5 true []),false⟩
theorem z9o : kC Tryz.prog 45 zfW := ⟨⟨Tryz.t45,by kernel_rfl,rfl,rfl,fun z h => by cases h; exact ⟨_,rfl,rfl,fun S h => xE _⟩⟩,Tryz.underlying45,by intro h; cases h⟩
def zfV : TI := ⟨.int .u64,1,8,some (.atom (.int .u64 0)),false⟩
theorem z9n : kC Tryz.prog 50 zfV := ⟨⟨Tryz.t50,by kernel_rfl,rfl,rfl,fun z h => by cases h; exact ⟨_,rfl,rfl,fun S h => zm rfl⟩⟩,Tryz.underlying50,by intro h; cases h⟩
def zfU : TI := ⟨.slice 59,1,24,some (.osl 1 true []),false⟩
theorem z9m : kC Tryz.prog 51 zfU := ⟨⟨Tryz.t51,by kernel_rfl,rfl,rfl,fun z h => by cases h; exact ⟨_,rfl,rfl,fun S h => xE _⟩⟩,Tryz.underlying51,by intro h; cases h⟩
def zfT : TI := ⟨.struct [(0,1),(1,1),(2,1)],3,40,some (.agg [.atom (.int .i64 0),.atom (.int .i64 0),.osl 1 true []]),false⟩
theorem z9l : kC Tryz.prog 53 zfT := ⟨⟨Tryz.t53,by kernel_rfl,rfl,rfl,fun z h => by cases h; exact ⟨_,rfl,rfl,fun S h => y9 (zk (zm rfl) (zk (zm rfl) (zk (xE _) (zL))))⟩⟩,⟨_,Tryz.underlying53,by kernel_rfl,by
  intro f hf
  simp only [List.mem_cons,List.not_mem_nil,or_false] at hf
  rcases hf with rfl | rfl | rfl
  ·exact ⟨Tryz.t3,by kernel_rfl⟩
  ·exact ⟨Tryz.t3,by kernel_rfl⟩
  ·exact ⟨Tryz.t51,by kernel_rfl⟩⟩,by intro h; cases h⟩
def zfS : TI := ⟨.slice 61,1,24,some (.osl 3 true []),false⟩
theorem z9k : kC Tryz.prog 59 zfS := ⟨⟨Tryz.t59,by kernel_rfl,rfl,rfl,fun z h => by cases h; exact ⟨_,rfl,rfl,fun S h => xE _⟩⟩,Tryz.underlying59,by intro h; cases h⟩
def zfR : TI := ⟨.struct [(0,1),(1,1),(2,1)],3,24,some (.agg [.atom (.int .u8 0),.atom (.int .i64 0),.atom (.int .i64 0)]),true⟩
theorem z9j : kC Tryz.prog 61 zfR := ⟨⟨Tryz.t61,by kernel_rfl,rfl,rfl,fun z h => by cases h; exact ⟨_,rfl,rfl,fun S h => y9 (zk (zm rfl) (zk (zm rfl) (zk (zm rfl) (zL))))⟩⟩,⟨_,Tryz.underlying61,by kernel_rfl,by
  intro f hf
  simp only [List.mem_cons,List.not_mem_nil,or_false] at hf
  rcases hf with rfl | rfl | rfl
  ·exact ⟨Tryz.t5,by kernel_rfl⟩
  ·exact ⟨Tryz.t3,by kernel_rfl⟩
  ·exact ⟨Tryz.t3,by kernel_rfl⟩⟩,fun _ => Y0 (Go.Ex.zc8.eqn rfl) rfl rfl rfl rfl⟩
def zfQ : TI := ⟨.struct [(0,1),(1,1),(2,1),(3,1)],4,32,some (.agg [.atom (.int .i64 0),.atom (.int .i64 0),.atom (.int .i64 0),.atom (.int .i64 0)]),true⟩
theorem z9i : kC Tryz.prog 65 zfQ := ⟨⟨Tryz.t65,by kernel_rfl,rfl,rfl,fun z h => by cases h; exact ⟨_,rfl,rfl,fun S h => y9 (zk (zm rfl) (zk (zm rfl) (zk (zm rfl) (zk (zm rfl) (zL)))))⟩⟩,⟨_,Tryz.underlying65,by kernel_rfl,by
  intro f hf
  simp only [List.mem_cons,List.not_mem_nil,or_false] at hf
  rcases hf with rfl | rfl | rfl | rfl
  ·exact ⟨Tryz.t3,by kernel_rfl⟩
  ·exact ⟨Tryz.t3,by kernel_rfl⟩
  ·exact ⟨Tryz.t3,by kernel_rfl⟩
  ·exact ⟨Tryz.t3,by kernel_rfl⟩⟩,fun _ => Y0 (Go.Ex.zc7.eqn rfl) rfl rfl rfl rfl⟩
def zfP : TI := ⟨.slice 73,1,24,some (.osl 6 true []),false⟩
theorem z9h : kC Tryz.prog 68 zfP := ⟨⟨Tryz.t68,by kernel_rfl,rfl,rfl,fun z h => by cases h; exact ⟨_,rfl,rfl,fun S h => xE _⟩⟩,Tryz.underlying68,by intro h; cases h⟩
def zfO : TI := ⟨.struct [(0,4),(4,2)],6,80,some (.agg [.agg [.atom (.int .i64 0),.atom (.int .i64 0),.atom (.int .i64 0),.atom (.int .i64 0)],.agg [.osl 1 true [],.osl 1 true []]]),false⟩
theorem z9g : kC Tryz.prog 73 zfO := ⟨⟨Tryz.t73,by kernel_rfl,rfl,rfl,fun z h => by cases h; exact ⟨_,rfl,rfl,fun S h => y9 (zk (y9 (zk (zm rfl) (zk (zm rfl) (zk (zm rfl) (zk (zm rfl) (zL)))))) (zk (y9 (zk (xE _) (zk (xE _) (zL)))) (zL)))⟩⟩,⟨_,Tryz.underlying73,by kernel_rfl,by
  intro f hf
  simp only [List.mem_cons,List.not_mem_nil,or_false] at hf
  rcases hf with rfl | rfl
  ·exact ⟨Tryz.t65,by kernel_rfl⟩
  ·exact ⟨Tryz.t39,by kernel_rfl⟩⟩,by intro h; cases h⟩
def zfN : TI := ⟨.other,1,8,some (.atom .nilFunc),false⟩
theorem z9f : kC Tryz.prog 82 zfN := ⟨⟨Tryz.t82,by kernel_rfl,rfl,rfl,fun z h => by cases h; exact ⟨_,rfl,rfl,fun S h => zm rfl⟩⟩,⟨_,Tryz.underlying82,rfl⟩,by intro h; cases h⟩
def zfM : TI := ⟨.slice 98,1,24,some (.osl 5 true []),false⟩
theorem z9e : kC Tryz.prog 85 zfM := ⟨⟨Tryz.t85,by kernel_rfl,rfl,rfl,fun z h => by cases h; exact ⟨_,rfl,rfl,fun S h => xE _⟩⟩,Tryz.underlying85,by intro h; cases h⟩
def zfL : TI := ⟨.struct [(0,1),(1,1),(2,1)],3,56,some (.agg [.atom (.int .i64 0),.osl 5 true [],.osl 1 true []]),false⟩
theorem z9d : kC Tryz.prog 87 zfL := ⟨⟨Tryz.t87,by kernel_rfl,rfl,rfl,fun z h => by cases h; exact ⟨_,rfl,rfl,fun S h => y9 (zk (zm rfl) (zk (xE _) (zk (xE _) (zL))))⟩⟩,⟨_,Tryz.underlying87,by kernel_rfl,by
  intro f hf
  simp only [List.mem_cons,List.not_mem_nil,or_false] at hf
  rcases hf with rfl | rfl | rfl
  ·exact ⟨Tryz.t3,by kernel_rfl⟩
  ·exact ⟨Tryz.t85,by kernel_rfl⟩
  ·exact ⟨Tryz.t26,by kernel_rfl⟩⟩,by intro h; cases h⟩
def zfK : TI := ⟨.slice 96,1,24,some (.osl 5 true []),false⟩
theorem z9c : kC Tryz.prog 93 zfK := ⟨⟨Tryz.t93,by kernel_rfl,rfl,rfl,fun z h => by cases h; exact ⟨_,rfl,rfl,fun S h => xE _⟩⟩,Tryz.underlying93,by intro h; cases h⟩
def zfJ : TI := ⟨.struct [(0,1),(1,1),(2,1)],3,32,some (.agg [.atom (.int .u8 0),.atom (.int .u8 0),.osl 5 true []]),false⟩
theorem z9b : kC Tryz.prog 95 zfJ := ⟨⟨Tryz.t95,by kernel_rfl,rfl,rfl,fun z h => by cases h; exact ⟨_,rfl,rfl,fun S h => y9 (zk (zm rfl) (zk (zm rfl) (zk (xE _) (zL))))⟩⟩,⟨_,Tryz.underlying95,by kernel_rfl,by
  intro f hf
  simp only [List.mem_cons,List.not_mem_nil,or_false] at hf
  rcases hf with rfl | rfl | rfl
  ·exact ⟨Tryz.t5,by kernel_rfl⟩
  ·exact ⟨Tryz.t5,by kernel_rfl⟩
  ·exact ⟨Tryz.t93,by kernel_rfl⟩⟩,by intro h; cases h⟩
def zfI : TI := ⟨.array 5 5,5,5,some (.agg [.atom (.int .u8 0),.atom (.int .u8 0),.atom (.int .u8 0),.atom (.int .u8 0),.atom (.int .u8 0)]),true⟩
theorem z9a : kC Tryz.prog 96 zfI := ⟨⟨Tryz.t96,by kernel_rfl,rfl,rfl,fun z h => by cases h; exact ⟨_,rfl,rfl,fun S h => y9 (zk (zm rfl) (zk (zm rfl) (zk (zm rfl) (zk (zm rfl) (zk (zm rfl) (zL))))))⟩⟩,Tryz.underlying96,fun _ => Y0 (Go.Ex.zc6.eqn rfl) rfl rfl rfl rfl⟩
def zfH : TI := ⟨.struct [(0,1),(1,1),(2,1),(3,1),(4,1)],5,40,some (.agg [.atom (.int .i64 0),.atom (.int .u8 0),.atom (.int .i64 0),.atom (.int .i64 0),.atom (.int .i64 0)]),true⟩
theorem z99 : kC Tryz.prog 98 zfH := ⟨⟨Tryz.t98,by kernel_rfl,rfl,rfl,fun z h => by cases h; exact ⟨_,rfl,rfl,fun S h => y9 (zk (zm rfl) (zk (zm rfl) (zk (zm rfl) (zk (zm rfl) (zk (zm rfl) (zL))))))⟩⟩,⟨_,Tryz.underlying98,by kernel_rfl,by
  intro f hf
  simp only [List.mem_cons,List.not_mem_nil,or_false] at hf
  rcases hf with rfl | rfl | rfl | rfl | rfl
  ·exact ⟨Tryz.t3,by kernel_rfl⟩
  ·exact ⟨Tryz.t5,by kernel_rfl⟩
  ·exact ⟨Tryz.t3,by kernel_rfl⟩
  ·exact ⟨Tryz.t3,by kernel_rfl⟩
  ·exact ⟨Tryz.t3,by kernel_rfl⟩⟩,fun _ => Y0 (Go.Ex.zc5.eqn rfl) rfl rfl rfl rfl⟩
def zbv : TI := ⟨.struct [(0,4),(4,1)],5,40,some (.agg [.agg [.atom (.int .i64 0),.atom (.int .i64 0),.atom (.int .i64 0),.atom (.int .i64 0)],.atom (.int .i64 0)]),true⟩
theorem z71 : kC Tryz.prog 100 zbv := ⟨⟨Tryz.t100,by kernel_rfl,rfl,rfl,fun z h => by cases h; exact ⟨_,rfl,rfl,fun S h => y9 (zk (y9 (zk (zm rfl) (zk (zm rfl) (zk (zm rfl) (zk (zm rfl) (zL)))))) (zk (zm rfl) (zL)))⟩⟩,⟨_,Tryz.underlying100,by kernel_rfl,by
  intro f hf
  simp only [List.mem_cons,List.not_mem_nil,or_false] at hf
  rcases hf with rfl | rfl
  ·exact ⟨Tryz.t65,by kernel_rfl⟩
  ·exact ⟨Tryz.t3,by kernel_rfl⟩⟩,fun _ => Y0 (Go.Ex.zao.eqn rfl) rfl rfl rfl rfl⟩
def zbu : TI := ⟨.slice 115,1,24,some (.osl 24 true []),false⟩
theorem z6Z : kC Tryz.prog 103 zbu := ⟨⟨Tryz.t103,by kernel_rfl,rfl,rfl,fun z h => by cases h; exact ⟨_,rfl,rfl,fun S h => xE _⟩⟩,Tryz.underlying103,by intro h; cases h⟩
def zbt : TI := ⟨.slice 108,1,24,some (.osl 5 true []),false⟩
theorem z6Y : kC Tryz.prog 106 zbt := ⟨⟨Tryz.t106,by kernel_rfl,rfl,rfl,fun z h => by cases h; exact ⟨_,rfl,rfl,fun S h => xE _⟩⟩,Tryz.underlying106,by intro h; cases h⟩
def zbs : TI := ⟨.struct [(0,1),(1,4)],5,40,some (.agg [.atom (.int .i64 0),.agg [.atom (.int .i64 0),.atom (.int .i64 0),.atom (.int .i64 0),.atom (.int .i64 0)]]),true⟩
theorem z6X : kC Tryz.prog 108 zbs := ⟨⟨Tryz.t108,by kernel_rfl,rfl,rfl,fun z h => by cases h; exact ⟨_,rfl,rfl,fun S h => y9 (zk (zm rfl) (zk (y9 (zk (zm rfl) (zk (zm rfl) (zk (zm rfl) (zk (zm rfl) (zL)))))) (zL)))⟩⟩,⟨_,Tryz.underlying108,by kernel_rfl,by
  intro f hf
  simp only [List.mem_cons,List.not_mem_nil,or_false] at hf
  rcases hf with rfl | rfl
  ·exact ⟨Tryz.t3,by kernel_rfl⟩
  ·exact ⟨Tryz.t65,by kernel_rfl⟩⟩,fun _ => Y0 (Go.Ex.zan.eqn rfl) rfl rfl rfl rfl⟩
def zbr : TI := ⟨.array 4 3,4,32,some (.agg [.atom (.int .i64 0),.atom (.int .i64 0),.atom (.int .i64 0),.atom (.int .i64 0)]),true⟩
theorem z6W : kC Tryz.prog 110 zbr := ⟨⟨Tryz.t110,by kernel_rfl,rfl,rfl,fun z h => by cases h; exact ⟨_,rfl,rfl,fun S h => y9 (zk (zm rfl) (zk (zm rfl) (zk (zm rfl) (zk (zm rfl) (zL)))))⟩⟩,Tryz.underlying110,fun _ => Y0 (Go.Ex.zam.eqn rfl) rfl rfl rfl rfl⟩
def zbq : TI := ⟨.struct [(0,1),(1,4)],5,40,some (.agg [.atom (.int .i64 0),.agg [.atom (.int .i64 0),.atom (.int .i64 0),.atom (.int .i64 0),.atom (.int .i64 0)]]),true⟩
theorem z6V : kC Tryz.prog 112 zbq := ⟨⟨Tryz.t112,by kernel_rfl,rfl,rfl,fun z h => by cases h; exact ⟨_,rfl,rfl,fun S h => y9 (zk (zm rfl) (zk (y9 (zk (zm rfl) (zk (zm rfl) (zk (zm rfl) (zk (zm rfl) (zL)))))) (zL)))⟩⟩,⟨_,Tryz.underlying112,by kernel_rfl,by
  intro f hf
  simp only [List.mem_cons,List.not_mem_nil,or_false] at hf
  rcases hf with rfl | rfl
  ·exact ⟨Tryz.t3,by kernel_rfl⟩
  ·exact ⟨Tryz.t110,by kernel_rfl⟩⟩,fun _ => Y0 (Go.Ex.zal.eqn rfl) rfl rfl rfl rfl⟩
def zbp : TI := ⟨.array 4 112,20,160,some (.agg [.agg [.atom (.int .i64 0),.agg [.atom (.int .i64 0),.atom (.int .i64 0),.atom (.int .i64 0),.atom (.int .i64 0)]],.agg [.atom (.int .i64 0),.agg [.atom (.int .i64 0),.atom (.int .i64 0),.atom (.int .i64 0),.atom (.int .i64 0)]],.agg [.atom (.int .i64 0),.agg [.atom (.int .i64 0),.atom (.int .i64 0),.atom (.int .i64 0),.atom (.int .i64 0)]],.agg [.atom (.int .i64 0),.agg [.atom (.int .i64 0),.atom (.int .i64 0),.atom (.int .i64 0),.atom (.int .i64 0)]]]),true⟩
theorem z6U : kC Tryz.prog 113 zbp := ⟨⟨Tryz.t113,by kernel_rfl,rfl,rfl,fun z h => by cases h; exact ⟨_,rfl,rfl,fun S h => y9 (zk (y9 (zk (zm rfl) (zk (y9 (zk (zm rfl) (zk (zm rfl) (zk (zm rfl) (zk (zm rfl) (zL)))))) (zL)))) (zk (y9 (zk (zm rfl) (zk (y9 (zk (zm rfl) (zk (zm rfl) (zk (zm rfl) (zk (zm rfl) (zL)))))) (zL)))) (zk (y9 (zk (zm rfl) (zk (y9 (zk (zm rfl) (zk (zm rfl) (zk (zm rfl) (zk (zm rfl) (zL)))))) (zL)))) (zk (y9 (zk (zm rfl) (zk (y9 (zk (zm rfl) (zk (zm rfl) (zk (zm rfl) (zk (zm rfl) (zL)))))) (zL)))) (zL)))))⟩⟩,Tryz.underlying113,fun _ => Y0 (Go.Ex.zak.eqn rfl) rfl rfl rfl rfl⟩
def zbo : TI := ⟨.struct [(0,4),(4,20)],24,192,some (.agg [.agg [.atom (.int .i64 0),.atom (.int .i64 0),.atom (.int .i64 0),.atom (.int .i64 0)],.agg [.agg [.atom (.int .i64 0),.agg [.atom (.int .i64 0),.atom (.int .i64 0),.atom (.int .i64 0),.atom (.int .i64 0)]],.agg [.atom (.int .i64 0),.agg [.atom (.int .i64 0),.atom (.int .i64 0),.atom (.int .i64 0),.atom (.int .i64 0)]],.agg [.atom (.int .i64 0),.agg [.atom (.int .i64 0),.atom (.int .i64 0),.atom (.int .i64 0),.atom (.int .i64 0)]],.agg [.atom (.int .i64 0),.agg [.atom (.int .i64 0),.atom (.int .i64 0),.atom (.int .i64 0),.atom (.int .i64 0)]]]]),true⟩
theorem z3x : kC Tryz.prog 115 zbo := ⟨⟨Tryz.t115,by kernel_rfl,rfl,rfl,fun z h => by cases h; exact ⟨_,rfl,rfl,fun S h => y9 (zk (y9 (zk (zm rfl) (zk (zm rfl) (zk (zm rfl) (zk (zm rfl) (zL)))))) (zk (y9 (zk (y9 (zk (zm rfl) (zk (y9 (zk (zm rfl) (zk (zm rfl) (zk (zm rfl) (zk (zm rfl) (zL)))))) (zL)))) (zk (y9 (zk (zm rfl) (zk (y9 (zk (zm rfl) (zk (zm rfl) (zk (zm rfl) (zk (zm rfl) (zL)))))) (zL)))) (zk (y9 (zk (zm rfl) (zk (y9 (zk (zm rfl) (zk (zm rfl) (zk (zm rfl) (zk (zm rfl) (zL)))))) (zL)))) (zk (y9 (zk (zm rfl) (zk (y9 (zk (zm rfl) (zk (zm rfl) (zk (zm rfl) (zk (zm rfl) (zL)))))) (zL)))) (zL)))))) (zL)))⟩⟩,⟨_,Tryz.underlying115,by kernel_rfl,by
  intro f hf
  simp only [List.mem_cons,List.not_mem_nil,or_false] at hf
  rcases hf with rfl | rfl
  ·exact ⟨Tryz.t110,by kernel_rfl⟩
  ·exact ⟨Tryz.t113,by kernel_rfl⟩⟩,fun _ => Y0 (Go.Ex.z5L.eqn rfl) rfl rfl rfl rfl⟩
def zbn : TI := ⟨.other,1,8,some (.atom .nilFunc),false⟩
theorem z6T : kC Tryz.prog 129 zbn := ⟨⟨Tryz.t129,by kernel_rfl,rfl,rfl,fun z h => by cases h; exact ⟨_,rfl,rfl,fun S h => zm rfl⟩⟩,⟨_,Tryz.underlying129,rfl⟩,by intro h; cases h⟩
def zbm : TI := ⟨.other,1,8,some (.atom .nilFunc),false⟩
theorem z6S : kC Tryz.prog 130 zbm := ⟨⟨Tryz.t130,by kernel_rfl,rfl,rfl,fun z h => by cases h; exact ⟨_,rfl,rfl,fun S h => zm rfl⟩⟩,⟨_,Tryz.underlying130,rfl⟩,by intro h; cases h⟩
def zbl : TI := ⟨.other,1,8,some (.atom .nilFunc),false⟩
theorem z6R : kC Tryz.prog 136 zbl := ⟨⟨Tryz.t136,by kernel_rfl,rfl,rfl,fun z h => by cases h; exact ⟨_,rfl,rfl,fun S h => zm rfl⟩⟩,⟨_,Tryz.underlying136,rfl⟩,by intro h; cases h⟩
def zbk : TI := ⟨.other,1,8,some (.atom .nilFunc),false⟩
theorem z6Q : kC Tryz.prog 139 zbk := ⟨⟨Tryz.t139,by kernel_rfl,rfl,rfl,fun z h => by cases h; exact ⟨_,rfl,rfl,fun S h => zm rfl⟩⟩,⟨_,Tryz.underlying139,rfl⟩,by intro h; cases h⟩
def zbj : TI := ⟨.other,1,8,some (.atom (.map none)),false⟩
theorem z6P : kC Tryz.prog 142 zbj := ⟨⟨Tryz.t142,by kernel_rfl,rfl,rfl,fun z h => by cases h; exact ⟨_,rfl,rfl,fun S h => zm rfl⟩⟩,⟨_,Tryz.underlying142,rfl⟩,by intro h; cases h⟩
def zbi : TI := ⟨.other,1,8,some (.atom .nilFunc),false⟩
theorem z6O : kC Tryz.prog 149 zbi := ⟨⟨Tryz.t149,by kernel_rfl,rfl,rfl,fun z h => by cases h; exact ⟨_,rfl,rfl,fun S h => zm rfl⟩⟩,⟨_,Tryz.underlying149,rfl⟩,by intro h; cases h⟩
def zbh : TI := ⟨.other,1,8,some (.atom .nilFunc),false⟩
theorem z6N : kC Tryz.prog 150 zbh := ⟨⟨Tryz.t150,by kernel_rfl,rfl,rfl,fun z h => by cases h; exact ⟨_,rfl,rfl,fun S h => zm rfl⟩⟩,⟨_,Tryz.underlying150,rfl⟩,by intro h; cases h⟩
def zbg : TI := ⟨.other,1,8,some (.atom .nilFunc),false⟩
theorem z6M : kC Tryz.prog 151 zbg := ⟨⟨Tryz.t151,by kernel_rfl,rfl,rfl,fun z h => by cases h; exact ⟨_,rfl,rfl,fun S h => zm rfl⟩⟩,⟨_,Tryz.underlying151,rfl⟩,by intro h; cases h⟩
def zbf : TI := ⟨.other,1,16,some (.atom .nilIface),false⟩
theorem z6L : kC Tryz.prog 154 zbf := ⟨⟨Tryz.t154,by kernel_rfl,rfl,rfl,fun z h => by cases h; exact ⟨_,rfl,rfl,fun S h => zm rfl⟩⟩,⟨_,Tryz.underlying154,rfl⟩,by intro h; cases h⟩
def zbe : TI := ⟨.other,1,8,some (.atom .nilFunc),false⟩
theorem z6K : kC Tryz.prog 160 zbe := ⟨⟨Tryz.t160,by kernel_rfl,rfl,rfl,fun z h => by cases h; exact ⟨_,rfl,rfl,fun S h => zm rfl⟩⟩,⟨_,Tryz.underlying160,rfl⟩,by intro h; cases h⟩
def zbd : TI := ⟨.other,1,8,some (.atom .nilFunc),false⟩
theorem z6J : kC Tryz.prog 174 zbd := ⟨⟨Tryz.t174,by kernel_rfl,rfl,rfl,fun z h => by cases h; exact ⟨_,rfl,rfl,fun S h => zm rfl⟩⟩,⟨_,Tryz.underlying174,rfl⟩,by intro h; cases h⟩
def tiL : List (Nat × TI) := [(1,ti1),(2,ti2),(3,ti3),(4,ti4),(5,ti5),(22,zg8),(23,zg7),(25,zg6),(26,zg5),(27,zg4),(29,zg3),(31,zg2),(32,zg1),(36,zg0),(37,zfZ),(39,zfY),(40,zfX),(45,zfW),(50,zfV),(51,zfU),(53,zfT),(59,zfS),(61,zfR),(65,zfQ),(68,zfP),(73,zfO),(82,zfN),(85,zfM),(87,zfL),(93,zfK),(95,zfJ),(96,zfI),(98,zfH),(100,zbv),(103,zbu),(106,zbt),(108,zbs),(110,zbr),(112,zbq),(113,zbp),(115,zbo),(129,zbn),(130,zbm),(136,zbl),(139,zbk),(142,zbj),(149,zbi),(150,zbh),(151,zbg),(154,zbf),(160,zbe),(174,zbd)]
def wl : TT := fun t => (tiL.find? fun p => p.1 == t).map (·.2)
def z6v (P : Program) : List (Nat × TI) → Prop
 | [] => True
 | p :: l => kC P p.1 p.2 ∧ z6v P l
theorem z6v.mem {P : Program} : ∀ {l : List (Nat × TI)},z6v P l → ∀ p ∈ l,kC P p.1 p.2
 | p :: _,h,q,hq => by
  rcases List.mem_cons.1 hq with rfl | hq
  ·exact h.1
  ·exact z6v.mem h.2 q hq
 | [],_,_,hq => by cases hq
theorem zb7 : z6v Tryz.prog tiL := ⟨zbc,zbb,zba,zb9,zb8,z9A,z9z,z9y,z9x,z9w,z9v,z9u,z9t,z9s,z9r,z9q,z9p,z9o,z9n,z9m,z9l,z9k,z9j,z9i,z9h,z9g,z9f,z9e,z9d,z9c,z9b,z9a,z99,z71,z6Z,z6Y,z6X,z6W,z6V,z6U,z3x,z6T,z6S,z6R,z6Q,z6P,z6O,z6N,z6M,z6L,z6K,z6J,trivial⟩
theorem y5 : wS Tryz.prog wl := by
 intro t i h
 unfold wl at h
 rw [Option.map_eq_some_iff] at h
 obtain ⟨p,h1,rfl⟩ := h
 have h2 := List.find?_some h1
 have h3 := zb7.mem p (List.mem_of_find?_eq_some h1)
 rw [beq_iff_eq.1 h2] at h3
 exact h3
theorem zhG : wl 1 = some ⟨.other,1,8,some (.atom .nilFunc),false⟩ := rfl
theorem zhF : wl 2 = some ⟨.int .i64,1,8,some (.atom (.int .i64 0)),false⟩ := rfl
theorem zhE : wl 3 = some ⟨.int .i64,1,8,some (.atom (.int .i64 0)),false⟩ := rfl
theorem zhD : wl 4 = some ⟨.bool,1,1,some (.atom (.bool false)),false⟩ := rfl
theorem zhC : wl 5 = some ⟨.int .u8,1,1,some (.atom (.int .u8 0)),false⟩ := rfl
theorem zfn : wl 22 = some ⟨.array 2 5,2,2,some (.agg [.atom (.int .u8 0),.atom (.int .u8 0)]),true⟩ := rfl
theorem zfm : wl 23 = some ⟨.slice 95,1,24,some (.osl 3 true []),false⟩ := rfl
theorem zfl : wl 25 = some ⟨.struct [(0,2),(2,1)],3,32,some (.agg [.agg [.atom (.int .u8 0),.atom (.int .u8 0)],.osl 3 true []]),false⟩ := rfl
theorem zfk : wl 26 = some ⟨.slice 3,1,24,some (.osl 1 true []),false⟩ := rfl
theorem zfj : wl 27 = some ⟨.slice 87,1,24,some (.osl 3 true []),false⟩ := rfl
theorem zfi : wl 29 = some ⟨.struct [(0,1),(1,1),(2,1),(3,1)],4,64,some (.agg [.atom (.int .i64 0),.atom (.int .i64 0),.osl 1 true [],.osl 3 true []]),false⟩ := rfl
theorem zfh : wl 31 = some ⟨.slice 39,1,24,some (.osl 2 true []),false⟩ := rfl
theorem zfg : wl 32 = some ⟨.slice 45,1,24,some (.osl 1 true []),false⟩ := rfl
theorem zff : wl 36 = some ⟨.slice 65,1,24,some (.osl 4 true []),false⟩ := rfl
theorem zfe : wl 37 = some ⟨.slice 26,1,24,some (.osl 1 true []),false⟩ := rfl
theorem zfd : wl 39 = some ⟨.struct [(0,1),(1,1)],2,48,some (.agg [.osl 1 true [],.osl 1 true []]),false⟩ := rfl
theorem zfc : wl 40 = some ⟨.int .i64,1,8,some (.atom (.int .i64 0)),false⟩ := rfl
theorem zfb : wl 45 = some ⟨.slice 100,1,24,some (.osl 5 true []),false⟩ := rfl
theorem zfa : wl 50 = some ⟨.int .u64,1,8,some (.atom (.int .u64 0)),false⟩ := rfl
theorem zf9 : wl 51 = some ⟨.slice 59,1,24,some (.osl 1 true []),false⟩ := rfl
theorem zf8 : wl 53 = some ⟨.struct [(0,1),(1,1),(2,1)],3,40,some (.agg [.atom (.int .i64 0),.atom (.int .i64 0),.osl 1 true []]),false⟩ := rfl
theorem zf7 : wl 59 = some ⟨.slice 61,1,24,some (.osl 3 true []),false⟩ := rfl
theorem zf6 : wl 61 = some ⟨.struct [(0,1),(1,1),(2,1)],3,24,some (.agg [.atom (.int .u8 0),.atom (.int .i64 0),.atom (.int .i64 0)]),true⟩ := rfl
theorem zf5 : wl 65 = some ⟨.struct [(0,1),(1,1),(2,1),(3,1)],4,32,some (.agg [.atom (.int .i64 0),.atom (.int .i64 0),.atom (.int .i64 0),.atom (.int .i64 0)]),true⟩ := rfl
theorem zf4 : wl 68 = some ⟨.slice 73,1,24,some (.osl 6 true []),false⟩ := rfl
theorem zf3 : wl 73 = some ⟨.struct [(0,4),(4,2)],6,80,some (.agg [.agg [.atom (.int .i64 0),.atom (.int .i64 0),.atom (.int .i64 0),.atom (.int .i64 0)],.agg [.osl 1 true [],.osl 1 true []]]),false⟩ := rfl
theorem zf2 : wl 82 = some ⟨.other,1,8,some (.atom .nilFunc),false⟩ := rfl
theorem zf1 : wl 85 = some ⟨.slice 98,1,24,some (.osl 5 true []),false⟩ := rfl
theorem zf0 : wl 87 = some ⟨.struct [(0,1),(1,1),(2,1)],3,56,some (.agg [.atom (.int .i64 0),.osl 5 true [],.osl 1 true []]),false⟩ := rfl
theorem zeZ : wl 93 = some ⟨.slice 96,1,24,some (.osl 5 true []),false⟩ := rfl
theorem zeY : wl 95 = some ⟨.struct [(0,1),(1,1),(2,1)],3,32,some (.agg [.atom (.int .u8 0),.atom (.int .u8 0),.osl 5 true []]),false⟩ := rfl
theorem zeX : wl 96 = some ⟨.array 5 5,5,5,some (.agg [.atom (.int .u8 0),.atom (.int .u8 0),.atom (.int .u8 0),.atom (.int .u8 0),.atom (.int .u8 0)]),true⟩ := rfl
theorem zeW : wl 98 = some ⟨.struct [(0,1),(1,1),(2,1),(3,1),(4,1)],5,40,some (.agg [.atom (.int .i64 0),.atom (.int .u8 0),.atom (.int .i64 0),.atom (.int .i64 0),.atom (.int .i64 0)]),true⟩ := rfl
theorem zcS : wl 100 = some ⟨.struct [(0,4),(4,1)],5,40,some (.agg [.agg [.atom (.int .i64 0),.atom (.int .i64 0),.atom (.int .i64 0),.atom (.int .i64 0)],.atom (.int .i64 0)]),true⟩ := rfl
theorem zcR : wl 103 = some ⟨.slice 115,1,24,some (.osl 24 true []),false⟩ := rfl
theorem zcQ : wl 106 = some ⟨.slice 108,1,24,some (.osl 5 true []),false⟩ := rfl
theorem zcP : wl 108 = some ⟨.struct [(0,1),(1,4)],5,40,some (.agg [.atom (.int .i64 0),.agg [.atom (.int .i64 0),.atom (.int .i64 0),.atom (.int .i64 0),.atom (.int .i64 0)]]),true⟩ := rfl
theorem zcO : wl 110 = some ⟨.array 4 3,4,32,some (.agg [.atom (.int .i64 0),.atom (.int .i64 0),.atom (.int .i64 0),.atom (.int .i64 0)]),true⟩ := rfl
theorem zcN : wl 112 = some ⟨.struct [(0,1),(1,4)],5,40,some (.agg [.atom (.int .i64 0),.agg [.atom (.int .i64 0),.atom (.int .i64 0),.atom (.int .i64 0),.atom (.int .i64 0)]]),true⟩ := rfl
theorem zcM : wl 113 = some ⟨.array 4 112,20,160,some (.agg [.agg [.atom (.int .i64 0),.agg [.atom (.int .i64 0),.atom (.int .i64 0),.atom (.int .i64 0),.atom (.int .i64 0)]],.agg [.atom (.int .i64 0),.agg [.atom (.int .i64 0),.atom (.int .i64 0),.atom (.int .i64 0),.atom (.int .i64 0)]],.agg [.atom (.int .i64 0),.agg [.atom (.int .i64 0),.atom (.int .i64 0),.atom (.int .i64 0),.atom (.int .i64 0)]],.agg [.atom (.int .i64 0),.agg [.atom (.int .i64 0),.atom (.int .i64 0),.atom (.int .i64 0),.atom (.int .i64 0)]]]),true⟩ := rfl
theorem zcL : wl 115 = some ⟨.struct [(0,4),(4,20)],24,192,some (.agg [.agg [.atom (.int .i64 0),.atom (.int .i64 0),.atom (.int .i64 0),.atom (.int .i64 0)],.agg [.agg [.atom (.int .i64 0),.agg [.atom (.int .i64 0),.atom (.int .i64 0),.atom (.int .i64 0),.atom (.int .i64 0)]],.agg [.atom (.int .i64 0),.agg [.atom (.int .i64 0),.atom (.int .i64 0),.atom (.int .i64 0),.atom (.int .i64 0)]],.agg [.atom (.int .i64 0),.agg [.atom (.int .i64 0),.atom (.int .i64 0),.atom (.int .i64 0),.atom (.int .i64 0)]],.agg [.atom (.int .i64 0),.agg [.atom (.int .i64 0),.atom (.int .i64 0),.atom (.int .i64 0),.atom (.int .i64 0)]]]]),true⟩ := rfl
theorem zcK : wl 129 = some ⟨.other,1,8,some (.atom .nilFunc),false⟩ := rfl
theorem zcJ : wl 130 = some ⟨.other,1,8,some (.atom .nilFunc),false⟩ := rfl
theorem zcI : wl 136 = some ⟨.other,1,8,some (.atom .nilFunc),false⟩ := rfl
theorem zcH : wl 139 = some ⟨.other,1,8,some (.atom .nilFunc),false⟩ := rfl
theorem zcG : wl 142 = some ⟨.other,1,8,some (.atom (.map none)),false⟩ := rfl
theorem zcF : wl 149 = some ⟨.other,1,8,some (.atom .nilFunc),false⟩ := rfl
theorem zcE : wl 150 = some ⟨.other,1,8,some (.atom .nilFunc),false⟩ := rfl
theorem zcD : wl 151 = some ⟨.other,1,8,some (.atom .nilFunc),false⟩ := rfl
theorem zcC : wl 154 = some ⟨.other,1,16,some (.atom .nilIface),false⟩ := rfl
theorem zcB : wl 160 = some ⟨.other,1,8,some (.atom .nilFunc),false⟩ := rfl
theorem zcA : wl 174 = some ⟨.other,1,8,some (.atom .nilFunc),false⟩ := rfl
attribute [go_sem] zhG zhF zhE zhD zhC zfn zfm zfl zfk zfj zfi zfh zfg zff zfe zfd zfc zfb zfa zf9 zf8 zf7 zf6 zf5 zf4 zf3 zf2 zf1 zf0 zeZ zeY zeX zeW zcS zcR zcQ zcP zcO zcN zcM zcL zcK zcJ zcI zcH zcG zcF zcE zcD zcC zcB zcA
end Go.Own

namespace Go.Proofs
open Go.RowKit Go.Extern.Stop Go.Stop Go.Extern
set_option maxRecDepth 100000
theorem Tryz.isTypeOf (v : Value) (w : World) : (Extern.ReflectliteType.typeOf #[.iface 201 v]).run Tryz.prog w = .ok (.iface 188 (.agg #[.pointer (some ⟨1,201,none⟩)])) w := by kernel_rfl
theorem Tryz.isComparable (w : World) : (callFunc 132 #[.agg #[.pointer (some ⟨1,201,none⟩)]]).run Tryz.prog w = .ok (.value (.bool true)) w := by
 rw [@run_callFunc_extern Tryz.prog 132 _ (Extern.ReflectliteType.method fun t => do Extern.Rtype.noPackHeld "Comparable" t; pure (.bool (← typeInfo t).comparable)) Tryz.func132 (by kernel_rfl) (by kernel_rfl) (by kernel_rfl) (by kernel_rfl)]
 kernel_rfl
theorem Tryz.isMethodComparable (v : Value) (w : World) : (Go.method 338 188 v "Comparable").run Tryz.prog w = .ok (132,v) w := by kernel_rfl
theorem Tryz.isComp : (Tryz.prog.info? 201).map (·.comparable) = some true := by kernel_rfl
theorem Tryz.isSize : (Tryz.prog.info? 226).map (·.size) = some 1 := by kernel_rfl
theorem Tryz.is_same (a : Addr) (w : World) :
  Calls Tryz.prog 85 #[.iface 201 (.pointer (some a)),.iface 201 (.pointer (some a))] w fun e w' => e = .returned (.bool true) ∧ w' = w := by
 obtain ⟨i,hi,hcmp⟩ := Option.map_eq_some_iff.1 Tryz.isComp
 obtain ⟨j,hj,hjs⟩ := Option.map_eq_some_iff.1 Tryz.isSize
 have h8 := @run_callFunc_extern Tryz.prog 105 _ Extern.ReflectliteType.typeOf Tryz.func105 (by kernel_rfl) (by kernel_rfl) (by kernel_rfl) (by kernel_rfl)
 have tT := Tryz.isTypeOf
 have cT := Tryz.isComparable
 have mR := Tryz.isMethodComparable
 have heq := run_eql_iface_ptr_same (P := Tryz.prog) w a Tryz.underlying154 Tryz.underlying201 hi hcmp hj
 go_enter Tryz.func85,Tryz.ntmps85
 go_wp2
 refine wp_loop_rounds 1 ?_
 rw [rounds_succ]
 go_wp2
 go_ret
 exact ⟨rfl,rfl⟩
theorem Tryz.is_nil (b : Addr) (w : World) :
  Calls Tryz.prog 85 #[.nilIface,.iface 201 (.pointer (some b))] w fun e w' => e = .returned (.bool false) ∧ w' = w := by
 have hn := run_eql_iface_nil_left (P := Tryz.prog) w 201 (.pointer (some b)) Tryz.underlying154
 go_enter Tryz.func85,Tryz.ntmps85
 go_wp2
 go_ret
 exact ⟨rfl,rfl⟩
end Go.Proofs
namespace Go.Own
open Go.Proofs
theorem z7X {S : zt} {h : Array Obj} {x y : A} {vs : List Value} {F : List Nat} (hx : x.isD = true) (hy : y.isD = true) (q : X2 S h [x,y] vs F) : ∃ u v,vs = [u,v] ∧ vW S x u ∧ vW S y v ∧ F = [] := by
 match vs,q with
 | [u,v],q =>
  obtain ⟨F1,F2,rfl,q1,F3,F4,rfl,q2,q3⟩ := q
  have e3 : F4 = [] := q3
  subst e3
  have d : ∀ {x : A} {u : Value} {F : List Nat},x.isD = true → Has S h x u F → vW S x u ∧ F = [] := by
   intro x u F hx q
   rcases q with ⟨q,rfl⟩ | ⟨cs,q1,q2,q3⟩
   ·exact ⟨q.rep1 hx,rfl⟩
   ·obtain ⟨r,rfl⟩ := q1.isD hx
    exact ⟨⟨cs,r,q3⟩,rfl⟩
  obtain ⟨r1,rfl⟩ := d hx q1
  obtain ⟨r2,rfl⟩ := d hy q2
  exact ⟨u,v,rfl,r1,r2,rfl⟩
theorem zad (e : Bool) : XS Tryz.prog 85 [eEr 0 201 e,eEr 0 201 true] (eB e) := by
 refine ⟨⟨_,Tryz.func85,by kernel_rfl,by kernel_rfl⟩,?_⟩
 intro S w vs F hS hq hF
 obtain ⟨u,v,rfl,r1,r2,rfl⟩ := z7X rfl rfl hq
 obtain ⟨g1,g2⟩ := z8R r1
 obtain ⟨⟨s1,a,rfl⟩,_⟩ : (S 0 0 = some v ∧ ∃ a,v = .iface 201 (.pointer (some a))) ∧ True := ⟨(z8R r2).1 rfl,trivial⟩
 have fin : ∀ (b : Bool) {e' : Ending} {w' : World},e' = .returned (.bool b) ∧ w' = w → b = e → ∃ v S' F',e' = .returned v ∧ Ya (fun k => w.heap.size ≤ k ∨ k ∈ ([] : List Nat)) w w' ∧ (∀ b o u,S b o = some u → S' b o = some u) ∧ (∀ b o,b < w.heap.size → b ∉ ([] : List Nat) → S' b o = S b o) ∧ wQ S' w' ∧ Has S' w'.heap (eB e) v F' ∧ F'.Nodup ∧ ∀ k ∈ F',w.heap.size ≤ k ∨ k ∈ ([] : List Nat) := by
  rintro b e' w' ⟨rfl,rfl⟩ rfl
  exact ⟨_,S,[],rfl,Ya.refl _ _,fun _ _ _ h => h,fun _ _ _ _ => rfl,hS,.inl ⟨zA.2 ⟨rfl,rfl⟩,rfl⟩,by simp,by simp⟩
 cases e with
 | true =>
  obtain ⟨s2,b,rfl⟩ := g1 rfl
  rw [s1] at s2
  cases s2
  exact (Tryz.is_same _ w).mono fun e' w' h => fin true h rfl
 | false =>
  have := g2 rfl
  subst this
  exact (Tryz.is_nil _ w).mono fun e' w' h => fin false h rfl
structure z8x (α : Type) where
 e0 : α
 e1 : α
 deriving DecidableEq
section
variable {α : Type}
def KV (f : α → A) (x : z8x α) : A := .agg [f x.e0,f x.e1]
instance (f g : α → A) [h : jf f g] : jf (KV f) (KV g) := ⟨fun x => by simp [KV,A.loose,A.looses,h.lo]⟩
instance (f : α → A) [h : wY f] : wY (KV f) := ⟨fun x y q => by
 simp only [KV,A.agg.injEq,List.cons.injEq,and_true] at q
 cases x; cases y
 simp only [z8x.mk.injEq]
 exact ⟨h.inj _ _ q.1,h.inj _ _ q.2⟩⟩
end
structure ya (α : Type) where
 e0 : α
 e1 : α
 e2 : α
 e3 : α
 deriving DecidableEq
instance {α : Type} [BEq α] : BEq (ya α) := ⟨fun x y => (x.e0 == y.e0) && (x.e1 == y.e1) && (x.e2 == y.e2) && (x.e3 == y.e3)⟩
section
variable {α : Type}
def Wv (f : α → A) (x : ya α) : A := .agg [f x.e0,f x.e1,f x.e2,f x.e3]
instance (f : α → A) [h : Wd f] : Wd (Wv f) := ⟨fun x => by simp [Wv,A.isD,A.areD,h.isD]⟩
instance (f g : α → A) [h : jf f g] : jf (Wv f) (Wv g) := ⟨fun x => by simp [Wv,A.loose,A.looses,h.lo]⟩
instance (f g : α → A) [h : XR f g] : XR (Wv f) (Wv g) := ⟨fun x => by simp [Wv,A.live,A.lives,h.live],fun x => by simp [Wv,A.shut,A.shuts,h.sh]⟩
instance (f : α → A) [h : wY f] : wY (Wv f) := ⟨fun x y q => by
 simp only [Wv,A.agg.injEq,List.cons.injEq,and_true] at q
 cases x; cases y
 simp only [ya.mk.injEq]
 exact ⟨h.inj _ _ q.1,h.inj _ _ q.2.1,h.inj _ _ q.2.2.1,h.inj _ _ q.2.2.2⟩⟩
end
section
variable {α : Type}
def ya.toL (x : ya α) : List α := [x.e0,x.e1,x.e2,x.e3]
def ya.ofL : List α → ya α → ya α
 | [x0,x1,x2,x3],_ => ⟨x0,x1,x2,x3⟩
 | _,d => d
theorem ya.toL_ofL (l : List α) (d : ya α) (h : l.length = 4) : (ya.ofL l d).toL = l := by
 match l,h with
 | [x0,x1,x2,x3],_ => rfl
def ya.setI (x : ya α) (i : Int) (v : α) : ya α := ya.ofL (x.toL.set i.toNat v) x
theorem ya.setL (f : α → A) (x : ya α) (i : Int) (v : α) : (x.toL.map f).set i.toNat (f v) = ((ya.setI x i v).toL).map f := by
 unfold ya.setI
 rw [ya.toL_ofL _ _ (by simp [ya.toL]),List.map_set]
end
structure z4B (α : Type) where
 e0 : α
 e1 : α
 e2 : α
 e3 : α
 e4 : α
 deriving DecidableEq
section
variable {α : Type}
def W1 (f : α → A) (x : z4B α) : A := .agg [f x.e0,f x.e1,f x.e2,f x.e3,f x.e4]
instance (f g : α → A) [h : jf f g] : jf (W1 f) (W1 g) := ⟨fun x => by simp [W1,A.loose,A.looses,h.lo]⟩
instance (f : α → A) [h : wY f] : wY (W1 f) := ⟨fun x y q => by
 simp only [W1,A.agg.injEq,List.cons.injEq,and_true] at q
 cases x; cases y
 simp only [z4B.mk.injEq]
 exact ⟨h.inj _ _ q.1,h.inj _ _ q.2.1,h.inj _ _ q.2.2.1,h.inj _ _ q.2.2.2.1,h.inj _ _ q.2.2.2.2⟩⟩
end
structure xI where
 States : Int
 Final : Int
 Arcs : List (z4B Int)
def uX (f0 : Int → A) (f1 : Int → A) (f2 : List (z4B Int) → A) (x : xI) : A := .agg [f0 x.States,f1 x.Final,f2 x.Arcs]
instance (f0 : Int → A) (f1 : Int → A) (f2 : List (z4B Int) → A) (g0 : Int → A) (g1 : Int → A) (g2 : List (z4B Int) → A) [h0 : jf f0 g0] [h1 : jf f1 g1] [h2 : jf f2 g2] : jf (uX f0 f1 f2) (uX g0 g1 g2) := ⟨fun x => by simp [uX,A.loose,A.looses,h0.lo,h1.lo,h2.lo]⟩
instance (f0 : Int → A) (f1 : Int → A) (f2 : List (z4B Int) → A) [h0 : wY f0] [h1 : wY f1] [h2 : wY f2] : wY (uX f0 f1 f2) := ⟨fun x y h => by
 simp only [uX,A.agg.injEq,List.cons.injEq,and_true] at h
 cases x; cases y
 simp only [xI.mk.injEq]
 exact ⟨h0.inj _ _ h.1,h1.inj _ _ h.2.1,h2.inj _ _ h.2.2⟩⟩
structure yk where
 Channels : z8x Int
 Parts : List xI
def kZ (f0 : z8x Int → A) (f1 : List xI → A) (x : yk) : A := .agg [f0 x.Channels,f1 x.Parts]
instance (f0 : z8x Int → A) (f1 : List xI → A) (g0 : z8x Int → A) (g1 : List xI → A) [h0 : jf f0 g0] [h1 : jf f1 g1] : jf (kZ f0 f1) (kZ g0 g1) := ⟨fun x => by simp [kZ,A.loose,A.looses,h0.lo,h1.lo]⟩
instance (f0 : z8x Int → A) (f1 : List xI → A) [h0 : wY f0] [h1 : wY f1] : wY (kZ f0 f1) := ⟨fun x y h => by
 simp only [kZ,A.agg.injEq,List.cons.injEq,and_true] at h
 cases x; cases y
 simp only [yk.mk.injEq]
 exact ⟨h0.inj _ _ h.1,h1.inj _ _ h.2⟩⟩
structure zf where
 From : Int
 Kind : Int
 Channel : Int
 Message : Int
 To : Int
def xL (f0 : Int → A) (f1 : Int → A) (f2 : Int → A) (f3 : Int → A) (f4 : Int → A) (x : zf) : A := .agg [f0 x.From,f1 x.Kind,f2 x.Channel,f3 x.Message,f4 x.To]
instance (f0 : Int → A) (f1 : Int → A) (f2 : Int → A) (f3 : Int → A) (f4 : Int → A) [h0 : Wd f0] [h1 : Wd f1] [h2 : Wd f2] [h3 : Wd f3] [h4 : Wd f4] : Wd (xL f0 f1 f2 f3 f4) := ⟨fun x => by simp [xL,A.isD,A.areD,h0.isD,h1.isD,h2.isD,h3.isD,h4.isD]⟩
instance (f0 : Int → A) (f1 : Int → A) (f2 : Int → A) (f3 : Int → A) (f4 : Int → A) (g0 : Int → A) (g1 : Int → A) (g2 : Int → A) (g3 : Int → A) (g4 : Int → A) [h0 : jf f0 g0] [h1 : jf f1 g1] [h2 : jf f2 g2] [h3 : jf f3 g3] [h4 : jf f4 g4] : jf (xL f0 f1 f2 f3 f4) (xL g0 g1 g2 g3 g4) := ⟨fun x => by simp [xL,A.loose,A.looses,h0.lo,h1.lo,h2.lo,h3.lo,h4.lo]⟩
instance (f0 : Int → A) (f1 : Int → A) (f2 : Int → A) (f3 : Int → A) (f4 : Int → A) (g0 : Int → A) (g1 : Int → A) (g2 : Int → A) (g3 : Int → A) (g4 : Int → A) [h0 : XR f0 g0] [h1 : XR f1 g1] [h2 : XR f2 g2] [h3 : XR f3 g3] [h4 : XR f4 g4] : XR (xL f0 f1 f2 f3 f4) (xL g0 g1 g2 g3 g4) := ⟨fun x => by simp [xL,A.live,A.lives,h0.live,h1.live,h2.live,h3.live,h4.live],fun x => by simp [xL,A.shut,A.shuts,h0.sh,h1.sh,h2.sh,h3.sh,h4.sh]⟩
instance (f0 : Int → A) (f1 : Int → A) (f2 : Int → A) (f3 : Int → A) (f4 : Int → A) [h0 : wY f0] [h1 : wY f1] [h2 : wY f2] [h3 : wY f3] [h4 : wY f4] : wY (xL f0 f1 f2 f3 f4) := ⟨fun x y h => by
 simp only [xL,A.agg.injEq,List.cons.injEq,and_true] at h
 cases x; cases y
 simp only [zf.mk.injEq]
 exact ⟨h0.inj _ _ h.1,h1.inj _ _ h.2.1,h2.inj _ _ h.2.2.1,h3.inj _ _ h.2.2.2.1,h4.inj _ _ h.2.2.2.2⟩⟩
structure zh where
 States : Int
 Arcs : List zf
 Final : List Int
def yY (f0 : Int → A) (f1 : List zf → A) (f2 : List Int → A) (x : zh) : A := .agg [f0 x.States,f1 x.Arcs,f2 x.Final]
instance (f0 : Int → A) (f1 : List zf → A) (f2 : List Int → A) [h : zdN f2] : zdN (yY f0 f1 f2) := ⟨fun x => by simp [yY,A.isD,A.areD,h.no]⟩
instance (f0 : Int → A) (f1 : List zf → A) (f2 : List Int → A) (g0 : Int → A) (g1 : List zf → A) (g2 : List Int → A) [h0 : jf f0 g0] [h1 : jf f1 g1] [h2 : jf f2 g2] : jf (yY f0 f1 f2) (yY g0 g1 g2) := ⟨fun x => by simp [yY,A.loose,A.looses,h0.lo,h1.lo,h2.lo]⟩
instance (f0 : Int → A) (f1 : List zf → A) (f2 : List Int → A) (g0 : Int → A) (g1 : List zf → A) (g2 : List Int → A) [h0 : XR f0 g0] [h1 : XR f1 g1] [h2 : XR f2 g2] : XR (yY f0 f1 f2) (yY g0 g1 g2) := ⟨fun x => by simp [yY,A.live,A.lives,h0.live,h1.live,h2.live],fun x => by simp [yY,A.shut,A.shuts,h0.sh,h1.sh,h2.sh]⟩
instance (f0 : Int → A) (f1 : List zf → A) (f2 : List Int → A) [h0 : wY f0] [h1 : wY f1] [h2 : wY f2] : wY (yY f0 f1 f2) := ⟨fun x y h => by
 simp only [yY,A.agg.injEq,List.cons.injEq,and_true] at h
 cases x; cases y
 simp only [zh.mk.injEq]
 exact ⟨h0.inj _ _ h.1,h1.inj _ _ h.2.1,h2.inj _ _ h.2.2⟩⟩
structure z8 where
 Messages : Int
 Labels : Int
 Channels : List Int
 Parts : List zh
def wk (f0 : Int → A) (f1 : Int → A) (f2 : List Int → A) (f3 : List zh → A) (x : z8) : A := .agg [f0 x.Messages,f1 x.Labels,f2 x.Channels,f3 x.Parts]
instance (f0 : Int → A) (f1 : Int → A) (f2 : List Int → A) (f3 : List zh → A) (g0 : Int → A) (g1 : Int → A) (g2 : List Int → A) (g3 : List zh → A) [h0 : jf f0 g0] [h1 : jf f1 g1] [h2 : jf f2 g2] [h3 : jf f3 g3] : jf (wk f0 f1 f2 f3) (wk g0 g1 g2 g3) := ⟨fun x => by simp [wk,A.loose,A.looses,h0.lo,h1.lo,h2.lo,h3.lo]⟩
instance (f0 : Int → A) (f1 : Int → A) (f2 : List Int → A) (f3 : List zh → A) [h0 : wY f0] [h1 : wY f1] [h2 : wY f2] [h3 : wY f3] : wY (wk f0 f1 f2 f3) := ⟨fun x y h => by
 simp only [wk,A.agg.injEq,List.cons.injEq,and_true] at h
 cases x; cases y
 simp only [z8.mk.injEq]
 exact ⟨h0.inj _ _ h.1,h1.inj _ _ h.2.1,h2.inj _ _ h.2.2.1,h3.inj _ _ h.2.2.2⟩⟩
structure z7 where
 States : List Int
 Queues : List (List Int)
def zH (f0 : List Int → A) (f1 : List (List Int) → A) (x : z7) : A := .agg [f0 x.States,f1 x.Queues]
instance (f0 : List Int → A) (f1 : List (List Int) → A) [h0 : Wd f0] [h1 : Wd f1] : Wd (zH f0 f1) := ⟨fun x => by simp [zH,A.isD,A.areD,h0.isD,h1.isD]⟩
instance (f0 : List Int → A) (f1 : List (List Int) → A) (g0 : List Int → A) (g1 : List (List Int) → A) [h0 : jf f0 g0] [h1 : jf f1 g1] : jf (zH f0 f1) (zH g0 g1) := ⟨fun x => by simp [zH,A.loose,A.looses,h0.lo,h1.lo]⟩
instance (f0 : List Int → A) (f1 : List (List Int) → A) (g0 : List Int → A) (g1 : List (List Int) → A) [h0 : XR f0 g0] [h1 : XR f1 g1] : XR (zH f0 f1) (zH g0 g1) := ⟨fun x => by simp [zH,A.live,A.lives,h0.live,h1.live],fun x => by simp [zH,A.shut,A.shuts,h0.sh,h1.sh]⟩
instance (f0 : List Int → A) (f1 : List (List Int) → A) [h0 : wY f0] [h1 : wY f1] : wY (zH f0 f1) := ⟨fun x y h => by
 simp only [zH,A.agg.injEq,List.cons.injEq,and_true] at h
 cases x; cases y
 simp only [z7.mk.injEq]
 exact ⟨h0.inj _ _ h.1,h1.inj _ _ h.2⟩⟩
instance (f0 : List Int → A) (f1 : List (List Int) → A) (g0 : List Int → A) (g1 : List (List Int) → A) (x : z7) [∀ y,LeA (f0 y) (g0 y)] [∀ y,LeA (f1 y) (g1 y)] [∀ y,SzA (f0 y) (g0 y)] [∀ y,SzA (f1 y) (g1 y)] : LeA (zH f0 f1 x) (zH g0 g1 x) := by unfold zH; infer_instance
instance (f0 : List Int → A) (f1 : List (List Int) → A) (g0 : List Int → A) (g1 : List (List Int) → A) (x y : z7) [∀ y z,SzA (f0 y) (g0 z)] [∀ y z,SzA (f1 y) (g1 z)] : SzA (zH f0 f1 x) (zH g0 g1 y) := by unfold zH; infer_instance
structure ze where
 Part : Int
 Arc : Int
 Other : Int
 With : Int
def xv (f0 : Int → A) (f1 : Int → A) (f2 : Int → A) (f3 : Int → A) (x : ze) : A := .agg [f0 x.Part,f1 x.Arc,f2 x.Other,f3 x.With]
instance (f0 : Int → A) (f1 : Int → A) (f2 : Int → A) (f3 : Int → A) [h0 : Wd f0] [h1 : Wd f1] [h2 : Wd f2] [h3 : Wd f3] : Wd (xv f0 f1 f2 f3) := ⟨fun x => by simp [xv,A.isD,A.areD,h0.isD,h1.isD,h2.isD,h3.isD]⟩
instance (f0 : Int → A) (f1 : Int → A) (f2 : Int → A) (f3 : Int → A) (g0 : Int → A) (g1 : Int → A) (g2 : Int → A) (g3 : Int → A) [h0 : jf f0 g0] [h1 : jf f1 g1] [h2 : jf f2 g2] [h3 : jf f3 g3] : jf (xv f0 f1 f2 f3) (xv g0 g1 g2 g3) := ⟨fun x => by simp [xv,A.loose,A.looses,h0.lo,h1.lo,h2.lo,h3.lo]⟩
instance (f0 : Int → A) (f1 : Int → A) (f2 : Int → A) (f3 : Int → A) (g0 : Int → A) (g1 : Int → A) (g2 : Int → A) (g3 : Int → A) [h0 : XR f0 g0] [h1 : XR f1 g1] [h2 : XR f2 g2] [h3 : XR f3 g3] : XR (xv f0 f1 f2 f3) (xv g0 g1 g2 g3) := ⟨fun x => by simp [xv,A.live,A.lives,h0.live,h1.live,h2.live,h3.live],fun x => by simp [xv,A.shut,A.shuts,h0.sh,h1.sh,h2.sh,h3.sh]⟩
instance (f0 : Int → A) (f1 : Int → A) (f2 : Int → A) (f3 : Int → A) [h0 : wY f0] [h1 : wY f1] [h2 : wY f2] [h3 : wY f3] : wY (xv f0 f1 f2 f3) := ⟨fun x y h => by
 simp only [xv,A.agg.injEq,List.cons.injEq,and_true] at h
 cases x; cases y
 simp only [ze.mk.injEq]
 exact ⟨h0.inj _ _ h.1,h1.inj _ _ h.2.1,h2.inj _ _ h.2.2.1,h3.inj _ _ h.2.2.2⟩⟩
structure zg where
 Move : ze
 To : z7
def Wu (f0 : ze → A) (f1 : z7 → A) (x : zg) : A := .agg [f0 x.Move,f1 x.To]
instance (f0 : ze → A) (f1 : z7 → A) [h0 : Wd f0] [h1 : Wd f1] : Wd (Wu f0 f1) := ⟨fun x => by simp [Wu,A.isD,A.areD,h0.isD,h1.isD]⟩
structure z6 where
 Move : ze
 To : Int
def xu (f0 : ze → A) (f1 : Int → A) (x : z6) : A := .agg [f0 x.Move,f1 x.To]
instance (f0 : ze → A) (f1 : Int → A) [h0 : Wd f0] [h1 : Wd f1] : Wd (xu f0 f1) := ⟨fun x => by simp [xu,A.isD,A.areD,h0.isD,h1.isD]⟩
instance (f0 : ze → A) (f1 : Int → A) (g0 : ze → A) (g1 : Int → A) [h0 : jf f0 g0] [h1 : jf f1 g1] : jf (xu f0 f1) (xu g0 g1) := ⟨fun x => by simp [xu,A.loose,A.looses,h0.lo,h1.lo]⟩
instance (f0 : ze → A) (f1 : Int → A) (g0 : ze → A) (g1 : Int → A) [h0 : XR f0 g0] [h1 : XR f1 g1] : XR (xu f0 f1) (xu g0 g1) := ⟨fun x => by simp [xu,A.live,A.lives,h0.live,h1.live],fun x => by simp [xu,A.shut,A.shuts,h0.sh,h1.sh]⟩
instance (f0 : ze → A) (f1 : Int → A) [h0 : wY f0] [h1 : wY f1] : wY (xu f0 f1) := ⟨fun x y h => by
 simp only [xu,A.agg.injEq,List.cons.injEq,and_true] at h
 cases x; cases y
 simp only [z6.mk.injEq]
 exact ⟨h0.inj _ _ h.1,h1.inj _ _ h.2⟩⟩
structure zi where
 many_ : Int
 l_ : ya Int
instance : BEq zi := ⟨fun x y => (x.many_ == y.many_) && (x.l_ == y.l_)⟩
def yD (f0 : Int → A) (f1 : ya Int → A) (x : zi) : A := .agg [f0 x.many_,f1 x.l_]
instance (f0 : Int → A) (f1 : ya Int → A) [h0 : Wd f0] [h1 : Wd f1] : Wd (yD f0 f1) := ⟨fun x => by simp [yD,A.isD,A.areD,h0.isD,h1.isD]⟩
instance (f0 : Int → A) (f1 : ya Int → A) (g0 : Int → A) (g1 : ya Int → A) [h0 : jf f0 g0] [h1 : jf f1 g1] : jf (yD f0 f1) (yD g0 g1) := ⟨fun x => by simp [yD,A.loose,A.looses,h0.lo,h1.lo]⟩
instance (f0 : Int → A) (f1 : ya Int → A) (g0 : Int → A) (g1 : ya Int → A) [h0 : XR f0 g0] [h1 : XR f1 g1] : XR (yD f0 f1) (yD g0 g1) := ⟨fun x => by simp [yD,A.live,A.lives,h0.live,h1.live],fun x => by simp [yD,A.shut,A.shuts,h0.sh,h1.sh]⟩
instance (f0 : Int → A) (f1 : ya Int → A) [h0 : wY f0] [h1 : wY f1] : wY (yD f0 f1) := ⟨fun x y h => by
 simp only [yD,A.agg.injEq,List.cons.injEq,and_true] at h
 cases x; cases y
 simp only [zi.mk.injEq]
 exact ⟨h0.inj _ _ h.1,h1.inj _ _ h.2⟩⟩
structure zb where
 states_ : ya Int
 queues_ : ya zi
instance : BEq zb := ⟨fun x y => (x.states_ == y.states_) && (x.queues_ == y.queues_)⟩
def yX (f0 : ya Int → A) (f1 : ya zi → A) (x : zb) : A := .agg [f0 x.states_,f1 x.queues_]
instance (f0 : ya Int → A) (f1 : ya zi → A) [h0 : Wd f0] [h1 : Wd f1] : Wd (yX f0 f1) := ⟨fun x => by simp [yX,A.isD,A.areD,h0.isD,h1.isD]⟩
instance (f0 : ya Int → A) (f1 : ya zi → A) (g0 : ya Int → A) (g1 : ya zi → A) [h0 : jf f0 g0] [h1 : jf f1 g1] : jf (yX f0 f1) (yX g0 g1) := ⟨fun x => by simp [yX,A.loose,A.looses,h0.lo,h1.lo]⟩
instance (f0 : ya Int → A) (f1 : ya zi → A) (g0 : ya Int → A) (g1 : ya zi → A) [h0 : XR f0 g0] [h1 : XR f1 g1] : XR (yX f0 f1) (yX g0 g1) := ⟨fun x => by simp [yX,A.live,A.lives,h0.live,h1.live],fun x => by simp [yX,A.shut,A.shuts,h0.sh,h1.sh]⟩
instance (f0 : ya Int → A) (f1 : ya zi → A) [h0 : wY f0] [h1 : wY f1] : wY (yX f0 f1) := ⟨fun x y h => by
 simp only [yX,A.agg.injEq,List.cons.injEq,and_true] at h
 cases x; cases y
 simp only [zb.mk.injEq]
 exact ⟨h0.inj _ _ h.1,h1.inj _ _ h.2⟩⟩
structure za where
 Kind : Int
 Label : Int
 To : Int
 deriving DecidableEq
def wP (f0 : Int → A) (f1 : Int → A) (f2 : Int → A) (x : za) : A := .agg [f0 x.Kind,f1 x.Label,f2 x.To]
instance (f0 : Int → A) (f1 : Int → A) (f2 : Int → A) [h0 : Wd f0] [h1 : Wd f1] [h2 : Wd f2] : Wd (wP f0 f1 f2) := ⟨fun x => by simp [wP,A.isD,A.areD,h0.isD,h1.isD,h2.isD]⟩
instance (f0 : Int → A) (f1 : Int → A) (f2 : Int → A) (g0 : Int → A) (g1 : Int → A) (g2 : Int → A) [h0 : jf f0 g0] [h1 : jf f1 g1] [h2 : jf f2 g2] : jf (wP f0 f1 f2) (wP g0 g1 g2) := ⟨fun x => by simp [wP,A.loose,A.looses,h0.lo,h1.lo,h2.lo]⟩
instance (f0 : Int → A) (f1 : Int → A) (f2 : Int → A) (g0 : Int → A) (g1 : Int → A) (g2 : Int → A) [h0 : XR f0 g0] [h1 : XR f1 g1] [h2 : XR f2 g2] : XR (wP f0 f1 f2) (wP g0 g1 g2) := ⟨fun x => by simp [wP,A.live,A.lives,h0.live,h1.live,h2.live],fun x => by simp [wP,A.shut,A.shuts,h0.sh,h1.sh,h2.sh]⟩
instance (f0 : Int → A) (f1 : Int → A) (f2 : Int → A) [h0 : wY f0] [h1 : wY f1] [h2 : wY f2] : wY (wP f0 f1 f2) := ⟨fun x y h => by
 simp only [wP,A.agg.injEq,List.cons.injEq,and_true] at h
 cases x; cases y
 simp only [za.mk.injEq]
 exact ⟨h0.inj _ _ h.1,h1.inj _ _ h.2.1,h2.inj _ _ h.2.2⟩⟩
structure zr where
 Inputs : Int
 Outputs : Int
 Rows : List (List za)
def uI (f0 : Int → A) (f1 : Int → A) (f2 : List (List za) → A) (x : zr) : A := .agg [f0 x.Inputs,f1 x.Outputs,f2 x.Rows]
instance (f0 : Int → A) (f1 : Int → A) (f2 : List (List za) → A) (g0 : Int → A) (g1 : Int → A) (g2 : List (List za) → A) [h0 : jf f0 g0] [h1 : jf f1 g1] [h2 : jf f2 g2] : jf (uI f0 f1 f2) (uI g0 g1 g2) := ⟨fun x => by simp [uI,A.loose,A.looses,h0.lo,h1.lo,h2.lo]⟩
instance (f0 : Int → A) (f1 : Int → A) (f2 : List (List za) → A) [h0 : wY f0] [h1 : wY f1] [h2 : wY f2] : wY (uI f0 f1 f2) := ⟨fun x y h => by
 simp only [uI,A.agg.injEq,List.cons.injEq,and_true] at h
 cases x; cases y
 simp only [zr.mk.injEq]
 exact ⟨h0.inj _ _ h.1,h1.inj _ _ h.2.1,h2.inj _ _ h.2.2⟩⟩
structure zw where
 from_ : Int
 move_ : ze
def Jb (f0 : Int → A) (f1 : ze → A) (x : zw) : A := .agg [f0 x.from_,f1 x.move_]
instance : zgN (K := zb) (yX (Wv (eI .i64)) (Wv (yD (eI .i64) (Wv (eI .i64))))) := ⟨fun x y => by
 obtain ⟨⟨_,_,_,_⟩,⟨⟨_,⟨_,_,_,_⟩⟩,⟨_,⟨_,_,_,_⟩⟩,⟨_,⟨_,_,_,_⟩⟩,⟨_,⟨_,_,_,_⟩⟩⟩⟩ := x
 obtain ⟨⟨_,_,_,_⟩,⟨⟨_,⟨_,_,_,_⟩⟩,⟨_,⟨_,_,_,_⟩⟩,⟨_,⟨_,_,_,_⟩⟩,⟨_,⟨_,_,_,_⟩⟩⟩⟩ := y
 simp only [Wv,yD,yX,eI,J0,z0j,z0j.keyLs,yi,BEq.beq,Option.map_some,Option.some.injEq,Value.agg.injEq,List.cons_append,List.nil_append,List.append_nil,Array.mk.injEq,List.cons.injEq,Value.int.injEq,true_and,and_true,Bool.and_eq_true,decide_eq_true_eq,and_assoc]⟩
def Xx (x_ : yk) (out_Parts : List zh) : Option z8 :=
 some (z8.mk 2 2 ([w64 (Int.tmod x_.Channels.e0 3),w64 (Int.tmod x_.Channels.e1 3)]) out_Parts)
def Zy (i_ : Int) (out_Parts2 : List zh) : Option (LR (List zh × Int) (List zh)) :=
 some (.next (out_Parts2,w64 (i_ + 1)))
def j4 (out_Parts1 : List zh) (i_ : Int) (p_States : Int) (p_Arcs : List zf) (p_Final : List Int) : Option (LR (List zh × Int) (List zh)) :=
 gd (out_Parts1.length + ([(zh.mk p_States p_Arcs p_Final)] : List zh).length ≤ 4294967296) <|
 Zy i_ (out_Parts1 ++ ([(zh.mk p_States p_Arcs p_Final)] : List zh))
def j0 (Part_e : xI) (p_Arcs1 : List zf) (k_ : Int) (Arc_e : z4B Int) (arc_Channel : Int) : Option (LR (List zf × Int) ((Int × List zf × List Int))) :=
 gd (p_Arcs1.length + ([(zf.mk (Int.tmod (w64 (Arc_e.e0)) (w64 (1 + (w64 (Int.tmod Part_e.States 3))))) (Int.tmod Arc_e.e1 3) arc_Channel (w64 (Int.tmod Arc_e.e3 2)) (Int.tmod (w64 (Arc_e.e4)) (w64 (1 + (w64 (Int.tmod Part_e.States 3))))))] : List zf).length ≤ 4294967296) <|
 some (.next ((p_Arcs1 ++ ([(zf.mk (Int.tmod (w64 (Arc_e.e0)) (w64 (1 + (w64 (Int.tmod Part_e.States 3))))) (Int.tmod Arc_e.e1 3) arc_Channel (w64 (Int.tmod Arc_e.e3 2)) (Int.tmod (w64 (Arc_e.e4)) (w64 (1 + (w64 (Int.tmod Part_e.States 3))))))] : List zf)),w64 (k_ + 1)))
def kw (Part_e : xI) (p_Final1 : List Int) (p_Arcs1 : List zf) (k_ : Int) : Option (LR (List zf × Int) ((Int × List zf × List Int))) :=
 bif decide (k_ < ((Part_e.Arcs.length : Nat) : Int)) then (
  bif decide (k_ < 6) then (
   Option.bind (idx Part_e.Arcs k_) fun Arc_e =>
   gd (((w64 (1 + (w64 (Int.tmod Part_e.States 3)))) : Int) ≠ 0) <|
   gd ((3 : Int) ≠ 0) <|
   gd ((2 : Int) ≠ 0) <|
   gd ((2 : Int) ≠ 0) <|
   gd (((w64 (1 + (w64 (Int.tmod Part_e.States 3)))) : Int) ≠ 0) <|
   bif (Int.tmod Arc_e.e1 3) == 0 then (
    j0 Part_e p_Arcs1 k_ Arc_e 0)
   else (
    j0 Part_e p_Arcs1 k_ Arc_e (w64 (Int.tmod Arc_e.e2 2))))
  else (
   some (.done (w64 (1 + (w64 (Int.tmod Part_e.States 3))),p_Arcs1,p_Final1))))
 else (
  some (.done (w64 (1 + (w64 (Int.tmod Part_e.States 3))),p_Arcs1,p_Final1)))
def Zx (out_Parts1 : List zh) (i_ : Int) (Part_e : xI) (p_Final1 : List Int) : Option (LR (List zh × Int) (List zh)) :=
 Option.bind (loop (fun s => kw Part_e p_Final1 s.1 s.2) (([] : List zf),0)) fun t7 =>
 j4 out_Parts1 i_ t7.1 t7.2.1 t7.2.2
def jr (s_ : Int) (p_Final3 : List Int) : Option (LR (List Int × Int) (List Int)) :=
 some (.next (p_Final3,w64 (s_ + 1)))
def ku (Part_e : xI) (p_Final2 : List Int) (s_ : Int) : Option (LR (List Int × Int) (List Int)) :=
 bif decide (s_ < (w64 (1 + (w64 (Int.tmod Part_e.States 3))))) then (
  gd ((0 : Int) ≤ IntKind.u64.wrap (s_)) <|
  bif (z8X .u8 (Int.fdiv Part_e.Final (2 ^ (min (IntKind.u64.wrap (s_)).toNat 8))) 1) == 1 then (
   gd (p_Final2.length + ([s_] : List Int).length ≤ 4294967296) <|
   jr s_ (p_Final2 ++ ([s_] : List Int)))
  else (
   jr s_ p_Final2))
 else (
  some (.done p_Final2))
def uG (x_ : yk) (out_Parts1 : List zh) (i_ : Int) (x34 : Bool) : Option (LR (List zh × Int) (List zh)) :=
 bif decide (i_ < ((x_.Parts.length : Nat) : Int)) then (
  Option.bind (idx x_.Parts i_) fun Part_e =>
  gd ((3 : Int) ≠ 0) <|
  Option.bind (loop (fun s => ku Part_e s.1 s.2) (([] : List Int),0)) fun t9 =>
  Zx out_Parts1 i_ Part_e t9)
 else (
  j4 out_Parts1 i_ 1 ([] : List zf) ([] : List Int))
def kx (x_ : yk) (out_Parts1 : List zh) (i_ : Int) : Option (LR (List zh × Int) (List zh)) :=
 bif decide (i_ < 3) then (
  bif decide (i_ < ((x_.Parts.length : Nat) : Int)) then (
   uG x_ out_Parts1 i_ true)
  else (
   bif i_ == 0 then (
    uG x_ out_Parts1 i_ (i_ == 0))
   else (
    some (.done out_Parts1))))
 else (
  some (.done out_Parts1))
def Xb (x_ : yk) : Option z8 :=
 gd ((3 : Int) ≠ 0) <|
 gd ((3 : Int) ≠ 0) <|
 Option.bind (loop (fun s => kx x_ s.1 s.2) (([] : List zh),0)) fun t2 =>
 Xx x_ t2
def ZR (x_ : z8) : Option z7 :=
 gd ((0 : Int) ≤ ((x_.Parts.length : Nat) : Int) ∧ (((x_.Parts.length : Nat) : Int) : Int) ≤ 4294967296) <|
 gd ((0 : Int) ≤ ((x_.Channels.length : Nat) : Int) ∧ (((x_.Channels.length : Nat) : Int) : Int) ≤ 4294967296) <|
 some (z7.mk (List.replicate ((x_.Parts.length : Nat) : Int).toNat (0 : Int)) (List.replicate ((x_.Channels.length : Nat) : Int).toNat ([] : List Int)))
def Xr (out_States : List Int) (out_Queues : List (List Int)) : Option z7 :=
 some (z7.mk out_States out_Queues)
def kp (out_Queues1 : List (List Int)) (i_ : Int) (q_ : List Int) : Option (LR (List (List Int) × Int) (List (List Int))) :=
 gd (out_Queues1.length + ([q_] : List (List Int)).length ≤ 4294967296) <|
 some (.next ((out_Queues1 ++ ([q_] : List (List Int))),w64 (i_ + 1)))
def qX (c_ : z7) (channel : Int) (queue : List Int) (out_Queues1 : List (List Int)) (i_ : Int) : Option (LR (List (List Int) × Int) (List (List Int))) :=
 bif decide (i_ < ((c_.Queues.length : Nat) : Int)) then (
  Option.bind (idx c_.Queues i_) fun Queue_e =>
  bif i_ == channel then (
   kp out_Queues1 i_ queue)
  else (
   kp out_Queues1 i_ Queue_e))
 else (
  some (.done out_Queues1))
def Zv (c_ : z7) (channel : Int) (queue : List Int) (out_States : List Int) : Option z7 :=
 Option.bind (loop (fun s => qX c_ channel queue s.1 s.2) (([] : List (List Int)),0)) fun t3 =>
 Xr out_States t3
def ko (out_States1 : List Int) (i_1 : Int) (n_ : Int) : Option (LR (List Int × Int) (List Int)) :=
 gd (out_States1.length + ([n_] : List Int).length ≤ 4294967296) <|
 some (.next ((out_States1 ++ ([n_] : List Int)),w64 (i_1 + 1)))
def qW (c_ : z7) (part : Int) (state : Int) (out_States1 : List Int) (i_1 : Int) : Option (LR (List Int × Int) (List Int)) :=
 bif decide (i_1 < ((c_.States.length : Nat) : Int)) then (
  Option.bind (idx c_.States i_1) fun State_e =>
  bif i_1 == part then (
   ko out_States1 i_1 state)
  else (
   ko out_States1 i_1 State_e))
 else (
  some (.done out_States1))
def qY (c_ : z7) (part : Int) (state : Int) (channel : Int) (queue : List Int) : Option z7 :=
 Option.bind (loop (fun s => qW c_ part state s.1 s.2) (([] : List Int),0)) fun t5 =>
 Zv c_ channel queue t5
def YJ (out : List zg) : Option (List zg) :=
 some out
def kM (p_ : Int) (out2 : List zg) : Option (LR (List zg × Int) (List zg)) :=
 some (.next (out2,w64 (p_ + 1)))
def vJ (i_ : Int) (out4 : List zg) : Option (LR (List zg × Int) (List zg)) :=
 some (.next (out4,w64 (i_ + 1)))
def kL (o_ : Int) (out8 : List zg) : Option (LR (List zg × Int) (List zg)) :=
 some (.next (out8,w64 (o_ + 1)))
def wD (k_ : Int) (out10 : List zg) : Option (LR (List zg × Int) (List zg)) :=
 some (.next (out10,w64 (k_ + 1)))
def wC (x_ : z8) (c_ : z7) (p_ : Int) (i_ : Int) (Arc_e : zf) (o_ : Int) (out9 : List zg) (k_ : Int) : Option (LR (List zg × Int) (List zg)) :=
 Option.bind (idx x_.Parts o_) fun Part_e2 =>
 bif decide (k_ < ((Part_e2.Arcs.length : Nat) : Int)) then (
  bif o_ != p_ then (
   Option.bind (idx x_.Parts o_) fun Part_e3 =>
   Option.bind (idx Part_e3.Arcs k_) fun Arc_e1 =>
   bif Arc_e1.Kind == 2 then (
    Option.bind (idx c_.States o_) fun State_e1 =>
    bif Arc_e1.From == State_e1 then (
     bif Arc_e1.Channel == Arc_e.Channel then (
      bif Arc_e1.Message == Arc_e.Message then (
       Option.bind (qY c_ p_ Arc_e.To (-1) []) fun r_1 =>
       Option.bind (qY r_1 o_ Arc_e1.To (-1) []) fun r_2 =>
       gd (out9.length + ([(zg.mk (ze.mk p_ i_ o_ k_) r_2)] : List zg).length ≤ 4294967296) <|
       wD k_ (out9 ++ ([(zg.mk (ze.mk p_ i_ o_ k_) r_2)] : List zg)))
      else (
       wD k_ out9))
     else (
      wD k_ out9))
    else (
     wD k_ out9))
   else (
    wD k_ out9))
  else (
   some (.done out9)))
 else (
  some (.done out9))
def wx (x_ : z8) (c_ : z7) (p_ : Int) (i_ : Int) (Arc_e : zf) (Channel_e : Int) (out7 : List zg) (o_ : Int) : Option (LR (List zg × Int) (List zg)) :=
 bif decide (o_ < ((x_.Parts.length : Nat) : Int)) then (
  bif Arc_e.Kind == 1 then (
   bif Channel_e == 0 then (
    Option.bind (loop (fun s => wC x_ c_ p_ i_ Arc_e o_ s.1 s.2) (out7,0)) fun t10 =>
    kL o_ t10)
   else (
    some (.done out7)))
  else (
   some (.done out7)))
 else (
  some (.done out7))
def wy (x_ : z8) (c_ : z7) (p_ : Int) (i_ : Int) (Arc_e : zf) (Channel_e : Int) (out6 : List zg) : Option (LR (List zg × Int) (List zg)) :=
 Option.bind (loop (fun s => wx x_ c_ p_ i_ Arc_e Channel_e s.1 s.2) (out6,0)) fun t8 =>
 vJ i_ t8
def wW (x_ : z8) (c_ : z7) (p_ : Int) (i_ : Int) (Arc_e : zf) (Queue_e : List Int) (Channel_e : Int) (out5 : List zg) : Option (LR (List zg × Int) (List zg)) :=
 bif Arc_e.Kind == 2 then (
  bif decide (((Queue_e.length : Nat) : Int) > 0) then (
   Option.bind (idx Queue_e 0) fun Queue_e_e =>
   bif Queue_e_e == Arc_e.Message then (
    gd ((0 : Int) ≤ 1 ∧ (1 : Int) ≤ ((Queue_e.length : Nat) : Int) ∧ (((Queue_e.length : Nat) : Int) : Int) ≤ ((Queue_e.length : Nat) : Int)) <|
    Option.bind (qY c_ p_ Arc_e.To Arc_e.Channel (Queue_e.drop (1 : Int).toNat)) fun r_3 =>
    gd (out5.length + ([(zg.mk (ze.mk p_ i_ (-1) (-1)) r_3)] : List zg).length ≤ 4294967296) <|
    wy x_ c_ p_ i_ Arc_e Channel_e (out5 ++ ([(zg.mk (ze.mk p_ i_ (-1) (-1)) r_3)] : List zg)))
   else (
    wy x_ c_ p_ i_ Arc_e Channel_e out5))
  else (
   wy x_ c_ p_ i_ Arc_e Channel_e out5))
 else (
  wy x_ c_ p_ i_ Arc_e Channel_e out5)
def qa (x_ : z8) (c_ : z7) (p_ : Int) (out3 : List zg) (i_ : Int) : Option (LR (List zg × Int) (List zg)) :=
 Option.bind (idx x_.Parts p_) fun Part_e =>
 bif decide (i_ < ((Part_e.Arcs.length : Nat) : Int)) then (
  Option.bind (idx x_.Parts p_) fun Part_e1 =>
  Option.bind (idx Part_e1.Arcs i_) fun Arc_e =>
  Option.bind (idx c_.States p_) fun State_e =>
  bif Arc_e.From != State_e then (
   vJ i_ out3)
  else (
   bif Arc_e.Kind == 0 then (
    Option.bind (qY c_ p_ Arc_e.To (-1) []) fun r_ =>
    gd (out3.length + ([(zg.mk (ze.mk p_ i_ (-1) (-1)) r_)] : List zg).length ≤ 4294967296) <|
    vJ i_ (out3 ++ ([(zg.mk (ze.mk p_ i_ (-1) (-1)) r_)] : List zg)))
   else (
    Option.bind (idx c_.Queues Arc_e.Channel) fun Queue_e =>
    Option.bind (idx x_.Channels Arc_e.Channel) fun Channel_e =>
    bif Arc_e.Kind == 1 then (
     bif decide (((Queue_e.length : Nat) : Int) < Channel_e) then (
      gd (([] : List Int).length + Queue_e.length ≤ 4294967296) <|
      gd (Queue_e.length + ([Arc_e.Message] : List Int).length ≤ 4294967296) <|
      Option.bind (qY c_ p_ Arc_e.To Arc_e.Channel (Queue_e ++ ([Arc_e.Message] : List Int))) fun r_4 =>
      gd (out3.length + ([(zg.mk (ze.mk p_ i_ (-1) (-1)) r_4)] : List zg).length ≤ 4294967296) <|
      wW x_ c_ p_ i_ Arc_e Queue_e Channel_e (out3 ++ ([(zg.mk (ze.mk p_ i_ (-1) (-1)) r_4)] : List zg)))
     else (
      wW x_ c_ p_ i_ Arc_e Queue_e Channel_e out3))
    else (
     wW x_ c_ p_ i_ Arc_e Queue_e Channel_e out3))))
 else (
  some (.done out3))
def qd (x_ : z8) (c_ : z7) (out1 : List zg) (p_ : Int) : Option (LR (List zg × Int) (List zg)) :=
 bif decide (p_ < ((x_.Parts.length : Nat) : Int)) then (
  Option.bind (loop (fun s => qa x_ c_ p_ s.1 s.2) (out1,0)) fun t4 =>
  kM p_ t4)
 else (
  some (.done out1))
def ZP (x_ : z8) (c_ : z7) : Option (List zg) :=
 Option.bind (loop (fun s => qd x_ c_ s.1 s.2) (([] : List zg),0)) fun t2 =>
 YJ t2
def ZT : Option Int :=
 some 0
def qP (a_ : List Int) (b_ : List Int) (i_ : Int) : Option (LR Int (Unit ⊕ Int)) :=
 bif decide (i_ < ((a_.length : Nat) : Int)) then (
  Option.bind (idx a_ i_) fun a__e =>
  Option.bind (idx b_ i_) fun b__e =>
  bif a__e != b__e then (
   Option.bind (idx a_ i_) fun a__e1 =>
   Option.bind (idx b_ i_) fun b__e1 =>
   bif decide (a__e1 < b__e1) then (
    some (.done (.inr 1)))
   else (
    some (.done (.inr 0))))
  else (
   some (.next (w64 (i_ + 1)))))
 else (
  some (.done (.inl ())))
def jP (a_ : List Int) (b_ : List Int) : Option Int :=
 bif ((a_.length : Nat) : Int) != ((b_.length : Nat) : Int) then (
  bif decide (((a_.length : Nat) : Int) < ((b_.length : Nat) : Int)) then (
   some 1)
  else (
   some 0))
 else (
  Option.bind (loop (fun s => qP a_ b_ s) 0) fun t2 =>
  match t2 with
  | .inl p => ZT
  | .inr p => some p)
def ZF (a_ : List Int) (b_ : List Int) : Option Int :=
 bif ((a_.length : Nat) : Int) != ((b_.length : Nat) : Int) then (
  some 0)
 else (
  Option.bind (jP a_ b_) fun r_ =>
  bif r_ == 1 then (
   some 0)
  else (
   Option.bind (jP b_ a_) fun r_1 =>
   bif r_1 == 1 then (
    some 0)
   else (
    some 1)))
def Xs : Option Int :=
 some 1
def kq (a_ : z7) (b_ : z7) (i_ : Int) : Option (LR Int (Unit ⊕ Int)) :=
 bif decide (i_ < ((a_.Queues.length : Nat) : Int)) then (
  Option.bind (idx a_.Queues i_) fun Queue_e =>
  Option.bind (idx b_.Queues i_) fun Queue_e1 =>
  Option.bind (ZF Queue_e Queue_e1) fun r_1 =>
  bif r_1 == 0 then (
   some (.done (.inr 0)))
  else (
   some (.next (w64 (i_ + 1)))))
 else (
  some (.done (.inl ())))
def jO (a_ : z7) (b_ : z7) : Option Int :=
 Option.bind (ZF a_.States b_.States) fun r_ =>
 bif r_ == 0 then (
  some 0)
 else (
  bif ((a_.Queues.length : Nat) : Int) != ((b_.Queues.length : Nat) : Int) then (
   some 0)
  else (
   Option.bind (loop (fun s => kq a_ b_ s) 0) fun t2 =>
   match t2 with
   | .inl p => Xs
   | .inr p => some p))
def YK (list : List z7) (steps : List (List z6)) : Option (List z7 × List (List z6)) :=
 some (list,steps)
def kQ (n_ : Int) (list2 : List z7) (steps2 : List (List z6)) : Option (LR (List z7 × List (List z6) × Int) ((List z7 × List (List z6)))) :=
 some (.next (list2,steps2,w64 (n_ + 1)))
def kP (steps1 : List (List z6)) (n_ : Int) (list3 : List z7) (l_ : List z6) : Option (LR (List z7 × List (List z6) × Int) ((List z7 × List (List z6)))) :=
 gd (steps1.length + ([l_] : List (List z6)).length ≤ 4294967296) <|
 kQ n_ list3 (steps1 ++ ([l_] : List (List z6)))
def kO (i_ : Int) (list5 : List z7) (l_2 : List z6) : Option (LR (List z7 × List z6 × Int) ((List z7 × List z6))) :=
 some (.next (list5,l_2,w64 (i_ + 1)))
def jj (r_1 : List zg) (l_1 : List z6) (i_ : Int) (k_ : Int) (list6 : List z7) : Option (LR (List z7 × List z6 × Int) ((List z7 × List z6))) :=
 Option.bind (idx r_1 i_) fun r__e =>
 gd (l_1.length + ([(z6.mk r__e.Move k_)] : List z6).length ≤ 4294967296) <|
 kO i_ list6 (l_1 ++ ([(z6.mk r__e.Move k_)] : List z6))
def kN (r_1 : List zg) (list4 : List z7) (l_1 : List z6) (i_ : Int) (k_ : Int) : Option (LR (List z7 × List z6 × Int) ((List z7 × List z6))) :=
 bif k_ == ((list4.length : Nat) : Int) then (
  Option.bind (idx r_1 i_) fun r__e1 =>
  gd (list4.length + ([r__e1.To] : List z7).length ≤ 4294967296) <|
  jj r_1 l_1 i_ k_ (list4 ++ ([r__e1.To] : List z7)))
 else (
  jj r_1 l_1 i_ k_ list4)
def qe (r_1 : List zg) (list4 : List z7) (i_ : Int) (k_1 : Int) : Option (LR Int Int) :=
 bif decide (k_1 < ((list4.length : Nat) : Int)) then (
  Option.bind (idx list4 k_1) fun list_e1 =>
  Option.bind (idx r_1 i_) fun r__e2 =>
  Option.bind (jO list_e1 r__e2.To) fun r_2 =>
  bif r_2 == 0 then (
   some (.next (w64 (k_1 + 1))))
  else (
   some (.done k_1)))
 else (
  some (.done k_1))
def qg (r_1 : List zg) (list4 : List z7) (l_1 : List z6) (i_ : Int) : Option (LR (List z7 × List z6 × Int) ((List z7 × List z6))) :=
 bif decide (i_ < ((r_1.length : Nat) : Int)) then (
  Option.bind (loop (fun s => qe r_1 list4 i_ s) 0) fun t9 =>
  kN r_1 list4 l_1 i_ t9)
 else (
  some (.done (list4,l_1)))
def ji (x_ : z8) (most : Int) (list1 : List z7) (steps1 : List (List z6)) (n_ : Int) : Option (LR (List z7 × List (List z6) × Int) ((List z7 × List (List z6)))) :=
 bif decide (n_ < ((list1.length : Nat) : Int)) then (
  bif decide (((list1.length : Nat) : Int) ≤ most) then (
   Option.bind (idx list1 n_) fun list_e =>
   Option.bind (ZP x_ list_e) fun r_1 =>
   Option.bind (loop (fun s => qg r_1 s.1 s.2.1 s.2.2) (list1,([] : List z6),0)) fun t5 =>
   kP steps1 n_ t5.1 t5.2)
  else (
   some (.done (list1,steps1))))
 else (
  some (.done (list1,steps1)))
def ZQ (x_ : z8) (most : Int) : Option (List z7 × List (List z6)) :=
 Option.bind (ZR x_) fun r_ =>
 Option.bind (loop (fun s => ji x_ most s.1 s.2.1 s.2.2) (([r_] : List z7),([] : List (List z6)),0)) fun t2 =>
 YK t2.1 t2.2
def kc (n_ : Int) : Option Bool :=
 some (decide (n_ > 4))
def ws : Option Int :=
 some (-1)
def yR (s_ : List Int) (x8 : Int) : Option (LR Int (Unit ⊕ Int)) :=
 bif decide (x8 < ((s_.length : Nat) : Int)) then (
  Option.bind (idx s_ x8) fun s__e =>
  Option.bind (kc s__e) fun r_ =>
  bif r_ then (
   some (.done (.inr x8)))
  else (
   some (.next (w64 (x8 + 1)))))
 else (
  some (.done (.inl ())))
def xU (s_ : List Int) (f_ : Unit) : Option Int :=
 Option.bind (loop (fun s => yR s_ s) 0) fun t2 =>
 match t2 with
 | .inl p => ws
 | .inr p => some p
def yT (s_ : List Int) (f_ : Unit) : Option Bool :=
 Option.bind (xU s_ ()) fun r_ =>
 some (decide (r_ ≥ 0))
def ka (p_ : zh) : Option Bool :=
 bif decide (p_.States > 64) then (
  some true)
 else (
  some (decide (((p_.Arcs.length : Nat) : Int) > 256)))
def yP : Option Int :=
 some (-1)
def zO (s_ : List zh) (x8 : Int) : Option (LR Int (Unit ⊕ Int)) :=
 bif decide (x8 < ((s_.length : Nat) : Int)) then (
  Option.bind (idx s_ x8) fun s__e =>
  Option.bind (ka s__e) fun r_ =>
  bif r_ then (
   some (.done (.inr x8)))
  else (
   some (.next (w64 (x8 + 1)))))
 else (
  some (.done (.inl ())))
def ym (s_ : List zh) (f_ : Unit) : Option Int :=
 Option.bind (loop (fun s => zO s_ s) 0) fun t2 =>
 match t2 with
 | .inl p => yP
 | .inr p => some p
def zP (s_ : List zh) (f_ : Unit) : Option Bool :=
 Option.bind (ym s_ ()) fun r_ =>
 some (decide (r_ ≥ 0))
def ke (x_ : z8) : Option Bool :=
 bif decide (x_.Messages > 16) then (
  some true)
 else (
  bif decide (x_.Labels > 16) then (
   some true)
  else (
   bif decide (((x_.Channels.length : Nat) : Int) > 4) then (
    some true)
   else (
    bif decide (((x_.Parts.length : Nat) : Int) > 4) then (
     some true)
    else (
     Option.bind (yT x_.Channels ()) fun r_ =>
     bif r_ then (
      some true)
     else (
      Option.bind (zP x_.Parts ()) fun r_1 =>
      some r_1)))))
def kh (n_ : Int) : Option Bool :=
 some (decide (n_ < 0))
def wr : Option Int :=
 some (-1)
def yQ (s_ : List Int) (x8 : Int) : Option (LR Int (Unit ⊕ Int)) :=
 bif decide (x8 < ((s_.length : Nat) : Int)) then (
  Option.bind (idx s_ x8) fun s__e =>
  Option.bind (kh s__e) fun r_ =>
  bif r_ then (
   some (.done (.inr x8)))
  else (
   some (.next (w64 (x8 + 1)))))
 else (
  some (.done (.inl ())))
def xT (s_ : List Int) (f_ : Unit) : Option Int :=
 Option.bind (loop (fun s => yQ s_ s) 0) fun t2 =>
 match t2 with
 | .inl p => wr
 | .inr p => some p
def yS (s_ : List Int) (f_ : Unit) : Option Bool :=
 Option.bind (xT s_ ()) fun r_ =>
 some (decide (r_ ≥ 0))
def uZ (n_ : Int) (many : Int) : Option Bool :=
 bif decide (n_ ≥ 0) then (
  some (decide (n_ < many)))
 else (
  some false)
def kF : Option Bool :=
 some true
def vY (x9 : Int) (x29 : Bool) : Option (LR Int (Unit ⊕ Bool)) :=
 some (.next (w64 (x9 + 1)))
def wp (l_ : List Int) (many : Int) (x9 : Int) : Option (LR Int (Unit ⊕ Bool)) :=
 bif decide (x9 < ((l_.length : Nat) : Int)) then (
  Option.bind (idx l_ x9) fun l__e =>
  Option.bind (uZ l__e many) fun r_ =>
  bif !r_ then (
   some (.done (.inr false)))
  else (
   bif decide (x9 > 0) then (
    Option.bind (idx l_ (w64 (x9 - 1))) fun l__e1 =>
    bif decide (l__e ≤ l__e1) then (
     some (.done (.inr false)))
    else (
     vY x9 (decide (l__e ≤ l__e1))))
   else (
    vY x9 false)))
 else (
  some (.done (.inl ())))
def wV (l_ : List Int) (many : Int) : Option Bool :=
 Option.bind (loop (fun s => wp l_ many s) 0) fun t2 =>
 match t2 with
 | .inl p => kF
 | .inr p => some p
def wR (x_ : z8) (p_ : zh) (a_ : zf) : Option Bool :=
 Option.bind (uZ a_.From p_.States) fun r_ =>
 bif !r_ then (
  some false)
 else (
  Option.bind (uZ a_.To p_.States) fun r_1 =>
  bif !r_1 then (
   some false)
  else (
   bif decide (a_.Kind > 2) then (
    some false)
   else (
    bif a_.Kind == 0 then (
     bif a_.Channel == 0 then (
      Option.bind (uZ a_.Message x_.Labels) fun r_2 =>
      some r_2)
     else (
      some false))
    else (
     Option.bind (uZ a_.Channel ((x_.Channels.length : Nat) : Int)) fun r_3 =>
     bif r_3 then (
      Option.bind (uZ a_.Message x_.Messages) fun r_4 =>
      some r_4)
     else (
      some false)))))
def kg (a_ : zf) (x1 : z8) (x2 : zh) : Option Bool :=
 Option.bind (wR x1 x2 a_) fun r_ =>
 some (!r_)
def xe : Option Int :=
 some (-1)
def zT (s_ : List zf) (f_ : z8 × zh) (x8 : Int) : Option (LR Int (Unit ⊕ Int)) :=
 bif decide (x8 < ((s_.length : Nat) : Int)) then (
  Option.bind (idx s_ x8) fun s__e =>
  Option.bind (kg s__e f_.1 f_.2) fun r_ =>
  bif r_ then (
   some (.done (.inr x8)))
  else (
   some (.next (w64 (x8 + 1)))))
 else (
  some (.done (.inl ())))
def yu (s_ : List zf) (f_ : z8 × zh) : Option Int :=
 Option.bind (loop (fun s => zT s_ f_ s) 0) fun t2 =>
 match t2 with
 | .inl p => xe
 | .inr p => some p
def zU (s_ : List zf) (f_ : z8 × zh) : Option Bool :=
 Option.bind (yu s_ (f_.1,f_.2)) fun r_ =>
 some (decide (r_ ≥ 0))
def Zh : Option Int :=
 some 0
def uP (x_ : z8) (x29 : Int) : Option (LR Int (Unit ⊕ Int)) :=
 bif decide (x29 < ((x_.Parts.length : Nat) : Int)) then (
  Option.bind (idx x_.Parts x29) fun Part_e =>
  bif decide (Part_e.States < 1) then (
   some (.done (.inr 1)))
  else (
   Option.bind (wV Part_e.Final Part_e.States) fun r_2 =>
   bif !r_2 then (
    some (.done (.inr 1)))
   else (
    Option.bind (zU Part_e.Arcs (x_,Part_e)) fun r_3 =>
    bif r_3 then (
     some (.done (.inr 1)))
    else (
     some (.next (w64 (x29 + 1)))))))
 else (
  some (.done (.inl ())))
def ut (x_ : z8) : Option Int :=
 Option.bind (ke x_) fun r_ =>
 bif r_ then (
  some 3)
 else (
  bif decide (x_.Messages < 0) then (
   some 1)
  else (
   bif decide (x_.Labels < 0) then (
    some 1)
   else (
    bif decide (((x_.Parts.length : Nat) : Int) < 1) then (
     some 1)
    else (
     Option.bind (yS x_.Channels ()) fun r_1 =>
     bif r_1 then (
      some 1)
     else (
      Option.bind (loop (fun s => uP x_ s) 0) fun t2 =>
      match t2 with
      | .inl p => Zh
      | .inr p => some p)))))
def vS (x_ : z8) (s_ : zb) : Option (z8 × zb) :=
 some (x_,s_)
def wq (x_ : z8) (s_ : zb) (part : Int) : Option (z8 × Int × zb) :=
 some (x_,part,s_)
def wI {σ : Type} (x14 : Int) (sg2 : σ) : Option (LR (σ × Int) σ) :=
 some (.next (sg2,w64 (x14 + 1)))
def xP {σ : Type} (x1 : Int) (x2 : zb) (yy : σ → (Int × zf) → Option (σ × Bool)) (Part_e : zh) (sg1 : σ) (x14 : Int) : Option (LR (σ × Int) σ) :=
 bif decide (x14 < ((Part_e.Arcs.length : Nat) : Int)) then (
  Option.bind (idx Part_e.Arcs x14) fun Arc_e =>
  Option.bind (idx (ya.toL x2.states_) x1) fun cell =>
  bif Arc_e.From == cell then (
   Option.bind (yy sg1 (x14,Arc_e)) fun yr =>
   bif !yr.2 then (
    some (.done yr.1))
   else (
    wI x14 yr.1))
  else (
   wI x14 sg1))
 else (
  some (.done sg1))
def yx (x0 : z8) (x1 : Int) (x2 : zb) {σ : Type} (yy : σ → (Int × zf) → Option (σ × Bool)) (sg : σ) : Option σ :=
 Option.bind (idx x0.Parts x1) fun Part_e =>
 Option.bind (loop (fun s => xP x1 x2 yy Part_e s.1 s.2) (sg,0)) fun t1 =>
 some t1
def qU (q_ : zi) (m_ : Int) : Option zi :=
 Option.bind (idx (ya.toL q_.l_) q_.many_) fun cell =>
 Option.bind (some (ya.setI q_.l_ q_.many_ m_)) fun arr =>
 some (zi.mk (w64 (q_.many_ + 1)) arr)
def qq (q_ : zi) : Option zi :=
 Option.bind (some (ya.ofL (cpA (ya.toL q_.l_) 0 ((ya.toL q_.l_).drop 1)) q_.l_)) fun arr =>
 some (zi.mk (w64 (q_.many_ - 1)) (ya.mk arr.e0 arr.e1 arr.e2 0))
def v6 (arr : ya Int) (s_queues : ya zi) : Option (zb × Bool) :=
 some ((zb.mk arr s_queues),false)
def zR (s_ : zb) (a_ : zf) (arr : ya Int) (cell1 : zi) (x33 : Bool) : Option (zb × Bool) :=
 bif x33 then (
  some ((zb.mk arr s_.queues_),true))
 else (
  bif a_.Kind == 1 then (
   Option.bind (qU cell1 a_.Message) fun r_ =>
   Option.bind (idx (ya.toL s_.queues_) a_.Channel) fun cell2 =>
   Option.bind (some (ya.setI s_.queues_ a_.Channel r_)) fun arr1 =>
   v6 arr arr1)
  else (
   Option.bind (qq cell1) fun r_1 =>
   Option.bind (idx (ya.toL s_.queues_) a_.Channel) fun cell3 =>
   Option.bind (some (ya.setI s_.queues_ a_.Channel r_1)) fun arr2 =>
   v6 arr arr2))
def xN (x_ : z8) (s_ : zb) (part : Int) (a_ : zf) : Option (zb × Bool) :=
 Option.bind (idx (ya.toL s_.states_) part) fun cell =>
 Option.bind (some (ya.setI s_.states_ part a_.To)) fun arr =>
 Option.bind (idx (ya.toL s_.queues_) (mn a_.Channel 3)) fun cell1 =>
 bif a_.Kind == 0 then (
  some ((zb.mk arr s_.queues_),false))
 else (
  Option.bind (idx x_.Channels a_.Channel) fun Channel_e =>
  bif Channel_e == 0 then (
   zR s_ a_ arr cell1 (Channel_e == 0))
  else (
   bif a_.Kind == 1 then (
    Option.bind (idx x_.Channels a_.Channel) fun Channel_e1 =>
    bif cell1.many_ == Channel_e1 then (
     zR s_ a_ arr cell1 (cell1.many_ == Channel_e1))
    else (
     bif a_.Kind == 2 then (
      bif cell1.many_ == 0 then (
       zR s_ a_ arr cell1 true)
      else (
       zR s_ a_ arr cell1 (cell1.l_.e0 != a_.Message)))
     else (
      zR s_ a_ arr cell1 false)))
   else (
    bif a_.Kind == 2 then (
     bif cell1.many_ == 0 then (
      zR s_ a_ arr cell1 true)
     else (
      zR s_ a_ arr cell1 (cell1.l_.e0 != a_.Message)))
    else (
     zR s_ a_ arr cell1 false))))
def Kw (e t : Bool) : Option Bool := bif t then some e else none
def vI {σ : Type} (x16 : Int) (sg2 : σ) : Option (LR (σ × Int) σ) :=
 some (.next (sg2,w64 (x16 + 1)))
def ww {σ : Type} (x59 : Int) (sg5 : σ) : Option (LR (σ × Int) (σ ⊕ σ)) :=
 some (.next (sg5,w64 (x59 + 1)))
def xk {σ : Type} (x1 : zb) (yy : σ → (ze × zb) → Option (σ × Bool)) (x16 : Int) (x23 : Int) (x24 : zf) (x59 : Int) (sg6 : σ) (x69 : Int) (x70 : zf) : Option (LR σ σ) :=
 bif x70.Kind != 2 then (
  some (.next sg6))
 else (
  bif x70.Channel != x24.Channel then (
   some (.next sg6))
  else (
   bif x70.Message != x24.Message then (
    some (.next sg6))
   else (
    Option.bind (idx (ya.toL x1.states_) x16) fun cell =>
    Option.bind (some (ya.setI x1.states_ x16 x24.To)) fun arr =>
    Option.bind (idx (ya.toL arr) x59) fun cell1 =>
    Option.bind (some (ya.setI arr x59 x70.To)) fun arr1 =>
    Option.bind (yy sg6 ((ze.mk x16 x23 x59 x69),(zb.mk arr1 x1.queues_))) fun yr1 =>
    bif !yr1.2 then (
     some (.done yr1.1))
    else (
     some (.next yr1.1)))))
def xj {σ : Type} (x0 : z8) (x1 : zb) (yy : σ → (ze × zb) → Option (σ × Bool)) (x16 : Int) (x23 : Int) (x24 : zf) (sg4 : σ) (x59 : Int) : Option (LR (σ × Int) (σ ⊕ σ)) :=
 bif decide (x59 < ((x0.Parts.length : Nat) : Int)) then (
  bif x59 == x16 then (
   ww x59 sg4)
  else (
   Option.bind (wq x0 x1 x59) fun r_3 =>
   Option.bind (yx r_3.1 r_3.2.1 r_3.2.2 (yOf (fun s x => xk x1 yy x16 x23 x24 x59 s x.1 x.2)) (.next sg4)) fun t6 =>
   match t6 with
   | .next sg6 => (
    ww x59 sg6)
   | .done sg6 => (
    some (.done (.inr sg6)))))
 else (
  some (.done (.inl sg4)))
def xl {σ : Type} (x0 : z8) (x1 : zb) (yy : σ → (ze × zb) → Option (σ × Bool)) (x16 : Int) (sg3 : σ) (x23 : Int) (x24 : zf) : Option (LR σ σ) :=
 Option.bind (xN x0 x1 x16 x24) fun r_1 =>
 Option.bind (Kw r_1.2 true) fun r_2 =>
 bif !r_2 then (
  Option.bind (yy sg3 ((ze.mk x16 x23 (-1) (-1)),r_1.1)) fun yr =>
  bif !yr.2 then (
   some (.done yr.1))
  else (
   some (.next yr.1)))
 else (
  bif x24.Kind != 1 then (
   some (.next sg3))
  else (
   Option.bind (idx x0.Channels x24.Channel) fun Channel_e =>
   bif decide (Channel_e > 0) then (
    some (.next sg3))
   else (
    Option.bind (loop (fun s => xj x0 x1 yy x16 x23 x24 s.1 s.2) (sg3,0)) fun t4 =>
    match t4 with
    | .inl p => some (.next p)
    | .inr p => some (.done p))))
def xG {σ : Type} (x0 : z8) (x1 : zb) (yy : σ → (ze × zb) → Option (σ × Bool)) (sg1 : σ) (x16 : Int) : Option (LR (σ × Int) σ) :=
 bif decide (x16 < ((x0.Parts.length : Nat) : Int)) then (
  Option.bind (wq x0 x1 x16) fun r_ =>
  Option.bind (yx r_.1 r_.2.1 r_.2.2 (yOf (fun s x => xl x0 x1 yy x16 s x.1 x.2)) (.next sg1)) fun t3 =>
  match t3 with
  | .next sg3 => (
   vI x16 sg3)
  | .done sg3 => (
   some (.done sg3)))
 else (
  some (.done sg1))
def xF (x0 : z8) (x1 : zb) {σ : Type} (yy : σ → (ze × zb) → Option (σ × Bool)) (sg : σ) : Option σ :=
 Option.bind (loop (fun s => xG x0 x1 yy s.1 s.2) (sg,0)) fun t1 =>
 some t1
def ye (s_ : List z6) : Option (List z6) :=
 gd ((0 : Int) ≤ 0 ∧ (0 : Int) ≤ ((s_.length : Nat) : Int) ∧ (((s_.length : Nat) : Int) : Int) ≤ ((s_.length : Nat) : Int) ∧ (((s_.length : Nat) : Int) : Int) ≤ ((s_.length : Nat) : Int)) <|
 some ((s_.drop 0).take (((s_.length : Nat) : Int).toNat - 0))
def yn (s_ : List (List z6)) : Option (List (List z6)) :=
 some s_
def uq (x4 : Int) (list : List zb) (steps : List (List z6)) : Option (List zb × List (List z6) × Int) :=
 Option.bind (yn steps) fun r_ =>
 some (list,r_,0)
def wU (i_ : Int) (x42 : Int) (list2 : List zb) (at_1 : List (zb × Int)) (steps2 : List (List z6)) : Option (LR (Int × List zb × (List (zb × Int)) × List (List z6) × Int) ((Int × List zb × List (List z6)) ⊕ (List zb × List (List z6) × Int))) :=
 some (.next (x42,list2,at_1,steps2,w64 (i_ + 1)))
def w5 (steps1 : List (List z6)) (i_ : Int) (x43 : Int) (list3 : List zb) (at_2 : List (zb × Int)) (l_ : List z6) : Option (LR (Int × List zb × (List (zb × Int)) × List (List z6) × Int) ((Int × List zb × List (List z6)) ⊕ (List zb × List (List z6) × Int))) :=
 Option.bind (ye l_) fun r_1 =>
 gd (steps1.length + ([r_1] : List (List z6)).length ≤ 4294967296) <|
 wU i_ x43 list3 at_2 (steps1 ++ ([r_1] : List (List z6)))
def xx (x44 : Int) (l_1 : List z6) (x31 : ze) (list5 : List zb) (at_4 : List (zb × Int)) (n_ : Int) : Option (LR (Int × List zb × (List (zb × Int)) × List z6) ((Int × List zb × (List (zb × Int)) × List z6))) :=
 gd (l_1.length + ([(z6.mk x31 n_)] : List z6).length ≤ 4294967296) <|
 some (.next (x44,list5,at_4,(l_1 ++ ([(z6.mk x31 n_)] : List z6))))
def zK (x44 : Int) (list4 : List zb) (at_3 : List (zb × Int)) (l_1 : List z6) (x31 : ze) (x32 : zb) : Option (LR (Int × List zb × (List (zb × Int)) × List z6) ((Int × List zb × (List (zb × Int)) × List z6))) :=
 Option.bind (some ((KK at_3 x32).getD 0)) fun val =>
 bif !((KK at_3 x32).isSome) then (
  bif ((list4.length : Nat) : Int) == 1024 then (
   some (.done (3,list4,at_3,l_1)))
  else (
   gd (list4.length + ([x32] : List zb).length ≤ 4294967296) <|
   xx x44 l_1 x31 (list4 ++ ([x32] : List zb)) (KJ at_3 x32 ((list4.length : Nat) : Int)) ((list4.length : Nat) : Int)))
 else (
  xx x44 l_1 x31 list4 at_3 val)
def xZ (x_ : z8) (x41 : Int) (list1 : List zb) (at_ : List (zb × Int)) (steps1 : List (List z6)) (i_ : Int) : Option (LR (Int × List zb × (List (zb × Int)) × List (List z6) × Int) ((Int × List zb × List (List z6)) ⊕ (List zb × List (List z6) × Int))) :=
 bif decide (i_ < ((list1.length : Nat) : Int)) then (
  Option.bind (idx list1 i_) fun list_e =>
  Option.bind (vS x_ list_e) fun r_2 =>
  Option.bind (xF r_2.1 r_2.2 (yOf (fun s x => zK s.1 s.2.1 s.2.2.1 s.2.2.2 x.1 x.2)) (.next (x41,list1,at_,([] : List z6)))) fun t5 =>
  match t5 with
  | .next (x44,list4,at_3,l_1) => (
   w5 steps1 i_ x44 list4 at_3 l_1)
  | .done (x44,list4,at_3,l_1) => (
   some (.done (.inr (([] : List zb),([] : List (List z6)),x44)))))
 else (
  some (.done (.inl (x41,list1,steps1))))
def zM (x_ : z8) : Option (List zb × List (List z6) × Int) :=
 Option.bind (loop (fun s => xZ x_ s.1 s.2.1 s.2.2.1 s.2.2.2.1 s.2.2.2.2) (0,([(zb.mk (ya.mk 0 0 0 0) (ya.mk (zi.mk 0 (ya.mk 0 0 0 0)) (zi.mk 0 (ya.mk 0 0 0 0)) (zi.mk 0 (ya.mk 0 0 0 0)) (zi.mk 0 (ya.mk 0 0 0 0))))] : List zb),(KJ ([] : List (zb × Int)) (zb.mk (ya.mk 0 0 0 0) (ya.mk (zi.mk 0 (ya.mk 0 0 0 0)) (zi.mk 0 (ya.mk 0 0 0 0)) (zi.mk 0 (ya.mk 0 0 0 0)) (zi.mk 0 (ya.mk 0 0 0 0)))) 0),([] : List (List z6)),0)) fun t2 =>
 match t2 with
 | .inl p => uq p.1 p.2.1 p.2.2
 | .inr p => some p
def vC (x_ : Int) : Option Bool :=
 some (x_ != x_)
def Za (x_ : Int) (y_ : Int) : Option Bool :=
 Option.bind (vC x_) fun r_ =>
 bif r_ then (
  Option.bind (vC y_) fun r_1 =>
  bif !r_1 then (
   some true)
  else (
   some (decide (x_ < y_))))
 else (
  some (decide (x_ < y_)))
def uR (x_ : Int) : Option Bool :=
 some (x_ != x_)
def xD (x_ : List Int) (target : Int) (i_ : Int) : Option (Int × Bool) :=
 bif decide (i_ < ((x_.length : Nat) : Int)) then (
  Option.bind (idx x_ i_) fun x__e =>
  bif x__e == target then (
   some (i_,true))
  else (
   Option.bind (idx x_ i_) fun x__e1 =>
   Option.bind (uR x__e1) fun r_ =>
   bif r_ then (
    Option.bind (uR target) fun r_1 =>
    some (i_,r_1))
   else (
    some (i_,false))))
 else (
  some (i_,false))
def x7 (x_ : List Int) (target : Int) (i_1 : Int) (j_ : Int) : Option (LR (Int × Int) Int) :=
 bif decide (i_1 < j_) then (
  Option.bind (idx x_ (w64 (Int.fdiv (IntKind.u64.wrap (w64 (i_1 + j_))) (2 ^ 1)))) fun x__e2 =>
  Option.bind (Za x__e2 target) fun r_2 =>
  bif r_2 then (
   some (.next (w64 ((w64 (Int.fdiv (IntKind.u64.wrap (w64 (i_1 + j_))) (2 ^ 1))) + 1),j_)))
  else (
   some (.next (i_1,w64 (Int.fdiv (IntKind.u64.wrap (w64 (i_1 + j_))) (2 ^ 1))))))
 else (
  some (.done i_1))
def yV (x_ : List Int) (target : Int) : Option (Int × Bool) :=
 Option.bind (loop (fun s => x7 x_ target s.1 s.2) (0,((x_.length : Nat) : Int))) fun t2 =>
 xD x_ target t2
def qQ (x_ : Int) : Option Bool :=
 some (x_ != x_)
def ub (x_ : Int) (y_ : Int) : Option Int :=
 Option.bind (qQ x_) fun r_ =>
 Option.bind (qQ y_) fun r_1 =>
 bif r_ then (
  bif r_1 then (
   some 0)
  else (
   some (-1)))
 else (
  bif r_1 then (
   some 1)
  else (
   bif decide (x_ < y_) then (
    some (-1))
   else (
    bif decide (x_ > y_) then (
     some 1)
    else (
     some 0))))
def uc (x_ : Int) (y_ : Int) : Option Int :=
 Option.bind (vC x_) fun r_ =>
 Option.bind (vC y_) fun r_1 =>
 bif r_ then (
  bif r_1 then (
   some 0)
  else (
   some (-1)))
 else (
  bif r_1 then (
   some 1)
  else (
   bif decide (x_ < y_) then (
    some (-1))
   else (
    bif decide (x_ > y_) then (
     some 1)
    else (
     some 0))))
def XE : Option Int :=
 some 0
def ky (vals : List Int) (x8 : Int) : Option (LR Int (Unit ⊕ Int)) :=
 bif decide (x8 < ((vals.length : Nat) : Int)) then (
  Option.bind (idx vals x8) fun val_e =>
  bif val_e != 0 then (
   some (.done (.inr val_e)))
  else (
   some (.next (w64 (x8 + 1)))))
 else (
  some (.done (.inl ())))
def Xd (vals : List Int) : Option Int :=
 Option.bind (loop (fun s => ky vals s) 0) fun t2 =>
 match t2 with
 | .inl p => XE
 | .inr p => some p
def xR (a_ : za) (b_ : za) : Option Int :=
 Option.bind (ub a_.Kind b_.Kind) fun r_ =>
 Option.bind (uc a_.Label b_.Label) fun r_1 =>
 Option.bind (uc a_.To b_.To) fun r_2 =>
 Option.bind (Xd ([r_,r_1,r_2])) fun r_3 =>
 some r_3
def xA (s_ : List za) : Option (List za) :=
 some s_
def yM (k_ : Int) : Option (LR Int (Unit ⊕ List za)) :=
 some (.next (w64 (k_ + 1)))
def zY (s_1 : List za) (k_1 : Int) : Option (LR Int (Unit ⊕ List za)) :=
 gd ((0 : Int) ≤ k_1 ∧ (k_1 : Int) ≤ ((s_1.length : Nat) : Int)) <|
 gd ((0 : Int) ≤ k_1 ∧ (k_1 : Int) ≤ ((s_1.length : Nat) : Int)) <|
 gd ((0 : Int) ≤ k_1 ∧ (k_1 : Int) ≤ (((s_1.take k_1.toNat ++ List.replicate (s_1.length - k_1.toNat) (za.mk 0 0 0)).length : Nat) : Int)) <|
 some (.done (.inr ((s_1.take k_1.toNat ++ List.replicate (s_1.length - k_1.toNat) (za.mk 0 0 0)).take k_1.toNat)))
def zX (k2 : Int) (s_3 : List za) (k_3 : Int) : Option (LR (List za × Int × Int) ((List za × Int))) :=
 some (.next (s_3,k_3,w64 (k2 + 1)))
def zW (k_ : Int) (s_2 : List za) (k_2 : Int) (k2 : Int) : Option (LR (List za × Int × Int) ((List za × Int))) :=
 bif decide (k2 < ((s_2.length - k_.toNat : Nat) : Int)) then (
  gd ((0 : Int) ≤ k_ ∧ (0 : Int) ≤ k2) <|
  Option.bind (idx s_2 (k_ + k2)) fun s__e2 =>
  gd ((0 : Int) ≤ k_ ∧ (0 : Int) ≤ w64 (k2 - 1)) <|
  Option.bind (idx s_2 (k_ + (w64 (k2 - 1)))) fun s__e3 =>
  bif !((s__e2.Kind == s__e3.Kind) && ((s__e2.Label == s__e3.Label) && ((s__e2.To == s__e3.To) && true))) then (
   gd ((0 : Int) ≤ k_ ∧ (0 : Int) ≤ k2) <|
   Option.bind (idx s_2 (k_ + k2)) fun s__e4 =>
   Option.bind (idx s_2 k_2) fun s__e5 =>
   zX k2 (s_2.set k_2.toNat s__e4) (w64 (k_2 + 1)))
  else (
   zX k2 s_2 k_2))
 else (
  some (.done (s_2,k_2)))
def yd (s_ : List za) (k_ : Int) : Option (LR Int (Unit ⊕ List za)) :=
 bif decide (k_ < ((s_.length : Nat) : Int)) then (
  Option.bind (idx s_ k_) fun s__e =>
  Option.bind (idx s_ (w64 (k_ - 1))) fun s__e1 =>
  bif (s__e.Kind == s__e1.Kind) && ((s__e.Label == s__e1.Label) && ((s__e.To == s__e1.To) && true)) then (
   gd ((0 : Int) ≤ k_ ∧ (k_ : Int) ≤ ((s_.length : Nat) : Int)) <|
   Option.bind (loop (fun s => zW k_ s.1 s.2.1 s.2.2) (s_,k_,1)) fun t5 =>
   zY t5.1 t5.2)
  else (
   yM k_))
 else (
  some (.done (.inl ())))
def yq (s_ : List za) : Option (List za) :=
 bif decide (((s_.length : Nat) : Int) < 2) then (
  some s_)
 else (
  Option.bind (loop (fun s => yd s_ s) 1) fun t2 =>
  match t2 with
  | .inl p => xA s_
  | .inr p => some p)
def yU (s_ : List za) : Option (List za) :=
 gd ((0 : Int) ≤ 0 ∧ (0 : Int) ≤ ((s_.length : Nat) : Int) ∧ (((s_.length : Nat) : Int) : Int) ≤ ((s_.length : Nat) : Int) ∧ (((s_.length : Nat) : Int) : Int) ≤ ((s_.length : Nat) : Int)) <|
 some ((s_.drop 0).take (((s_.length : Nat) : Int).toNat - 0))
def yI (s_ : List (List za)) : Option (List (List za)) :=
 gd ((0 : Int) ≤ 0 ∧ (0 : Int) ≤ ((s_.length : Nat) : Int) ∧ (((s_.length : Nat) : Int) : Int) ≤ ((s_.length : Nat) : Int) ∧ (((s_.length : Nat) : Int) : Int) ≤ ((s_.length : Nat) : Int)) <|
 some ((s_.drop 0).take (((s_.length : Nat) : Int).toNat - 0))
def vt (x_ : z8) (out_Rows : List (List za)) : Option (zr × Int) :=
 Option.bind (yI out_Rows) fun r_3 =>
 some ((zr.mk 0 x_.Labels r_3),0)
def qt (x51 : Int) (out_Rows2 : List (List za)) : Option (LR (List (List za) × Int) (List (List za) ⊕ (zr × Int))) :=
 some (.next (out_Rows2,w64 (x51 + 1)))
def qr (out_Rows1 : List (List za)) (x51 : Int) (row : List za) : Option (LR (List (List za) × Int) (List (List za) ⊕ (zr × Int))) :=
 Option.bind (z4S (fun x y => xR x y) row) fun sorted =>
 Option.bind (yq sorted) fun r_4 =>
 Option.bind (yU r_4) fun r_5 =>
 bif decide (((r_5.length : Nat) : Int) > 256) then (
  some (.done (.inr ((zr.mk 0 0 []),3))))
 else (
  gd (out_Rows1.length + ([r_5] : List (List za)).length ≤ 4294967296) <|
  qt x51 (out_Rows1 ++ ([r_5] : List (List za))))
def wK (row1 : List za) (x57 : Int) (u__e : z6) (arc_Kind : Int) (arc_Label : Int) : Option (LR (List za × Int) (List za)) :=
 gd (row1.length + ([(za.mk arc_Kind arc_Label u__e.To)] : List za).length ≤ 4294967296) <|
 some (.next ((row1 ++ ([(za.mk arc_Kind arc_Label u__e.To)] : List za)),w64 (x57 + 1)))
def wJ (x_ : z8) (hidden : List Int) (u_ : List z6) (row1 : List za) (x57 : Int) : Option (LR (List za × Int) (List za)) :=
 bif decide (x57 < ((u_.length : Nat) : Int)) then (
  Option.bind (idx u_ x57) fun u__e =>
  Option.bind (idx x_.Parts u__e.Move.Part) fun Part_e =>
  Option.bind (idx Part_e.Arcs u__e.Move.Arc) fun Arc_e =>
  Option.bind (yV hidden Arc_e.Message) fun r_6 =>
  bif Arc_e.Kind == 0 then (
   bif !r_6.2 then (
    wK row1 x57 u__e 2 Arc_e.Message)
   else (
    wK row1 x57 u__e 0 0))
  else (
   wK row1 x57 u__e 0 0))
 else (
  some (.done row1))
def vq (x_ : z8) (hidden : List Int) (r_2 : List zb × List (List z6) × Int) (out_Rows1 : List (List za)) (x51 : Int) : Option (LR (List (List za) × Int) (List (List za) ⊕ (zr × Int))) :=
 bif decide (x51 < ((r_2.2.1.length : Nat) : Int)) then (
  Option.bind (idx r_2.2.1 x51) fun u_ =>
  Option.bind (loop (fun s => wJ x_ hidden u_ s.1 s.2) (([] : List za),0)) fun t5 =>
  qr out_Rows1 x51 t5)
 else (
  some (.done (.inl out_Rows1)))
def yo (x_ : z8) (hidden : List Int) : Option (zr × Int) :=
 Option.bind (ut x_) fun r_ =>
 bif r_ != 0 then (
  some ((zr.mk 0 0 []),r_))
 else (
  Option.bind (wV hidden x_.Labels) fun r_1 =>
  bif !r_1 then (
   some ((zr.mk 0 0 []),1))
  else (
   Option.bind (zM x_) fun r_2 =>
   bif r_2.2.2 != 0 then (
    some ((zr.mk 0 0 []),r_2.2.2))
   else (
    bif decide (((r_2.1.length : Nat) : Int) > 64) then (
     some ((zr.mk 0 0 []),3))
    else (
     Option.bind (loop (fun s => vq x_ hidden r_2 s.1 s.2) (([] : List (List za)),0)) fun t2 =>
     match t2 with
     | .inl p => vt x_ p
     | .inr p => some p))))
def Xa (capacity : Int) (arcs : List zf) : Option z8 :=
 some (z8.mk 1 1 ([capacity]) ([(zh.mk 2 ([(zf.mk 0 1 0 0 1),(zf.mk 1 0 0 0 0)]) []),(zh.mk 1 arcs [])]))
def wi (s_ : List Int) : Option (List Int) :=
 gd (([] : List Int).length + s_.length ≤ 4294967296) <|
 some s_
def wt (s_ : List Int) : Option (List Int) :=
 gd ((0 : Int) ≤ 0 ∧ (0 : Int) ≤ ((s_.length : Nat) : Int) ∧ (((s_.length : Nat) : Int) : Int) ≤ ((s_.length : Nat) : Int) ∧ (((s_.length : Nat) : Int) : Int) ≤ ((s_.length : Nat) : Int)) <|
 some ((s_.drop 0).take (((s_.length : Nat) : Int).toNat - 0))
def vZ (r_1 : List Int) (c_Queues : List (List Int)) : Option z7 :=
 some (z7.mk r_1 c_Queues)
def xr (x_ : z8) (s_ : zb) (c_Queues1 : List (List Int)) (x23 : Int) : Option (LR (List (List Int) × Int) (List (List Int))) :=
 bif decide (x23 < (((List.replicate ((x_.Channels.length : Nat) : Int).toNat ([] : List Int)).length : Nat) : Int)) then (
  Option.bind (idx (ya.toL s_.queues_) x23) fun cell =>
  gd ((0 : Int) ≤ cell.many_ ∧ (cell.many_ : Int) ≤ (([cell.l_.e0,cell.l_.e1,cell.l_.e2,cell.l_.e3].length : Nat) : Int)) <|
  Option.bind (wi ([cell.l_.e0,cell.l_.e1,cell.l_.e2,cell.l_.e3].take cell.many_.toNat)) fun r_2 =>
  Option.bind (wt r_2) fun r_3 =>
  Option.bind (idx c_Queues1 x23) fun c_Queue_e =>
  some (.next ((c_Queues1.set x23.toNat r_3),w64 (x23 + 1))))
 else (
  some (.done c_Queues1))
def xQ (x_ : z8) (s_ : zb) : Option z7 :=
 gd ((0 : Int) ≤ ((x_.Parts.length : Nat) : Int) ∧ (((x_.Parts.length : Nat) : Int) : Int) ≤ (([s_.states_.e0,s_.states_.e1,s_.states_.e2,s_.states_.e3].length : Nat) : Int)) <|
 Option.bind (wi ([s_.states_.e0,s_.states_.e1,s_.states_.e2,s_.states_.e3].take ((x_.Parts.length : Nat) : Int).toNat)) fun r_ =>
 Option.bind (wt r_) fun r_1 =>
 gd ((0 : Int) ≤ ((x_.Channels.length : Nat) : Int) ∧ (((x_.Channels.length : Nat) : Int) : Int) ≤ 4294967296) <|
 Option.bind (loop (fun s => xr x_ s_ s.1 s.2) ((List.replicate ((x_.Channels.length : Nat) : Int).toNat ([] : List Int)),0)) fun t2 =>
 vZ r_1 t2
def xm (s_ : List z7) : Option (List z7) :=
 gd ((0 : Int) ≤ 0 ∧ (0 : Int) ≤ ((s_.length : Nat) : Int) ∧ (((s_.length : Nat) : Int) : Int) ≤ ((s_.length : Nat) : Int) ∧ (((s_.length : Nat) : Int) : Int) ≤ ((s_.length : Nat) : Int)) <|
 some ((s_.drop 0).take (((s_.length : Nat) : Int).toNat - 0))
def Zg (r_1 : List zb × List (List z6) × Int) (out : List z7) : Option (List z7 × List (List z6) × Int) :=
 Option.bind (xm out) fun r_2 =>
 some (r_2,r_1.2.1,0)
def Zf (x_ : z8) (r_1 : List zb × List (List z6) × Int) (out1 : List z7) (x28 : Int) : Option (LR (List z7 × Int) (List z7)) :=
 bif decide (x28 < ((r_1.1.length : Nat) : Int)) then (
  Option.bind (idx r_1.1 x28) fun u_ =>
  Option.bind (xQ x_ u_) fun r_3 =>
  gd (out1.length + ([r_3] : List z7).length ≤ 4294967296) <|
  some (.next ((out1 ++ ([r_3] : List z7)),w64 (x28 + 1))))
 else (
  some (.done out1))
def Zt (x_ : z8) : Option (List z7 × List (List z6) × Int) :=
 Option.bind (ut x_) fun r_ =>
 bif r_ != 0 then (
  some (([] : List z7),([] : List (List z6)),r_))
 else (
  Option.bind (zM x_) fun r_1 =>
  bif r_1.2.2 != 0 then (
   some (([] : List z7),([] : List (List z6)),r_1.2.2))
  else (
   Option.bind (loop (fun s => Zf x_ r_1 s.1 s.2) (([] : List z7),0)) fun t2 =>
   Zg r_1 t2))
def vA (a_ : Int) (b_ : Int) (queue : List Int) : Option z7 :=
 some (z7.mk ([a_,b_]) ([queue]))
def qj (part : Int) (arc : Int) : Option ze :=
 some (ze.mk part arc (-1) (-1))
def YU : Option Int :=
 some 1
def YT (i_ : Int) (x74 : List z6) (x75 : List z6) (x76 : Int) (x79 : List z6) (x80 : List z6) (x81 : Int) (x82 : Bool) : Option (LR Int (Unit ⊕ Int)) :=
 some (.next (w64 (i_ + 1)))
def YR (s_ : List (List z6)) (steps : List (List z6)) (i_ : Int) (s__e1 : List z6) (s__e2 : List z6) (k_ : Int) : Option (LR Int ((List z6 × List z6 × Int × List z6 × List z6 × Int × Bool) ⊕ Int)) :=
 Option.bind (idx s_ i_) fun s__e3 =>
 bif decide (k_ < ((s__e3.length : Nat) : Int)) then (
  Option.bind (idx s_ i_) fun s__e4 =>
  Option.bind (idx s__e4 k_) fun s__e_e =>
  Option.bind (idx steps i_) fun step_e1 =>
  Option.bind (idx step_e1 k_) fun step_e_e =>
  bif !((s__e_e.Move.Part == step_e_e.Move.Part) && ((s__e_e.Move.Arc == step_e_e.Move.Arc) && ((s__e_e.Move.Other == step_e_e.Move.Other) && ((s__e_e.Move.With == step_e_e.Move.With) && ((s__e_e.To == step_e_e.To) && true))))) then (
   some (.done (.inr 0)))
  else (
   some (.next (w64 (k_ + 1)))))
 else (
  some (.done (.inl (s__e1,s__e1,((s__e1.length : Nat) : Int),s__e2,s__e2,((s__e2.length : Nat) : Int),((s__e1.length : Nat) : Int) != ((s__e2.length : Nat) : Int)))))
def YS (s_ : List (List z6)) (steps : List (List z6)) (i_ : Int) : Option (LR Int (Unit ⊕ Int)) :=
 bif decide (i_ < ((s_.length : Nat) : Int)) then (
  Option.bind (idx s_ i_) fun s__e =>
  Option.bind (idx steps i_) fun step_e =>
  bif ((s__e.length : Nat) : Int) != ((step_e.length : Nat) : Int) then (
   some (.done (.inr 0)))
  else (
   Option.bind (idx s_ i_) fun s__e1 =>
   Option.bind (idx s_ i_) fun s__e2 =>
   bif ((s__e1.length : Nat) : Int) != ((s__e2.length : Nat) : Int) then (
    some (.done (.inr 0)))
   else (
    Option.bind (loop (fun s => YR s_ steps i_ s__e1 s__e2 s) 0) fun t5 =>
    match t5 with
    | .inl p => YT i_ p.1 p.2.1 p.2.2.1 p.2.2.2.1 p.2.2.2.2.1 p.2.2.2.2.2.1 p.2.2.2.2.2.2
    | .inr p => some (.done (.inr p)))))
 else (
  some (.done (.inl ())))
def YV (s_ : List (List z6)) (steps : List (List z6)) : Option Int :=
 Option.bind (loop (fun s => YS s_ steps s) 0) fun t3 =>
 match t3 with
 | .inl p => YU
 | .inr p => some p
def YQ (c_ : List z7) (list : List z7) (i_1 : Int) : Option (LR Int (Unit ⊕ Int)) :=
 bif decide (i_1 < ((c_.length : Nat) : Int)) then (
  Option.bind (idx c_ i_1) fun c__e =>
  Option.bind (idx list i_1) fun list_e =>
  Option.bind (jO c__e list_e) fun r_ =>
  bif r_ == 0 then (
   some (.done (.inr 0)))
  else (
   some (.next (w64 (i_1 + 1)))))
 else (
  some (.done (.inl ())))
def Xw (c_ : List z7) (s_ : List (List z6)) (list : List z7) (steps : List (List z6)) : Option Int :=
 bif ((c_.length : Nat) : Int) != ((list.length : Nat) : Int) then (
  some 0)
 else (
  bif ((s_.length : Nat) : Int) != ((steps.length : Nat) : Int) then (
   some 0)
  else (
   bif ((c_.length : Nat) : Int) != ((c_.length : Nat) : Int) then (
    some 0)
   else (
    bif ((s_.length : Nat) : Int) != ((s_.length : Nat) : Int) then (
     some 0)
    else (
     Option.bind (loop (fun s => YQ c_ list s) 0) fun t6 =>
     match t6 with
     | .inl p => YV s_ steps
     | .inr p => some p))))
def Zm : Option Int :=
 some 1
def Zl (i_ : Int) : Option (LR Int (Unit ⊕ Int)) :=
 some (.next (w64 (i_ + 1)))
def uU (a_ : zr) (b_ : zr) (i_ : Int) (k_ : Int) : Option (LR Int (Unit ⊕ Int)) :=
 Option.bind (idx a_.Rows i_) fun Row_e2 =>
 bif decide (k_ < ((Row_e2.length : Nat) : Int)) then (
  Option.bind (idx a_.Rows i_) fun Row_e3 =>
  Option.bind (idx Row_e3 k_) fun Row_e_e =>
  Option.bind (idx b_.Rows i_) fun Row_e4 =>
  Option.bind (idx Row_e4 k_) fun Row_e_e1 =>
  bif !((Row_e_e.Kind == Row_e_e1.Kind) && ((Row_e_e.Label == Row_e_e1.Label) && ((Row_e_e.To == Row_e_e1.To) && true))) then (
   some (.done (.inr 0)))
  else (
   some (.next (w64 (k_ + 1)))))
 else (
  some (.done (.inl ())))
def uV (a_ : zr) (b_ : zr) (i_ : Int) : Option (LR Int (Unit ⊕ Int)) :=
 bif decide (i_ < ((a_.Rows.length : Nat) : Int)) then (
  Option.bind (idx a_.Rows i_) fun Row_e =>
  Option.bind (idx b_.Rows i_) fun Row_e1 =>
  bif ((Row_e.length : Nat) : Int) != ((Row_e1.length : Nat) : Int) then (
   some (.done (.inr 0)))
  else (
   Option.bind (loop (fun s => uU a_ b_ i_ s) 0) fun t4 =>
   match t4 with
   | .inl p => Zl i_
   | .inr p => some (.done (.inr p))))
 else (
  some (.done (.inl ())))
def uF (a_ : zr) (b_ : zr) : Option Int :=
 bif a_.Inputs != b_.Inputs then (
  some 0)
 else (
  bif a_.Outputs != b_.Outputs then (
   some 0)
  else (
   bif ((a_.Rows.length : Nat) : Int) != ((b_.Rows.length : Nat) : Int) then (
    some 0)
   else (
    Option.bind (loop (fun s => uV a_ b_ s) 0) fun t2 =>
    match t2 with
    | .inl p => Zm
    | .inr p => some p)))
def uD : Option Int :=
 some (-1)
def uC (s_ : List Int) (v_ : Int) (x8 : Int) : Option (LR Int (Unit ⊕ Int)) :=
 bif decide (x8 < ((s_.length : Nat) : Int)) then (
  Option.bind (idx s_ x8) fun s__e =>
  bif v_ == s__e then (
   some (.done (.inr x8)))
  else (
   some (.next (w64 (x8 + 1)))))
 else (
  some (.done (.inl ())))
def je (s_ : List Int) (v_ : Int) : Option Int :=
 Option.bind (loop (fun s => uC s_ v_ s) 0) fun t2 =>
 match t2 with
 | .inl p => uD
 | .inr p => some p
def uE (s_ : List Int) (v_ : Int) : Option Bool :=
 Option.bind (je s_ v_) fun r_ =>
 some (decide (r_ ≥ 0))
def up (s_ : zb) : Option Bool :=
 some ((s_.queues_.e0.many_ == 0) && ((s_.queues_.e0.l_.e0 == 0) && ((s_.queues_.e0.l_.e1 == 0) && ((s_.queues_.e0.l_.e2 == 0) && ((s_.queues_.e0.l_.e3 == 0) && ((s_.queues_.e1.many_ == 0) && ((s_.queues_.e1.l_.e0 == 0) && ((s_.queues_.e1.l_.e1 == 0) && ((s_.queues_.e1.l_.e2 == 0) && ((s_.queues_.e1.l_.e3 == 0) && ((s_.queues_.e2.many_ == 0) && ((s_.queues_.e2.l_.e0 == 0) && ((s_.queues_.e2.l_.e1 == 0) && ((s_.queues_.e2.l_.e2 == 0) && ((s_.queues_.e2.l_.e3 == 0) && ((s_.queues_.e3.many_ == 0) && ((s_.queues_.e3.l_.e0 == 0) && ((s_.queues_.e3.l_.e1 == 0) && ((s_.queues_.e3.l_.e2 == 0) && ((s_.queues_.e3.l_.e3 == 0) && true))))))))))))))))))))
def uo (x_ : z8) (s_ : zb) (x10 : Int) : Option (LR Int (Unit ⊕ Bool)) :=
 bif decide (x10 < ((x_.Parts.length : Nat) : Int)) then (
  Option.bind (idx x_.Parts x10) fun Part_e =>
  Option.bind (idx (ya.toL s_.states_) x10) fun cell =>
  Option.bind (uE Part_e.Final cell) fun r_ =>
  bif !r_ then (
   some (.done (.inr false)))
  else (
   some (.next (w64 (x10 + 1)))))
 else (
  some (.done (.inl ())))
def j9 (x_ : z8) (s_ : zb) : Option Bool :=
 Option.bind (loop (fun s => uo x_ s_ s) 0) fun t2 =>
 match t2 with
 | .inl p => up s_
 | .inr p => some p
def xc (s_1 : List ze) (i_ : Int) (j_ : Int) : Option (LR (List ze × Int × Int) (List ze)) :=
 bif decide (i_ < j_) then (
  Option.bind (idx s_1 j_) fun s__e =>
  Option.bind (idx s_1 i_) fun s__e1 =>
  Option.bind (idx s_1 i_) fun s__e2 =>
  Option.bind (idx (s_1.set i_.toNat s__e) j_) fun u_e =>
  some (.next (((s_1.set i_.toNat s__e).set j_.toNat s__e1),w64 (i_ + 1),w64 (j_ - 1))))
 else (
  some (.done s_1))
def xq (s_ : List ze) : Option (List ze) :=
 Option.bind (loop (fun s => xc s.1 s.2.1 s.2.2) (s_,0,w64 (((s_.length : Nat) : Int) - 1))) fun t1 =>
 some t1
def xC (s_ : List ze) : Option (List ze) :=
 gd ((0 : Int) ≤ 0 ∧ (0 : Int) ≤ ((s_.length : Nat) : Int) ∧ (((s_.length : Nat) : Int) : Int) ≤ ((s_.length : Nat) : Int) ∧ (((s_.length : Nat) : Int) : Int) ≤ ((s_.length : Nat) : Int)) <|
 some ((s_.drop 0).take (((s_.length : Nat) : Int).toNat - 0))
def jI : Option (List ze × z7 × Int) :=
 some (([] : List ze),(z7.mk [] []),7)
def ur (x69 : Int) : Option (LR Int (Unit ⊕ (List ze × z7 × Int))) :=
 some (.next (w64 (x69 + 1)))
def jH (x_ : z8) (r_1 : List zb × List (List z6) × Int) (x69 : Int) (run : List ze) : Option (LR Int (Unit ⊕ (List ze × z7 × Int))) :=
 Option.bind (xq run) fun r_3 =>
 Option.bind (xC r_3) fun r_4 =>
 Option.bind (idx r_1.1 x69) fun u_2 =>
 Option.bind (xQ x_ u_2) fun r_5 =>
 some (.done (.inr (r_4,r_5,0)))
def jE (by_ : List zw) (run1 : List ze) (n_ : Int) : Option (LR (List ze × Int) (List ze)) :=
 bif decide (n_ > 0) then (
  Option.bind (idx by_ n_) fun by__e =>
  gd (run1.length + ([by__e.move_] : List ze).length ≤ 4294967296) <|
  Option.bind (idx by_ n_) fun by__e1 =>
  some (.next ((run1 ++ ([by__e.move_] : List ze)),by__e1.from_)))
 else (
  some (.done run1))
def jF (x_ : z8) (r_1 : List zb × List (List z6) × Int) (by_ : List zw) (x69 : Int) : Option (LR Int (Unit ⊕ (List ze × z7 × Int))) :=
 bif decide (x69 < ((r_1.2.1.length : Nat) : Int)) then (
  Option.bind (idx r_1.2.1 x69) fun u_ =>
  bif decide (((u_.length : Nat) : Int) > 0) then (
   ur x69)
  else (
   Option.bind (idx r_1.1 x69) fun u_1 =>
   Option.bind (j9 x_ u_1) fun r_2 =>
   bif r_2 then (
    ur x69)
   else (
    Option.bind (loop (fun s => jE by_ s.1 s.2) (([] : List ze),x69)) fun t6 =>
    jH x_ r_1 x69 t6)))
 else (
  some (.done (.inl ())))
def jJ (x_ : z8) (r_1 : List zb × List (List z6) × Int) (by_ : List zw) : Option (List ze × z7 × Int) :=
 Option.bind (loop (fun s => jF x_ r_1 by_ s) 0) fun t3 =>
 match t3 with
 | .inl p => jI
 | .inr p => some p
def jG (x40 : Int) (by_2 : List zw) (seen1 : Int) : Option (LR (List zw × Int × Int) (List zw)) :=
 some (.next (by_2,seen1,w64 (x40 + 1)))
def vT (x47 : Int) (by_4 : List zw) (seen3 : Int) : Option (LR (List zw × Int × Int) ((List zw × Int))) :=
 some (.next (by_4,seen3,w64 (x47 + 1)))
def jC (x40 : Int) (u_3 : List z6) (by_3 : List zw) (seen2 : Int) (x47 : Int) : Option (LR (List zw × Int × Int) ((List zw × Int))) :=
 bif decide (x47 < ((u_3.length : Nat) : Int)) then (
  Option.bind (idx u_3 x47) fun u__e =>
  bif u__e.To == seen2 then (
   Option.bind (idx by_3 u__e.To) fun by__e2 =>
   vT x47 (by_3.set u__e.To.toNat (zw.mk x40 u__e.Move)) (w64 (seen2 + 1)))
  else (
   vT x47 by_3 seen2))
 else (
  some (.done (by_3,seen2)))
def jD (r_1 : List zb × List (List z6) × Int) (by_1 : List zw) (seen : Int) (x40 : Int) : Option (LR (List zw × Int × Int) (List zw)) :=
 bif decide (x40 < ((r_1.2.1.length : Nat) : Int)) then (
  Option.bind (idx r_1.2.1 x40) fun u_3 =>
  Option.bind (loop (fun s => jC x40 u_3 s.1 s.2.1 s.2.2) (by_1,seen,0)) fun t9 =>
  jG x40 t9.1 t9.2)
 else (
  some (.done by_1))
def js (x_ : z8) : Option (List ze × z7 × Int) :=
 Option.bind (ut x_) fun r_ =>
 bif r_ != 0 then (
  some (([] : List ze),(z7.mk [] []),r_))
 else (
  Option.bind (zM x_) fun r_1 =>
  bif r_1.2.2 != 0 then (
   some (([] : List ze),(z7.mk [] []),r_1.2.2))
  else (
   gd ((0 : Int) ≤ ((r_1.1.length : Nat) : Int) ∧ (((r_1.1.length : Nat) : Int) : Int) ≤ 4294967296) <|
   Option.bind (loop (fun s => jD r_1 s.1 s.2.1 s.2.2) ((List.replicate ((r_1.1.length : Nat) : Int).toNat (zw.mk 0 (ze.mk 0 0 0 0))),1,0)) fun t7 =>
   jJ x_ r_1 t7))
def YP : Option Int :=
 some 1
def YO (a_ : List ze) (b_ : List ze) (i_ : Int) : Option (LR Int (Unit ⊕ Int)) :=
 bif decide (i_ < ((a_.length : Nat) : Int)) then (
  Option.bind (idx a_ i_) fun a__e =>
  Option.bind (idx b_ i_) fun b__e =>
  bif !((a__e.Part == b__e.Part) && ((a__e.Arc == b__e.Arc) && ((a__e.Other == b__e.Other) && ((a__e.With == b__e.With) && true)))) then (
   some (.done (.inr 0)))
  else (
   some (.next (w64 (i_ + 1)))))
 else (
  some (.done (.inl ())))
def Vp (a_ : List ze) (b_ : List ze) : Option Int :=
 bif ((a_.length : Nat) : Int) != ((b_.length : Nat) : Int) then (
  some 0)
 else (
  bif ((a_.length : Nat) : Int) != ((a_.length : Nat) : Int) then (
   some 0)
  else (
   Option.bind (loop (fun s => YO a_ b_ s) 0) fun t2 =>
   match t2 with
   | .inl p => YP
   | .inr p => some p))
def ZX : Option Bool :=
 Option.bind (Xa 1 ([(zf.mk 0 2 0 0 0)])) fun r_ =>
 Option.bind (Zt r_) fun r_1 =>
 Option.bind (vA 0 0 []) fun r_2 =>
 Option.bind (vA 1 0 ([0])) fun r_3 =>
 Option.bind (vA 0 0 ([0])) fun r_4 =>
 Option.bind (vA 1 0 []) fun r_5 =>
 Option.bind (qj 0 0) fun r_6 =>
 Option.bind (qj 0 1) fun r_7 =>
 Option.bind (qj 1 0) fun r_8 =>
 Option.bind (qj 1 0) fun r_9 =>
 Option.bind (qj 0 1) fun r_10 =>
 bif r_1.2.2 != 0 then (
  some false)
 else (
  Option.bind (Xw r_1.1 r_1.2.1 ([r_2,r_3,r_4,r_5]) ([[(z6.mk r_6 1)],[(z6.mk r_7 2),(z6.mk r_8 3)],[(z6.mk r_9 0)],[(z6.mk r_10 0)]])) fun r_11 =>
  bif r_11 == 0 then (
   some false)
  else (
   Option.bind (yo r_ []) fun r_12 =>
   Option.bind (yo r_ ([0])) fun r_13 =>
   bif r_12.2 != 0 then (
    some false)
   else (
    bif r_13.2 != 0 then (
     some false)
    else (
     Option.bind (uF r_12.1 (zr.mk 0 1 ([[(za.mk 0 0 1)],[(za.mk 0 0 3),(za.mk 2 0 2)],[(za.mk 0 0 0)],[(za.mk 2 0 0)]]))) fun r_14 =>
     Option.bind (uF r_13.1 (zr.mk 0 1 ([[(za.mk 0 0 1)],[(za.mk 0 0 2),(za.mk 0 0 3)],[(za.mk 0 0 0)],[(za.mk 0 0 0)]]))) fun r_15 =>
     bif (w64 (r_14 * r_15)) == 0 then (
      some false)
     else (
      Option.bind (js r_) fun r_16 =>
      Option.bind (Xa 1 []) fun r_17 =>
      Option.bind (js r_17) fun r_18 =>
      Option.bind (Xa 0 ([(zf.mk 0 2 0 0 0)])) fun r_19 =>
      Option.bind (Zt r_19) fun r_20 =>
      bif r_16.2.2 != 7 then (
       some false)
      else (
       bif r_18.2.2 != 0 then (
        some false)
       else (
        Option.bind (qj 0 0) fun r_21 =>
        Option.bind (qj 0 1) fun r_22 =>
        Option.bind (Vp r_18.1 ([r_21,r_22])) fun r_23 =>
        bif r_23 == 0 then (
         some false)
        else (
         Option.bind (vA 0 0 ([0])) fun r_24 =>
         Option.bind (jO r_18.2.1 r_24) fun r_25 =>
         bif r_25 == 0 then (
          some false)
         else (
          bif r_20.2.2 != 0 then (
           some false)
          else (
           Option.bind (vA 0 0 []) fun r_26 =>
           Option.bind (vA 1 0 []) fun r_27 =>
           Option.bind (qj 0 1) fun r_28 =>
           Option.bind (Xw r_20.1 r_20.2.1 ([r_26,r_27]) ([[(z6.mk (ze.mk 0 0 1 0) 1)],[(z6.mk r_28 0)]])) fun r_29 =>
           some (r_29 == 1)))))))))))
def Wk : Option Int :=
 some 0
def kU (l_ : List Int) (n_ : Int) (i_ : Int) : Option (LR Int (Unit ⊕ Int)) :=
 bif decide (i_ < ((l_.length : Nat) : Int)) then (
  Option.bind (idx l_ i_) fun l__e =>
  bif l__e == n_ then (
   some (.done (.inr 1)))
  else (
   some (.next (w64 (i_ + 1)))))
 else (
  some (.done (.inl ())))
def X4 (l_ : List Int) (n_ : Int) : Option Int :=
 Option.bind (loop (fun s => kU l_ n_ s) 0) fun t2 =>
 match t2 with
 | .inl p => Wk
 | .inr p => some p
def jA (x_ : z8) (out_Rows : List (List za)) : Option zr :=
 some (zr.mk 0 x_.Labels out_Rows)
def jz (n_ : Int) (out_Rows2 : List (List za)) : Option (LR (List (List za) × Int) (List (List za))) :=
 some (.next (out_Rows2,w64 (n_ + 1)))
def jy (out_Rows1 : List (List za)) (n_ : Int) (row : List za) : Option (LR (List (List za) × Int) (List (List za))) :=
 gd (out_Rows1.length + ([row] : List (List za)).length ≤ 4294967296) <|
 jz n_ (out_Rows1 ++ ([row] : List (List za)))
def jx (kind : Int) (row2 : List za) : Option (LR (List za × Int) (List za)) :=
 some (.next (row2,IntKind.u8.wrap (kind + 1)))
def jw (label : Int) (row4 : List za) : Option (LR (List za × Int) (List za)) :=
 some (.next (row4,w64 (label + 1)))
def u6 (to : Int) (row6 : List za) : Option (LR (List za × Int) (List za)) :=
 some (.next (row6,w64 (to + 1)))
def qZ (kind : Int) (label : Int) (row5 : List za) (to : Int) (there : Int) : Option (LR (List za × Int) (List za)) :=
 bif there == 1 then (
  gd (row5.length + ([(za.mk kind label to)] : List za).length ≤ 4294967296) <|
  u6 to (row5 ++ ([(za.mk kind label to)] : List za)))
 else (
  u6 to row5)
def u4 (i_ : Int) (there2 : Int) : Option (LR (Int × Int) Int) :=
 some (.next (there2,w64 (i_ + 1)))
def xy (kind : Int) (label : Int) (to : Int) (there1 : Int) (i_ : Int) (step_e_e : z6) (shown_Kind : Int) (shown_Label : Int) : Option (LR (Int × Int) Int) :=
 bif (shown_Kind == kind) && ((shown_Label == label) && ((step_e_e.To == to) && true)) then (
  u4 i_ 1)
 else (
  u4 i_ there1)
def wX (x_ : z8) (steps : List (List z6)) (hidden : List Int) (n_ : Int) (kind : Int) (label : Int) (to : Int) (there1 : Int) (i_ : Int) : Option (LR (Int × Int) Int) :=
 Option.bind (idx steps n_) fun step_e =>
 bif decide (i_ < ((step_e.length : Nat) : Int)) then (
  Option.bind (idx steps n_) fun step_e1 =>
  Option.bind (idx step_e1 i_) fun step_e_e =>
  Option.bind (idx x_.Parts step_e_e.Move.Part) fun Part_e =>
  Option.bind (idx Part_e.Arcs step_e_e.Move.Arc) fun Arc_e =>
  bif Arc_e.Kind == 0 then (
   Option.bind (X4 hidden Arc_e.Message) fun r_ =>
   bif r_ == 0 then (
    xy kind label to there1 i_ step_e_e 2 Arc_e.Message)
   else (
    xy kind label to there1 i_ step_e_e 0 0))
  else (
   xy kind label to there1 i_ step_e_e 0 0))
 else (
  some (.done there1))
def vg (x_ : z8) (steps : List (List z6)) (hidden : List Int) (n_ : Int) (kind : Int) (label : Int) (row5 : List za) (to : Int) : Option (LR (List za × Int) (List za)) :=
 bif decide (to < ((steps.length : Nat) : Int)) then (
  Option.bind (loop (fun s => wX x_ steps hidden n_ kind label to s.1 s.2) (0,0)) fun t12 =>
  qZ kind label row5 to t12)
 else (
  some (.done row5))
def vh (x_ : z8) (steps : List (List z6)) (hidden : List Int) (n_ : Int) (kind : Int) (row3 : List za) (label : Int) : Option (LR (List za × Int) (List za)) :=
 bif decide (label < (mx 1 x_.Labels)) then (
  Option.bind (loop (fun s => vg x_ steps hidden n_ kind label s.1 s.2) (row3,0)) fun t9 =>
  jw label t9)
 else (
  some (.done row3))
def wN (x_ : z8) (steps : List (List z6)) (hidden : List Int) (n_ : Int) (row1 : List za) (kind : Int) : Option (LR (List za × Int) (List za)) :=
 bif decide (kind < 3) then (
  Option.bind (loop (fun s => vh x_ steps hidden n_ kind s.1 s.2) (row1,0)) fun t7 =>
  jx kind t7)
 else (
  some (.done row1))
def vj (x_ : z8) (steps : List (List z6)) (hidden : List Int) (out_Rows1 : List (List za)) (n_ : Int) : Option (LR (List (List za) × Int) (List (List za))) :=
 bif decide (n_ < ((steps.length : Nat) : Int)) then (
  Option.bind (loop (fun s => wN x_ steps hidden n_ s.1 s.2) (([] : List za),0)) fun t5 =>
  jy out_Rows1 n_ t5)
 else (
  some (.done out_Rows1))
def kr (x_ : z8) (steps : List (List z6)) (hidden : List Int) : Option zr :=
 Option.bind (loop (fun s => vj x_ steps hidden s.1 s.2) (([] : List (List za)),0)) fun t2 =>
 jA x_ t2
def qO : Option Int :=
 some 0
def kV (a_ : za) (b_ : za) : Option Int :=
 bif decide (a_.Kind < b_.Kind) then (
  some 1)
 else (
  bif a_.Kind == b_.Kind then (
   bif decide (a_.Label < b_.Label) then (
    some 1)
   else (
    bif a_.Label == b_.Label then (
     bif decide (a_.To < b_.To) then (
      some 1)
     else (
      qO))
    else (
     qO)))
  else (
   qO))
def YM : Option Int :=
 some 0
def YL (s_ : Int) : Option (LR Int (Unit ⊕ Int)) :=
 some (.next (w64 (s_ + 1)))
def jo (k_ : Int) (x86 : Int) (x87 : Bool) (x91 : Int) (x92 : Int) (x93 : Bool) (x97 : Int) (x98 : Bool) (x102 : Int) (x104 : Bool) : Option (LR Int (Unit ⊕ Int)) :=
 some (.next (w64 (k_ + 1)))
def qh (x_ : zr) (s_ : Int) (k_ : Int) (Row_e_e : za) (most1 : Int) : Option (LR Int (Unit ⊕ Int)) :=
 bif decide (Row_e_e.Kind > 2) then (
  some (.done (.inr 1)))
 else (
  bif decide (Row_e_e.Label < 0) then (
   some (.done (.inr 1)))
  else (
   bif decide (Row_e_e.Label ≥ most1) then (
    some (.done (.inr 1)))
   else (
    bif decide (Row_e_e.To < 0) then (
     some (.done (.inr 1)))
    else (
     bif decide (Row_e_e.To ≥ ((x_.Rows.length : Nat) : Int)) then (
      some (.done (.inr 1)))
     else (
      bif decide (k_ > 0) then (
       Option.bind (idx x_.Rows s_) fun Row_e2 =>
       Option.bind (idx Row_e2 (w64 (k_ - 1))) fun Row_e_e1 =>
       Option.bind (kV Row_e_e1 Row_e_e) fun r_ =>
       bif r_ == 0 then (
        some (.done (.inr 1)))
       else (
        jo k_ Row_e_e.Label (decide (Row_e_e.Label < 0)) Row_e_e.Label most1 (decide (Row_e_e.Label ≥ most1)) Row_e_e.To (decide (Row_e_e.To < 0)) Row_e_e.To (decide (Row_e_e.To ≥ ((x_.Rows.length : Nat) : Int)))))
      else (
       jo k_ Row_e_e.Label (decide (Row_e_e.Label < 0)) Row_e_e.Label most1 (decide (Row_e_e.Label ≥ most1)) Row_e_e.To (decide (Row_e_e.To < 0)) Row_e_e.To (decide (Row_e_e.To ≥ ((x_.Rows.length : Nat) : Int)))))))))
def jn (x_ : zr) (s_ : Int) (k_ : Int) (Row_e_e : za) (most : Int) : Option (LR Int (Unit ⊕ Int)) :=
 bif Row_e_e.Kind == 2 then (
  qh x_ s_ k_ Row_e_e x_.Outputs)
 else (
  qh x_ s_ k_ Row_e_e most)
def jl (x_ : zr) (s_ : Int) (k_ : Int) : Option (LR Int (Unit ⊕ Int)) :=
 Option.bind (idx x_.Rows s_) fun Row_e =>
 bif decide (k_ < ((Row_e.length : Nat) : Int)) then (
  Option.bind (idx x_.Rows s_) fun Row_e1 =>
  Option.bind (idx Row_e1 k_) fun Row_e_e =>
  bif Row_e_e.Kind == 1 then (
   jn x_ s_ k_ Row_e_e x_.Inputs)
  else (
   jn x_ s_ k_ Row_e_e 1))
 else (
  some (.done (.inl ())))
def jm (x_ : zr) (s_ : Int) : Option (LR Int (Unit ⊕ Int)) :=
 bif decide (s_ < ((x_.Rows.length : Nat) : Int)) then (
  Option.bind (loop (fun s => jl x_ s_ s) 0) fun t5 =>
  match t5 with
  | .inl p => YL s_
  | .inr p => some (.done (.inr p)))
 else (
  some (.done (.inl ())))
def jp (x_ : zr) : Option Int :=
 bif decide (x_.Inputs < 0) then (
  some 1)
 else (
  bif decide (x_.Outputs < 0) then (
   some 1)
  else (
   bif ((x_.Rows.length : Nat) : Int) == 0 then (
    some 1)
   else (
    Option.bind (loop (fun s => jm x_ s) 0) fun t3 =>
    match t3 with
    | .inl p => YM
    | .inr p => some p)))
def jk (x_ : zr) (s_1 : Int) : Option (LR Int (Unit ⊕ Int)) :=
 bif decide (s_1 < ((x_.Rows.length : Nat) : Int)) then (
  Option.bind (idx x_.Rows s_1) fun Row_e3 =>
  bif decide (((Row_e3.length : Nat) : Int) > 256) then (
   some (.done (.inr 3)))
  else (
   some (.next (w64 (s_1 + 1)))))
 else (
  some (.done (.inl ())))
def ZS (x_ : zr) : Option Int :=
 bif decide (x_.Inputs > 16) then (
  some 3)
 else (
  bif decide (x_.Outputs > 16) then (
   some 3)
  else (
   bif decide (((x_.Rows.length : Nat) : Int) > 64) then (
    some 3)
   else (
    Option.bind (loop (fun s => jk x_ s) 0) fun t9 =>
    match t9 with
    | .inl p => jp x_
    | .inr p => some p)))
def wc : Option Bool :=
 Option.bind (ZX) fun r_7 =>
 some r_7
def uH (i_ : Int) : Option (LR Int (Unit ⊕ Bool)) :=
 some (.next (w64 (i_ + 1)))
def wb (k_ : Int) : Option (LR Int (Unit ⊕ Bool)) :=
 some (.next (w64 (k_ + 1)))
def w8 (hidden : List Int) (r_2 : zr × Int) (i_ : Int) (k_ : Int) : Option (LR Int (Unit ⊕ Bool)) :=
 Option.bind (idx r_2.1.Rows i_) fun Row_e =>
 bif decide (k_ < ((Row_e.length : Nat) : Int)) then (
  Option.bind (idx r_2.1.Rows i_) fun Row_e1 =>
  Option.bind (idx Row_e1 k_) fun Row_e_e =>
  bif Row_e_e.Kind == 2 then (
   Option.bind (idx r_2.1.Rows i_) fun Row_e2 =>
   Option.bind (idx Row_e2 k_) fun Row_e_e1 =>
   Option.bind (X4 hidden Row_e_e1.Label) fun r_8 =>
   bif r_8 == 1 then (
    some (.done (.inr false)))
   else (
    wb k_))
  else (
   wb k_))
 else (
  some (.done (.inl ())))
def w9 (hidden : List Int) (r_2 : zr × Int) (i_ : Int) : Option (LR Int (Unit ⊕ Bool)) :=
 bif decide (i_ < ((r_2.1.Rows.length : Nat) : Int)) then (
  Option.bind (loop (fun s => w8 hidden r_2 i_ s) 0) fun t5 =>
  match t5 with
  | .inl p => uH i_
  | .inr p => some (.done (.inr p)))
 else (
  some (.done (.inl ())))
def wd (r_ : z8) (r_1 : List z7 × List (List z6)) (hidden : List Int) : Option Bool :=
 Option.bind (yo r_ hidden) fun r_2 =>
 bif decide (((r_1.1.length : Nat) : Int) > 64) then (
  bif r_2.2 == 3 then (
   bif (w64 (((r_2.1.Rows.length : Nat) : Int) + r_2.1.Outputs)) == 0 then (
    Option.bind (ZX) fun r_3 =>
    some r_3)
   else (
    some false))
  else (
   some false))
 else (
  bif r_2.2 != 0 then (
   some false)
  else (
   Option.bind (kr r_ r_1.2 hidden) fun r_4 =>
   Option.bind (uF r_2.1 r_4) fun r_5 =>
   bif r_5 == 0 then (
    some false)
   else (
    bif ((r_2.1.Rows.length : Nat) : Int) != ((r_2.1.Rows.length : Nat) : Int) then (
     some false)
    else (
     Option.bind (ZS r_2.1) fun r_6 =>
     bif r_6 != 0 then (
      some false)
     else (
      Option.bind (loop (fun s => w9 hidden r_2 s) 0) fun t3 =>
      match t3 with
      | .inl p => wc
      | .inr p => some p)))))
def wa (i_1 : Int) (hidden2 : List Int) : Option (LR (List Int × Int) (List Int)) :=
 some (.next (hidden2,w64 (i_1 + 1)))
def w7 (hide : Int) (hidden1 : List Int) (i_1 : Int) : Option (LR (List Int × Int) (List Int)) :=
 bif decide (i_1 < 2) then (
  gd ((0 : Int) ≤ IntKind.u64.wrap (i_1)) <|
  bif (z8X .u8 (Int.fdiv hide (2 ^ (min (IntKind.u64.wrap (i_1)).toNat 8))) 1) == 1 then (
   gd (hidden1.length + ([i_1] : List Int).length ≤ 4294967296) <|
   wa i_1 (hidden1 ++ ([i_1] : List Int)))
  else (
   wa i_1 hidden1))
 else (
  some (.done hidden1))
def vV (x_ : yk) (hide : Int) : Option Bool :=
 Option.bind (Xb (yk.mk x_.Channels x_.Parts)) fun r_ =>
 Option.bind (ZQ r_ 64) fun r_1 =>
 Option.bind (loop (fun s => w7 hide s.1 s.2) (([] : List Int),0)) fun t7 =>
 wd r_ r_1 t7
abbrev F0_ := Wv (eI .i64)
abbrev F1_ := eSl 1 true (eI .i64)
abbrev F2_ := eSl 1 false (eI .i64)
abbrev F3_ := eOs 1 false (eI .i64)
abbrev F4_ := eSl 5 false (W1 (eI .u8))
abbrev F5_ := eSl 1 true F1_
abbrev F6_ := eSl 1 true F2_
abbrev F7_ := eSl 1 false F2_
abbrev F8_ := wP (eI .u8) (eI .i64) (eI .i64)
abbrev F9_ := yD (eI .i64) F0_
abbrev zaO := Wv F9_
abbrev UA := eSl 3 true F8_
abbrev vM := xv (eI .i64) (eI .i64) (eI .i64) (eI .i64)
abbrev Vf := eOs 3 false F8_
abbrev ul := eSl 3 false F8_
abbrev VV := uX (eI .u8) (eI .u8) F4_
abbrev vN := xL (eI .i64) (eI .u8) (eI .i64) (eI .i64) (eI .i64)
abbrev zgM := eSl 1 true ul
abbrev z8w := eSl 4 true vM
abbrev zgL := eSl 1 false ul
abbrev zdM := eSl 4 false vM
abbrev zhJ := eSl 3 false VV
abbrev z1g := zH F1_ F5_
abbrev z4i := eSl 5 true vN
abbrev zaN := eSl 5 false vN
abbrev zhI := eOs 5 false vN
abbrev z92 := zH F1_ F6_
abbrev wm := zH F2_ F7_
abbrev qB := xu vM (eI .i64)
abbrev QV := Jb (eI .i64) vM
abbrev xh := yX F0_ zaO
abbrev zdZ := eSl 2 true z92
abbrev z6u := eSl 2 true wm
abbrev zaM := eSl 2 false wm
abbrev wH := eSl 5 true qB
abbrev qR := eSl 5 false qB
abbrev KY := eOs 5 false qB
abbrev KH := kZ (KV (eI .u8)) zhJ
abbrev z4H := uI (eI .i64) (eI .i64) zgM
abbrev Uz := uI (eI .i64) (eI .i64) zgL
abbrev z3v := eSl 1 true wH
abbrev z91 := eSl 1 false qR
abbrev zaZ := yY (eI .i64) z4i F1_
abbrev ve := yY (eI .i64) zaN F2_
abbrev Jy := yY (eI .i64) zhI F3_
abbrev z90 := eSp ve
abbrev zhH := eSl 3 true zaZ
abbrev z8Z := eSl 3 false ve
abbrev k7 := Wu vM wm
abbrev z8Y := wk (eI .i64) (eI .i64) F1_ zhH
abbrev z6E := wk (eI .i64) (eI .i64) F1_ z8Z
abbrev x6 := wk (eI .i64) (eI .i64) F2_ z8Z
abbrev z6D := eSp x6
def rpN {α : Type _} (n : Nat) (a : α) (l : List α) : List α := Nat.rec l (fun _ r => a :: r) n
end Go.Own

namespace Go.Proofs
open Go.Shelf
def Tryz.so48_ren : Go.Shelf.Ren := ⟨fun | 6 => 48 | 15 => 79 | 14 => 78 | 28 => 101 | 29 => 102 | 20 => 93 | 21 => 94 | 22 => 95 | 23 => 96 | 24 => 97 | 25 => 98 | 26 => 99 | 27 => 100 | 46 => 108 | 47 => 109 | 48 => 110 | 49 => 111 | 50 => 112 | 57 => 113 | n => n,fun | 22 => 59 | 24 => 61 | 25 => 126 | 3 => 3 | 39 => 50 | 0 => 0 | 53 => 171 | 55 => 173 | 4 => 4 | 46 => 165 | 45 => 164 | 50 => 120 | 5 => 5 | 9 => 9 | 66 => 181 | 70 => 185 | 76 => 198 | 77 => 199 | n => n,fun | n => n⟩
theorem Tryz.so48 : Go.Proofs.SlLaysF0.n6 Tryz.prog Tryz.so48_ren := {
 mixed := by kernel_rfl
 f6 := ⟨Tryz.f48.name,by decide,Tryz.func48.trans (congrArg some (by kernel_rfl))⟩
 f14 := ⟨Tryz.f78.name,by decide,Tryz.func78.trans (congrArg some (by kernel_rfl))⟩
 f15 := Tryz.func79.trans (congrArg some (by kernel_rfl))
 f20 := ⟨Tryz.f93.name,by decide,Tryz.func93.trans (congrArg some (by kernel_rfl))⟩
 f21 := ⟨Tryz.f94.name,by decide,Tryz.func94.trans (congrArg some (by kernel_rfl))⟩
 f22 := ⟨Tryz.f95.name,by decide,Tryz.func95.trans (congrArg some (by kernel_rfl))⟩
 f23 := ⟨Tryz.f96.name,by decide,Tryz.func96.trans (congrArg some (by kernel_rfl))⟩
 f24 := ⟨Tryz.f97.name,by decide,Tryz.func97.trans (congrArg some (by kernel_rfl))⟩
 f25 := ⟨Tryz.f98.name,by decide,Tryz.func98.trans (congrArg some (by kernel_rfl))⟩
 f26 := ⟨Tryz.f99.name,by decide,Tryz.func99.trans (congrArg some (by kernel_rfl))⟩
 f27 := ⟨Tryz.f100.name,by decide,Tryz.func100.trans (congrArg some (by kernel_rfl))⟩
 f28 := Tryz.func101.trans (congrArg some (by kernel_rfl))
 f29 := Tryz.func102.trans (congrArg some (by kernel_rfl))
 f46 := ⟨Tryz.f108.name,by decide,Tryz.func108.trans (congrArg some (by kernel_rfl))⟩
 f47 := Tryz.func109.trans (congrArg some (by kernel_rfl))
 f48 := Tryz.func110.trans (congrArg some (by kernel_rfl))
 f49 := ⟨Tryz.f111.name,by decide,Tryz.func111.trans (congrArg some (by kernel_rfl))⟩
 f50 := ⟨Tryz.f112.name,by decide,Tryz.func112.trans (congrArg some (by kernel_rfl))⟩
 f57 := ⟨Tryz.f113.name,by decide,Tryz.func113.trans (congrArg some (by kernel_rfl))⟩
 t0 := Tryz.underlying0
 a0 := Tryz.isAgg0
 z0 := Tryz.sizeOf0
 v0 := Tryz.zeroValue0
 t3 := Tryz.underlying3
 a3 := Tryz.isAgg3
 z3 := Tryz.sizeOf3
 v3 := Tryz.zeroValue3
 t4 := Tryz.underlying4
 a4 := Tryz.isAgg4
 z4 := Tryz.sizeOf4
 v4 := Tryz.zeroValue4
 t5 := Tryz.underlying5
 a5 := Tryz.isAgg5
 z5 := Tryz.sizeOf5
 v5 := Tryz.zeroValue5
 t9 := Tryz.underlying9
 a9 := Tryz.isAgg9
 z9 := Tryz.sizeOf9
 v9 := Tryz.zeroValue9
 t22 := Tryz.underlying59
 a22 := Tryz.isAgg59
 z22 := Tryz.sizeOf59
 v22 := Tryz.zeroValue59
 t25 := Tryz.underlying126
 a25 := Tryz.isAgg126
 z25 := Tryz.sizeOf126
 v25 := Tryz.zeroValue126
 t39 := Tryz.underlying50
 a39 := Tryz.isAgg50
 z39 := Tryz.sizeOf50
 v39 := Tryz.zeroValue50
 t45 := Tryz.underlying164
 a45 := Tryz.isAgg164
 z45 := Tryz.sizeOf164
 v45 := Tryz.zeroValue164
 t46 := Tryz.underlying165
 a46 := Tryz.isAgg165
 z46 := Tryz.sizeOf165
 v46 := Tryz.zeroValue165
 t50 := Tryz.underlying120
 a50 := Tryz.isAgg120
 z50 := Tryz.sizeOf120
 v50 := Tryz.zeroValue120
 t53 := Tryz.underlying171
 a53 := Tryz.isAgg171
 z53 := Tryz.sizeOf171
 v53 := Tryz.zeroValue171
 t55 := Tryz.underlying173
 a55 := Tryz.isAgg173
 z55 := Tryz.sizeOf173
 v55 := Tryz.zeroValue173
 t66 := Tryz.underlying181
 a66 := Tryz.isAgg181
 z66 := Tryz.sizeOf181
 v66 := Tryz.zeroValue181
 t70 := Tryz.underlying185
 a70 := Tryz.isAgg185
 z70 := Tryz.sizeOf185
 v70 := Tryz.zeroValue185
 t76 := Tryz.underlying198
 a76 := Tryz.isAgg198
 z76 := Tryz.sizeOf198
 v76 := Tryz.zeroValue198
 t77 := Tryz.underlying199
 a77 := Tryz.isAgg199
 z77 := Tryz.sizeOf199
 v77 := Tryz.zeroValue199 }
end Go.Proofs
