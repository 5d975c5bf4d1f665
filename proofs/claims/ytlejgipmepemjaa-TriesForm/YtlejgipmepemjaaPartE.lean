/- -/
import Derived.Test.YtlejgipmepemjaaPartB
import Derived.Test.YtlejgipmepemjaaProg
import Derived.Test.YtlejgipmepemjaaPartC
import Derived.Test.YtlejgipmepemjaaPartD
import Derived.Shelf.SlSortCmp.NoneTotal
import Derived.Ground.SlsfProg
set_option linter.unusedVariables false
set_option linter.unusedSimpArgs false
namespace Go.Own
open Go.Proofs
theorem yY {S : zl} {h : Array Obj} {v : Value} (hv : v.oneCell' = true) : zO S h (.atom v) [v] [] := by simp only [zO, Rep]; exact ⟨⟨trivial, hv⟩, trivial⟩
theorem uu {S : zl} {h : Array Obj} (sz : Nat) : zO S h (.osl sz true []) [.slice none 0 0] [] := by
 simp only [zO]
 exact ⟨none, 0, rfl, (fun _ => rfl), Nat.le_refl _, Nat.zero_le _, by simp, .inl ⟨trivial, rfl, rfl, trivial⟩⟩
theorem Xl {S : zl} {h : Array Obj} {fs : List A} {cs : List Value} (q : zL S h fs cs []) : zO S h (.agg fs) cs [] := by simpa only [zO] using q
theorem Y9 {S : zl} {h : Array Obj} : zL S h [] [] [] := by simp [zL]
theorem um {S : zl} {h : Array Obj} {a : A} {fs : List A} {c1 c2 : List Value} (q1 : zO S h a c1 []) (q2 : zL S h fs c2 []) : zL S h (a :: fs) (c1 ++ c2) [] := by simp only [zL]; exact ⟨c1, c2, [], [], rfl, rfl, q1, q2⟩
def ti1 : TI := ⟨.other, 1, 8, some (.atom .nilFunc), false⟩
theorem z7c : YT Try.prog 1 ti1 := ⟨⟨Try.t1, by kernel_rfl, rfl, rfl, fun z h => by cases h; exact ⟨_, rfl, rfl, fun S h => yY rfl⟩⟩, ⟨_, Try.underlying1, rfl⟩, by intro h; cases h⟩
def ti2 : TI := ⟨.int .i64, 1, 8, some (.atom (.int .i64 0)), false⟩
theorem z7b : YT Try.prog 2 ti2 := ⟨⟨Try.t2, by kernel_rfl, rfl, rfl, fun z h => by cases h; exact ⟨_, rfl, rfl, fun S h => yY rfl⟩⟩, Try.underlying2, by intro h; cases h⟩
def ti3 : TI := ⟨.int .i64, 1, 8, some (.atom (.int .i64 0)), false⟩
theorem z7a : YT Try.prog 3 ti3 := ⟨⟨Try.t3, by kernel_rfl, rfl, rfl, fun z h => by cases h; exact ⟨_, rfl, rfl, fun S h => yY rfl⟩⟩, Try.underlying3, by intro h; cases h⟩
def ti4 : TI := ⟨.bool, 1, 1, some (.atom (.bool false)), false⟩
theorem z79 : YT Try.prog 4 ti4 := ⟨⟨Try.t4, by kernel_rfl, rfl, rfl, fun z h => by cases h; exact ⟨_, rfl, rfl, fun S h => yY rfl⟩⟩, Try.underlying4, by intro h; cases h⟩
def ti5 : TI := ⟨.int .u8, 1, 1, some (.atom (.int .u8 0)), false⟩
theorem z78 : YT Try.prog 5 ti5 := ⟨⟨Try.t5, by kernel_rfl, rfl, rfl, fun z h => by cases h; exact ⟨_, rfl, rfl, fun S h => yY rfl⟩⟩, Try.underlying5, by intro h; cases h⟩
def ti9 : TI := ⟨.str, 1, 16, none, false⟩
theorem z75 : YT Try.prog 9 ti9 := ⟨⟨Try.t9, by kernel_rfl, rfl, rfl, fun z h => by cases h⟩, Try.underlying9, by intro h; cases h⟩
def zam : TI := ⟨.slice 52, 1, 24, some (.osl 1 true []), false⟩
theorem z5K : YT Try.prog 22 zam := ⟨⟨Try.t22, by kernel_rfl, rfl, rfl, fun z h => by cases h; exact ⟨_, rfl, rfl, fun S h => uu _⟩⟩, Try.underlying22, by intro h; cases h⟩
def zal : TI := ⟨.int .i64, 1, 8, some (.atom (.int .i64 0)), false⟩
theorem z5J : YT Try.prog 25 zal := ⟨⟨Try.t25, by kernel_rfl, rfl, rfl, fun z h => by cases h; exact ⟨_, rfl, rfl, fun S h => yY rfl⟩⟩, Try.underlying25, by intro h; cases h⟩
def zak : TI := ⟨.slice 54, 1, 24, some (.osl 2 true []), false⟩
theorem z5I : YT Try.prog 42 zak := ⟨⟨Try.t42, by kernel_rfl, rfl, rfl, fun z h => by cases h; exact ⟨_, rfl, rfl, fun S h => uu _⟩⟩, Try.underlying42, by intro h; cases h⟩
def zaj : TI := ⟨.struct [(0, 1), (1, 1)], 2, 32, some (.agg [.atom (.int .i64 0), .osl 2 true []]), false⟩
theorem z5H : YT Try.prog 44 zaj := ⟨⟨Try.t44, by kernel_rfl, rfl, rfl, fun z h => by cases h; exact ⟨_, rfl, rfl, fun S h => Xl (um (yY rfl) (um (uu _) (Y9)))⟩⟩, ⟨_, Try.underlying44, by kernel_rfl, by
  intro f hf
  simp only [List.mem_cons, List.not_mem_nil, or_false] at hf
  rcases hf with rfl | rfl
  ·exact ⟨Try.t3, by kernel_rfl⟩
  ·exact ⟨Try.t42, by kernel_rfl⟩⟩, by intro h; cases h⟩
def zai : TI := ⟨.slice 3, 1, 24, some (.osl 1 true []), false⟩
theorem z5G : YT Try.prog 52 zai := ⟨⟨Try.t52, by kernel_rfl, rfl, rfl, fun z h => by cases h; exact ⟨_, rfl, rfl, fun S h => uu _⟩⟩, Try.underlying52, by intro h; cases h⟩
def zah : TI := ⟨.struct [(0, 1), (1, 1)], 2, 32, some (.agg [.osl 1 true [], .atom (.bool false)]), false⟩
theorem z5F : YT Try.prog 54 zah := ⟨⟨Try.t54, by kernel_rfl, rfl, rfl, fun z h => by cases h; exact ⟨_, rfl, rfl, fun S h => Xl (um (uu _) (um (yY rfl) (Y9)))⟩⟩, ⟨_, Try.underlying54, by kernel_rfl, by
  intro f hf
  simp only [List.mem_cons, List.not_mem_nil, or_false] at hf
  rcases hf with rfl | rfl
  ·exact ⟨Try.t52, by kernel_rfl⟩
  ·exact ⟨Try.t4, by kernel_rfl⟩⟩, by intro h; cases h⟩
def zag : TI := ⟨.struct [(0, 1), (1, 1)], 2, 32, some (.agg [.atom (.int .i64 0), .osl 2 true []]), false⟩
theorem z5E : YT Try.prog 75 zag := ⟨⟨Try.t75, by kernel_rfl, rfl, rfl, fun z h => by cases h; exact ⟨_, rfl, rfl, fun S h => Xl (um (yY rfl) (um (uu _) (Y9)))⟩⟩, ⟨_, Try.underlying75, by kernel_rfl, by
  intro f hf
  simp only [List.mem_cons, List.not_mem_nil, or_false] at hf
  rcases hf with rfl | rfl
  ·exact ⟨Try.t3, by kernel_rfl⟩
  ·exact ⟨Try.t42, by kernel_rfl⟩⟩, by intro h; cases h⟩
def zaf : TI := ⟨.ptr 75, 1, 8, some (.atom (.pointer none)), false⟩
theorem z5D : YT Try.prog 76 zaf := ⟨⟨Try.t76, by kernel_rfl, rfl, rfl, fun z h => by cases h; exact ⟨_, rfl, rfl, fun S h => yY rfl⟩⟩, Try.underlying76, by intro h; cases h⟩
def zae : TI := ⟨.other, 1, 8, some (.atom .nilFunc), false⟩
theorem z5C : YT Try.prog 78 zae := ⟨⟨Try.t78, by kernel_rfl, rfl, rfl, fun z h => by cases h; exact ⟨_, rfl, rfl, fun S h => yY rfl⟩⟩, ⟨_, Try.underlying78, rfl⟩, by intro h; cases h⟩
def zad : TI := ⟨.other, 1, 8, some (.atom .nilFunc), false⟩
theorem z5B : YT Try.prog 79 zad := ⟨⟨Try.t79, by kernel_rfl, rfl, rfl, fun z h => by cases h; exact ⟨_, rfl, rfl, fun S h => yY rfl⟩⟩, ⟨_, Try.underlying79, rfl⟩, by intro h; cases h⟩
def zac : TI := ⟨.other, 1, 8, some (.atom .nilFunc), false⟩
theorem z5A : YT Try.prog 83 zac := ⟨⟨Try.t83, by kernel_rfl, rfl, rfl, fun z h => by cases h; exact ⟨_, rfl, rfl, fun S h => yY rfl⟩⟩, ⟨_, Try.underlying83, rfl⟩, by intro h; cases h⟩
def zab : TI := ⟨.other, 1, 8, some (.atom .nilFunc), false⟩
theorem z5z : YT Try.prog 84 zab := ⟨⟨Try.t84, by kernel_rfl, rfl, rfl, fun z h => by cases h; exact ⟨_, rfl, rfl, fun S h => yY rfl⟩⟩, ⟨_, Try.underlying84, rfl⟩, by intro h; cases h⟩
def zaa : TI := ⟨.other, 1, 8, some (.atom .nilFunc), false⟩
theorem z5y : YT Try.prog 85 zaa := ⟨⟨Try.t85, by kernel_rfl, rfl, rfl, fun z h => by cases h; exact ⟨_, rfl, rfl, fun S h => yY rfl⟩⟩, ⟨_, Try.underlying85, rfl⟩, by intro h; cases h⟩
def za9 : TI := ⟨.struct [(0, 1), (1, 1)], 2, 32, some (.agg [.atom (.int .i64 0), .osl 1 true []]), false⟩
theorem z5x : YT Try.prog 86 za9 := ⟨⟨Try.t86, by kernel_rfl, rfl, rfl, fun z h => by cases h; exact ⟨_, rfl, rfl, fun S h => Xl (um (yY rfl) (um (uu _) (Y9)))⟩⟩, ⟨_, Try.underlying86, by kernel_rfl, by
  intro f hf
  simp only [List.mem_cons, List.not_mem_nil, or_false] at hf
  rcases hf with rfl | rfl
  ·exact ⟨Try.t3, by kernel_rfl⟩
  ·exact ⟨Try.t52, by kernel_rfl⟩⟩, by intro h; cases h⟩
def za8 : TI := ⟨.struct [(0, 1), (1, 1)], 2, 32, some (.agg [.atom (.int .i64 0), .osl 1 true []]), false⟩
theorem z5w : YT Try.prog 87 za8 := ⟨⟨Try.t87, by kernel_rfl, rfl, rfl, fun z h => by cases h; exact ⟨_, rfl, rfl, fun S h => Xl (um (yY rfl) (um (uu _) (Y9)))⟩⟩, ⟨_, Try.underlying87, by kernel_rfl, by
  intro f hf
  simp only [List.mem_cons, List.not_mem_nil, or_false] at hf
  rcases hf with rfl | rfl
  ·exact ⟨Try.t3, by kernel_rfl⟩
  ·exact ⟨Try.t52, by kernel_rfl⟩⟩, by intro h; cases h⟩
def za7 : TI := ⟨.slice 4, 1, 24, some (.osl 1 true []), false⟩
theorem z5v : YT Try.prog 89 za7 := ⟨⟨Try.t89, by kernel_rfl, rfl, rfl, fun z h => by cases h; exact ⟨_, rfl, rfl, fun S h => uu _⟩⟩, Try.underlying89, by intro h; cases h⟩
def za6 : TI := ⟨.other, 1, 8, none, false⟩
theorem z5u : YT Try.prog 91 za6 := ⟨⟨Try.t91, by kernel_rfl, rfl, rfl, fun z h => by cases h⟩, ⟨_, Try.underlying91, rfl⟩, by intro h; cases h⟩
def za5 : TI := ⟨.slice 5, 1, 24, some (.osl 1 true []), false⟩
theorem z5t : YT Try.prog 98 za5 := ⟨⟨Try.t98, by kernel_rfl, rfl, rfl, fun z h => by cases h; exact ⟨_, rfl, rfl, fun S h => uu _⟩⟩, Try.underlying98, by intro h; cases h⟩
def z7g : TI := ⟨.other, 1, 8, some (.atom .nilFunc), false⟩
theorem z3I : YT Try.prog 101 z7g := ⟨⟨Try.t101, by kernel_rfl, rfl, rfl, fun z h => by cases h; exact ⟨_, rfl, rfl, fun S h => yY rfl⟩⟩, ⟨_, Try.underlying101, rfl⟩, by intro h; cases h⟩
def z7f : TI := ⟨.other, 1, 8, some (.atom .nilFunc), false⟩
theorem z3H : YT Try.prog 103 z7f := ⟨⟨Try.t103, by kernel_rfl, rfl, rfl, fun z h => by cases h; exact ⟨_, rfl, rfl, fun S h => yY rfl⟩⟩, ⟨_, Try.underlying103, rfl⟩, by intro h; cases h⟩
def z7e : TI := ⟨.slice 87, 1, 24, some (.osl 2 true []), false⟩
theorem z3G : YT Try.prog 104 z7e := ⟨⟨Try.t104, by kernel_rfl, rfl, rfl, fun z h => by cases h; exact ⟨_, rfl, rfl, fun S h => uu _⟩⟩, Try.underlying104, by intro h; cases h⟩
def z7d : TI := ⟨.slice 22, 1, 24, some (.osl 1 true []), false⟩
theorem z3F : YT Try.prog 105 z7d := ⟨⟨Try.t105, by kernel_rfl, rfl, rfl, fun z h => by cases h; exact ⟨_, rfl, rfl, fun S h => uu _⟩⟩, Try.underlying105, by intro h; cases h⟩
def tiL : List (Nat × TI) := [(1, ti1), (2, ti2), (3, ti3), (4, ti4), (5, ti5), (9, ti9), (22, zam), (25, zal), (42, zak), (44, zaj), (52, zai), (54, zah), (75, zag), (76, zaf), (78, zae), (79, zad), (83, zac), (84, zab), (85, zaa), (86, za9), (87, za8), (89, za7), (91, za6), (98, za5), (101, z7g), (103, z7f), (104, z7e), (105, z7d)]
def yE : TT := fun t => (tiL.find? fun p => p.1 == t).map (·.2)
def z3v (P : Program) : List (Nat × TI) → Prop
 | [] => True
 | p :: l => YT P p.1 p.2 ∧ z3v P l
theorem z3v.mem {P : Program} : ∀ {l : List (Nat × TI)}, z3v P l → ∀ p ∈ l, YT P p.1 p.2
 | p :: _, h, q, hq => by
  rcases List.mem_cons.1 hq with rfl | hq
  ·exact h.1
  ·exact z3v.mem h.2 q hq
 | [], _, _, hq => by cases hq
theorem z74 : z3v Try.prog tiL := ⟨z7c, z7b, z7a, z79, z78, z75, z5K, z5J, z5I, z5H, z5G, z5F, z5E, z5D, z5C, z5B, z5A, z5z, z5y, z5x, z5w, z5v, z5u, z5t, z3I, z3H, z3G, z3F, trivial⟩
theorem z6 : vw Try.prog yE := by
 intro t i h
 unfold yE at h
 rw [Option.map_eq_some_iff] at h
 obtain ⟨p, h1, rfl⟩ := h
 have h2 := List.find?_some h1
 have h3 := z74.mem p (List.mem_of_find?_eq_some h1)
 rw [beq_iff_eq.1 h2] at h3
 exact h3
theorem zbh : yE 1 = some ⟨.other, 1, 8, some (.atom .nilFunc), false⟩ := rfl
theorem zbg : yE 2 = some ⟨.int .i64, 1, 8, some (.atom (.int .i64 0)), false⟩ := rfl
theorem zbf : yE 3 = some ⟨.int .i64, 1, 8, some (.atom (.int .i64 0)), false⟩ := rfl
theorem zbe : yE 4 = some ⟨.bool, 1, 1, some (.atom (.bool false)), false⟩ := rfl
theorem zbd : yE 5 = some ⟨.int .u8, 1, 1, some (.atom (.int .u8 0)), false⟩ := rfl
theorem zbc : yE 9 = some ⟨.str, 1, 16, none, false⟩ := rfl
theorem z9S : yE 22 = some ⟨.slice 52, 1, 24, some (.osl 1 true []), false⟩ := rfl
theorem z9R : yE 25 = some ⟨.int .i64, 1, 8, some (.atom (.int .i64 0)), false⟩ := rfl
theorem z9Q : yE 42 = some ⟨.slice 54, 1, 24, some (.osl 2 true []), false⟩ := rfl
theorem z9P : yE 44 = some ⟨.struct [(0, 1), (1, 1)], 2, 32, some (.agg [.atom (.int .i64 0), .osl 2 true []]), false⟩ := rfl
theorem z9O : yE 52 = some ⟨.slice 3, 1, 24, some (.osl 1 true []), false⟩ := rfl
theorem z9N : yE 54 = some ⟨.struct [(0, 1), (1, 1)], 2, 32, some (.agg [.osl 1 true [], .atom (.bool false)]), false⟩ := rfl
theorem z9M : yE 75 = some ⟨.struct [(0, 1), (1, 1)], 2, 32, some (.agg [.atom (.int .i64 0), .osl 2 true []]), false⟩ := rfl
theorem z9L : yE 76 = some ⟨.ptr 75, 1, 8, some (.atom (.pointer none)), false⟩ := rfl
theorem z9K : yE 78 = some ⟨.other, 1, 8, some (.atom .nilFunc), false⟩ := rfl
theorem z9J : yE 79 = some ⟨.other, 1, 8, some (.atom .nilFunc), false⟩ := rfl
theorem z9I : yE 83 = some ⟨.other, 1, 8, some (.atom .nilFunc), false⟩ := rfl
theorem z9H : yE 84 = some ⟨.other, 1, 8, some (.atom .nilFunc), false⟩ := rfl
theorem z9G : yE 85 = some ⟨.other, 1, 8, some (.atom .nilFunc), false⟩ := rfl
theorem z9F : yE 86 = some ⟨.struct [(0, 1), (1, 1)], 2, 32, some (.agg [.atom (.int .i64 0), .osl 1 true []]), false⟩ := rfl
theorem z9E : yE 87 = some ⟨.struct [(0, 1), (1, 1)], 2, 32, some (.agg [.atom (.int .i64 0), .osl 1 true []]), false⟩ := rfl
theorem z9D : yE 89 = some ⟨.slice 4, 1, 24, some (.osl 1 true []), false⟩ := rfl
theorem z9C : yE 91 = some ⟨.other, 1, 8, none, false⟩ := rfl
theorem z9B : yE 98 = some ⟨.slice 5, 1, 24, some (.osl 1 true []), false⟩ := rfl
theorem z82 : yE 101 = some ⟨.other, 1, 8, some (.atom .nilFunc), false⟩ := rfl
theorem z81 : yE 103 = some ⟨.other, 1, 8, some (.atom .nilFunc), false⟩ := rfl
theorem z80 : yE 104 = some ⟨.slice 87, 1, 24, some (.osl 2 true []), false⟩ := rfl
theorem z7Z : yE 105 = some ⟨.slice 22, 1, 24, some (.osl 1 true []), false⟩ := rfl
attribute [go_sem] zbh zbg zbf zbe zbd zbc z9S z9R z9Q z9P z9O z9N z9M z9L z9K z9J z9I z9H z9G z9F z9E z9D z9C z9B z82 z81 z80 z7Z
end Go.Own

namespace Go.Own
structure z7 where
 Next : List Int
 End : Bool
def y3 (f0 : List Int → A) (f1 : Bool → A) (x : z7) : A := .agg [f0 x.Next, f1 x.End]
instance (f0 : List Int → A) (f1 : Bool → A) [h : z8V f0] : z8V (y3 f0 f1) := ⟨fun x => by simp [y3, A.isD, A.areD, h.no]⟩
instance (f0 : List Int → A) (f1 : Bool → A) (g0 : List Int → A) (g1 : Bool → A) [h0 : UT f0 g0] [h1 : UT f1 g1] : UT (y3 f0 f1) (y3 g0 g1) := ⟨fun x => by simp [y3, A.loose, A.looses, h0.lo, h1.lo]⟩
instance (f0 : List Int → A) (f1 : Bool → A) (g0 : List Int → A) (g1 : Bool → A) [h0 : KY f0 g0] [h1 : KY f1 g1] : KY (y3 f0 f1) (y3 g0 g1) := ⟨fun x => by simp [y3, A.live, A.lives, h0.live, h1.live], fun x => by simp [y3, A.shut, A.shuts, h0.sh, h1.sh]⟩
instance (f0 : List Int → A) (f1 : Bool → A) [h0 : yO f0] [h1 : yO f1] : yO (y3 f0 f1) := ⟨fun x y h => by
 simp only [y3, A.agg.injEq, List.cons.injEq, and_true] at h
 cases x; cases y
 simp only [z7.mk.injEq]
 exact ⟨h0.inj _ _ h.1, h1.inj _ _ h.2⟩⟩
structure zb where
 Inputs : Int
 Nodes : List z7
def xS (f0 : Int → A) (f1 : List z7 → A) (x : zb) : A := .agg [f0 x.Inputs, f1 x.Nodes]
instance (f0 : Int → A) (f1 : List z7 → A) (g0 : Int → A) (g1 : List z7 → A) [h0 : UT f0 g0] [h1 : UT f1 g1] : UT (xS f0 f1) (xS g0 g1) := ⟨fun x => by simp [xS, A.loose, A.looses, h0.lo, h1.lo]⟩
instance (f0 : Int → A) (f1 : List z7 → A) [h0 : yO f0] [h1 : yO f1] : yO (xS f0 f1) := ⟨fun x y h => by
 simp only [xS, A.agg.injEq, List.cons.injEq, and_true] at h
 cases x; cases y
 simp only [zb.mk.injEq]
 exact ⟨h0.inj _ _ h.1, h1.inj _ _ h.2⟩⟩
structure za where
 at_ : Int
 w_ : List Int
def xi (f0 : Int → A) (f1 : List Int → A) (x : za) : A := .agg [f0 x.at_, f1 x.w_]
instance (f0 : Int → A) (f1 : List Int → A) [h0 : z3C f0] [h1 : z3C f1] : z3C (xi f0 f1) := ⟨fun x => by simp [xi, A.isD, A.areD, h0.isD, h1.isD]⟩
instance (f0 : Int → A) (f1 : List Int → A) (g0 : Int → A) (g1 : List Int → A) (x : za) [∀ y, LeA (f0 y) (g0 y)] [∀ y, LeA (f1 y) (g1 y)] [∀ y, SzA (f0 y) (g0 y)] [∀ y, SzA (f1 y) (g1 y)] : LeA (xi f0 f1 x) (xi g0 g1 x) := by unfold xi; infer_instance
instance (f0 : Int → A) (f1 : List Int → A) (g0 : Int → A) (g1 : List Int → A) (x y : za) [∀ y z, SzA (f0 y) (g0 z)] [∀ y z, SzA (f1 y) (g1 z)] : SzA (xi f0 f1 x) (xi g0 g1 y) := by unfold xi; infer_instance
structure zn where
 inputs_ : Int
 nodes_ : List z7
def yp (f0 : Int → A) (f1 : List z7 → A) (x : zn) : A := .agg [f0 x.inputs_, f1 x.nodes_]
instance (f0 : Int → A) (f1 : List z7 → A) (g0 : Int → A) (g1 : List z7 → A) [h0 : UT f0 g0] [h1 : UT f1 g1] : UT (yp f0 f1) (yp g0 g1) := ⟨fun x => by simp [yp, A.loose, A.looses, h0.lo, h1.lo]⟩
instance (f0 : Int → A) (f1 : List z7 → A) (g0 : Int → A) (g1 : List z7 → A) [h0 : KY f0 g0] [h1 : KY f1 g1] : KY (yp f0 f1) (yp g0 g1) := ⟨fun x => by simp [yp, A.live, A.lives, h0.live, h1.live], fun x => by simp [yp, A.shut, A.shuts, h0.sh, h1.sh]⟩
instance (f0 : Int → A) (f1 : List z7 → A) [h0 : yO f0] [h1 : yO f1] : yO (yp f0 f1) := ⟨fun x y h => by
 simp only [yp, A.agg.injEq, List.cons.injEq, and_true] at h
 cases x; cases y
 simp only [zn.mk.injEq]
 exact ⟨h0.inj _ _ h.1, h1.inj _ _ h.2⟩⟩
def jA (w_ : List Int) : Option Int :=
 bif decide (((w_.length : Nat) : Int) > 256) then (
  some 3)
 else (
  some 0)
def jg : Option Int :=
 some 0
def wh (w_ : List Int) (inputs : Int) (i_ : Int) : Option (LR Int (Unit ⊕ Int)) :=
 bif decide (i_ < ((w_.length : Nat) : Int)) then (
  Option.bind (idx w_ i_) fun w__e =>
  bif decide (w__e < 0) then (
   some (.done (.inr 1)))
  else (
   Option.bind (idx w_ i_) fun w__e1 =>
   bif decide (w__e1 ≥ inputs) then (
    some (.done (.inr 1)))
   else (
    some (.next (w64 (i_ + 1))))))
 else (
  some (.done (.inl ())))
def uT (w_ : List Int) (inputs : Int) : Option Int :=
 Option.bind (loop (fun s => wh w_ inputs s) 0) fun t2 =>
 match t2 with
 | .inl p => jg
 | .inr p => some p
def kQ : Option Int :=
 some 0
def vK (l_ : List (List Int)) (inputs : Int) (i_ : Int) : Option (LR Int (Unit ⊕ Int)) :=
 bif decide (i_ < ((l_.length : Nat) : Int)) then (
  Option.bind (idx l_ i_) fun l__e =>
  Option.bind (jA l__e) fun r_ =>
  bif r_ != 0 then (
   some (.done (.inr r_)))
  else (
   Option.bind (idx l_ i_) fun l__e1 =>
   Option.bind (uT l__e1 inputs) fun r_1 =>
   bif r_1 != 0 then (
    some (.done (.inr r_1)))
   else (
    some (.next (w64 (i_ + 1))))))
 else (
  some (.done (.inl ())))
def jX (l_ : List (List Int)) (inputs : Int) : Option Int :=
 bif decide (inputs > 16) then (
  some 3)
 else (
  bif decide (((l_.length : Nat) : Int) > 4096) then (
   some 3)
  else (
   bif decide (inputs < 1) then (
    some 1)
   else (
    Option.bind (loop (fun s => vK l_ inputs s) 0) fun t2 =>
    match t2 with
    | .inl p => kQ
    | .inr p => some p)))
def jh : Option Int :=
 some 0
def vt (a_ : List Int) (b_ : List Int) (i_ : Int) : Option (LR Int (Unit ⊕ Int)) :=
 bif decide (i_ < ((a_.length : Nat) : Int)) then (
  Option.bind (idx a_ i_) fun a__e =>
  Option.bind (idx b_ i_) fun b__e =>
  bif decide (a__e < b__e) then (
   some (.done (.inr (-1))))
  else (
   Option.bind (idx a_ i_) fun a__e1 =>
   Option.bind (idx b_ i_) fun b__e1 =>
   bif decide (a__e1 > b__e1) then (
    some (.done (.inr 1)))
   else (
    some (.next (w64 (i_ + 1))))))
 else (
  some (.done (.inl ())))
def yJ (a_ : List Int) (b_ : List Int) : Option Int :=
 bif ((a_.length : Nat) : Int) != ((b_.length : Nat) : Int) then (
  bif decide (((a_.length : Nat) : Int) < ((b_.length : Nat) : Int)) then (
   some (-1))
  else (
   some 1))
 else (
  Option.bind (loop (fun s => vt a_ b_ s) 0) fun t2 =>
  match t2 with
  | .inl p => jh
  | .inr p => some p)
def kP (n_ : Int) : Option Int :=
 some n_
def vJ (l_ : List (List Int)) (n_1 : Int) (i_ : Int) : Option (LR (Int × Int) Int) :=
 bif decide (i_ < ((l_.length : Nat) : Int)) then (
  Option.bind (idx l_ i_) fun l__e =>
  some (.next (w64 (n_1 + ((l__e.length : Nat) : Int)), w64 (i_ + 1))))
 else (
  some (.done n_1))
def jV (l_ : List (List Int)) : Option Int :=
 Option.bind (loop (fun s => vJ l_ s.1 s.2) (0, 0)) fun t2 =>
 kP t2
def qP (l_ : List (List Int)) : Option Int :=
 Option.bind (jV l_) fun r_1 =>
 bif decide (r_1 > 65536) then (
  some 3)
 else (
  some 0)
def vL (l_ : List (List Int)) (i_ : Int) : Option (LR Int (Unit ⊕ Int)) :=
 bif decide (i_ < ((l_.length : Nat) : Int)) then (
  Option.bind (idx l_ (w64 (i_ - 1))) fun l__e =>
  Option.bind (idx l_ i_) fun l__e1 =>
  Option.bind (yJ l__e l__e1) fun r_2 =>
  bif decide (r_2 ≥ 0) then (
   some (.done (.inr 1)))
  else (
   some (.next (w64 (i_ + 1)))))
 else (
  some (.done (.inl ())))
def jY (l_ : List (List Int)) (inputs : Int) : Option Int :=
 Option.bind (jX l_ inputs) fun r_ =>
 bif r_ != 0 then (
  some r_)
 else (
  Option.bind (loop (fun s => vL l_ s) 1) fun t2 =>
  match t2 with
  | .inl p => qP l_
  | .inr p => some p)
def ky (w_ : List Int) (low : Int) (l_1 : List (List Int)) : Option (List (List Int)) :=
 gd (([] : List Int).length + w_.length ≤ 4294967296) <|
 Option.bind (idx l_1 low) fun l__e =>
 some (l_1.set low.toNat w_)
def qU (low : Int) (l_2 : List (List Int)) (i_ : Int) : Option (LR (List (List Int) × Int) (List (List Int))) :=
 bif decide (i_ > low) then (
  Option.bind (idx l_2 (w64 (i_ - 1))) fun l__e1 =>
  Option.bind (idx l_2 i_) fun l__e2 =>
  some (.next ((l_2.set i_.toNat l__e1), w64 (i_ - 1))))
 else (
  some (.done l_2))
def uI (l_ : List (List Int)) (w_ : List Int) (low : Int) : Option (List (List Int)) :=
 gd (l_.length + ([[]] : List (List Int)).length ≤ 4294967296) <|
 Option.bind (loop (fun s => qU low s.1 s.2) ((l_ ++ ([[]] : List (List Int))), w64 ((((l_ ++ ([[]] : List (List Int))).length : Nat) : Int) - 1))) fun t4 =>
 ky w_ low t4
def kz (l_ : List (List Int)) (w_ : List Int) (low : Int) : Option (List (List Int)) :=
 bif decide (low < ((l_.length : Nat) : Int)) then (
  Option.bind (idx l_ low) fun l__e3 =>
  Option.bind (yJ l__e3 w_) fun r_ =>
  bif r_ == 0 then (
   some l_)
  else (
   uI l_ w_ low))
 else (
  uI l_ w_ low)
def qT (l_ : List (List Int)) (w_ : List Int) (low1 : Int) (high : Int) : Option (LR (Int × Int) Int) :=
 bif decide (low1 < high) then (
  gd ((2 : Int) ≠ 0) <|
  Option.bind (idx l_ (w64 (Int.tdiv (w64 (low1 + high)) 2))) fun l__e4 =>
  Option.bind (yJ l__e4 w_) fun r_1 =>
  bif decide (r_1 < 0) then (
   some (.next (w64 ((w64 (Int.tdiv (w64 (low1 + high)) 2)) + 1), high)))
  else (
   some (.next (low1, w64 (Int.tdiv (w64 (low1 + high)) 2)))))
 else (
  some (.done low1))
def Y2 (l_ : List (List Int)) (w_ : List Int) : Option (List (List Int)) :=
 Option.bind (loop (fun s => qT l_ w_ s.1 s.2) (0, ((l_.length : Nat) : Int))) fun t5 =>
 kz l_ w_ t5
def qF (out : List (List Int)) : Option (List (List Int)) :=
 some out
def u9 (i_ : Int) (out2 : List (List Int)) : Option (LR (List (List Int) × Int) (List (List Int))) :=
 some (.next (out2, w64 (i_ + 1)))
def yM (l_ : List (List Int)) (i_ : Int) (out3 : List (List Int)) (k_ : Int) : Option (LR (List (List Int) × Int) (List (List Int))) :=
 Option.bind (idx l_ i_) fun l__e =>
 bif decide (k_ ≤ ((l__e.length : Nat) : Int)) then (
  Option.bind (idx l_ i_) fun l__e1 =>
  gd ((0 : Int) ≤ 0 ∧ (0 : Int) ≤ k_ ∧ (k_ : Int) ≤ ((l__e1.length : Nat) : Int)) <|
  Option.bind (Y2 out3 ((l__e1.drop 0).take (k_.toNat - 0))) fun r_ =>
  some (.next (r_, w64 (k_ + 1))))
 else (
  some (.done out3))
def yN (l_ : List (List Int)) (out1 : List (List Int)) (i_ : Int) : Option (LR (List (List Int) × Int) (List (List Int))) :=
 bif decide (i_ < ((l_.length : Nat) : Int)) then (
  Option.bind (loop (fun s => yM l_ i_ s.1 s.2) (out1, 0)) fun t4 =>
  u9 i_ t4)
 else (
  some (.done out1))
def uk (l_ : List (List Int)) : Option (List (List Int)) :=
 Option.bind (loop (fun s => yN l_ s.1 s.2) (([] : List (List Int)), 0)) fun t2 =>
 qF t2
def kA : Option Bool :=
 some false
def uK (l_ : List (List Int)) (w_ : List Int) (i_ : Int) : Option (LR Int (Unit ⊕ Bool)) :=
 bif decide (i_ < ((l_.length : Nat) : Int)) then (
  Option.bind (idx l_ i_) fun l__e =>
  Option.bind (yJ l__e w_) fun r_ =>
  bif r_ == 0 then (
   some (.done (.inr true)))
  else (
   some (.next (w64 (i_ + 1)))))
 else (
  some (.done (.inl ())))
def Y3 (l_ : List (List Int)) (w_ : List Int) : Option Bool :=
 Option.bind (loop (fun s => uK l_ w_ s) 0) fun t2 =>
 match t2 with
 | .inl p => kA
 | .inr p => some p
def jr (inputs : Int) (t_Nodes : List z7) : Option zb :=
 some (zb.mk inputs t_Nodes)
def jq (i_ : Int) (t_Nodes2 : List z7) : Option (LR (List z7 × Int) (List z7)) :=
 some (.next (t_Nodes2, w64 (i_ + 1)))
def jp (t_Nodes1 : List z7) (i_ : Int) (r_1 : Bool) (n_Next : List Int) : Option (LR (List z7 × Int) (List z7)) :=
 gd (t_Nodes1.length + ([(z7.mk n_Next r_1)] : List z7).length ≤ 4294967296) <|
 jq i_ (t_Nodes1 ++ ([(z7.mk n_Next r_1)] : List z7))
def jo (s_ : Int) (n_Next2 : List Int) : Option (LR (List Int × Int) (List Int)) :=
 some (.next (n_Next2, w64 (s_ + 1)))
def jn (n_Next1 : List Int) (s_ : Int) (next : Int) : Option (LR (List Int × Int) (List Int)) :=
 gd (n_Next1.length + ([next] : List Int).length ≤ 4294967296) <|
 jo s_ (n_Next1 ++ ([next] : List Int))
def uU (k_ : Int) (next2 : Int) : Option (LR (Int × Int) Int) :=
 some (.next (next2, w64 (k_ + 1)))
def wo (r_ : List (List Int)) (i_ : Int) (s_ : Int) (next1 : Int) (k_ : Int) : Option (LR (Int × Int) Int) :=
 bif decide (k_ < ((r_.length : Nat) : Int)) then (
  Option.bind (idx r_ k_) fun r__e1 =>
  Option.bind (idx r_ i_) fun r__e2 =>
  gd (([] : List Int).length + r__e2.length ≤ 4294967296) <|
  gd (r__e2.length + ([s_] : List Int).length ≤ 4294967296) <|
  Option.bind (yJ r__e1 (r__e2 ++ ([s_] : List Int))) fun r_2 =>
  bif r_2 == 0 then (
   uU k_ k_)
  else (
   uU k_ next1))
 else (
  some (.done next1))
def wp (inputs : Int) (r_ : List (List Int)) (i_ : Int) (n_Next1 : List Int) (s_ : Int) : Option (LR (List Int × Int) (List Int)) :=
 bif decide (s_ < inputs) then (
  Option.bind (loop (fun s => wo r_ i_ s_ s.1 s.2) ((-1), 0)) fun t8 =>
  jn n_Next1 s_ t8)
 else (
  some (.done n_Next1))
def wq (l_ : List (List Int)) (inputs : Int) (r_ : List (List Int)) (t_Nodes1 : List z7) (i_ : Int) : Option (LR (List z7 × Int) (List z7)) :=
 bif decide (i_ < ((r_.length : Nat) : Int)) then (
  Option.bind (idx r_ i_) fun r__e =>
  Option.bind (Y3 l_ r__e) fun r_1 =>
  Option.bind (loop (fun s => wp inputs r_ i_ s.1 s.2) (([] : List Int), 0)) fun t5 =>
  jp t_Nodes1 i_ r_1 t5)
 else (
  some (.done t_Nodes1))
def Z2 (l_ : List (List Int)) (inputs : Int) : Option zb :=
 Option.bind (uk l_) fun r_ =>
 Option.bind (loop (fun s => wq l_ inputs r_ s.1 s.2) (([] : List z7), 0)) fun t2 =>
 jr inputs t2
def kR : Option Bool :=
 some true
def xh (a_ : zb) (b_ : zb) (i_ : Int) : Option (LR Int (Unit ⊕ Bool)) :=
 bif decide (i_ < ((a_.Nodes.length : Nat) : Int)) then (
  Option.bind (idx a_.Nodes i_) fun Node_e =>
  Option.bind (idx b_.Nodes i_) fun Node_e1 =>
  bif !(Node_e.End == Node_e1.End) then (
   some (.done (.inr false)))
  else (
   Option.bind (idx a_.Nodes i_) fun Node_e2 =>
   Option.bind (idx b_.Nodes i_) fun Node_e3 =>
   Option.bind (yJ Node_e2.Next Node_e3.Next) fun r_ =>
   bif r_ != 0 then (
    some (.done (.inr false)))
   else (
    some (.next (w64 (i_ + 1))))))
 else (
  some (.done (.inl ())))
def vY (a_ : zb) (b_ : zb) : Option Bool :=
 bif a_.Inputs != b_.Inputs then (
  some false)
 else (
  bif ((a_.Nodes.length : Nat) : Int) != ((b_.Nodes.length : Nat) : Int) then (
   some false)
  else (
   Option.bind (loop (fun s => xh a_ b_ s) 0) fun t2 =>
   match t2 with
   | .inl p => kR
   | .inr p => some p))
def vI (t_ : zb) (l_ : List (List Int)) : Option (List (List Int) × Int) :=
 Option.bind (jY l_ t_.Inputs) fun r_ =>
 bif r_ != 0 then (
  some (([] : List (List Int)), 4))
 else (
  Option.bind (Z2 l_ t_.Inputs) fun r_1 =>
  Option.bind (vY t_ r_1) fun r_2 =>
  bif !r_2 then (
   some (([] : List (List Int)), 4))
  else (
   some (l_, 0)))
def qO (i_ : Int) (word1 : List (List Int)) (seen1 : List Bool) (l_2 : List (List Int)) (x46_Next : List Int) (x46_End : Bool) (x47 : List Int) (x48 : List Int) (x49 : Int) (x52 : Bool) (x58 : List Int) (x59 : Int) (x60 : Bool) : Option (LR (List (List Int) × List Bool × List (List Int) × Int) (List (List Int) ⊕ (List (List Int) × Int))) :=
 some (.next (word1, seen1, l_2, w64 (i_ + 1)))
def vG (s_ : Int) (word3 : List (List Int)) (seen4 : List Bool) : Option (LR (List (List Int) × List Bool × Int) ((List (List Int) × List Bool × List (List Int) × List Int × Bool × List Int × List Int × Int × Bool × List Int × Int × Bool) ⊕ (List (List Int) × Int))) :=
 some (.next (word3, seen4, w64 (s_ + 1)))
def vE (t_ : zb) (i_ : Int) (Node_e : z7) (word_e : List Int) (l_3 : List (List Int)) (word2 : List (List Int)) (seen3 : List Bool) (s_ : Int) : Option (LR (List (List Int) × List Bool × Int) ((List (List Int) × List Bool × List (List Int) × List Int × Bool × List Int × List Int × Int × Bool × List Int × Int × Bool) ⊕ (List (List Int) × Int))) :=
 bif decide (s_ < t_.Inputs) then (
  Option.bind (idx t_.Nodes i_) fun Node_e1 =>
  Option.bind (idx Node_e1.Next s_) fun Next_e =>
  bif Next_e == (-1) then (
   vG s_ word2 seen3)
  else (
   bif decide (Next_e ≤ i_) then (
    some (.done (.inr (([] : List (List Int)), 4))))
   else (
    bif decide (Next_e ≥ ((t_.Nodes.length : Nat) : Int)) then (
     some (.done (.inr (([] : List (List Int)), 4))))
    else (
     Option.bind (idx seen3 Next_e) fun seen_e1 =>
     bif seen_e1 then (
      some (.done (.inr (([] : List (List Int)), 4))))
     else (
      Option.bind (idx seen3 Next_e) fun seen_e2 =>
      Option.bind (idx word2 i_) fun word_e1 =>
      gd (([] : List Int).length + word_e1.length ≤ 4294967296) <|
      gd (word_e1.length + ([s_] : List Int).length ≤ 4294967296) <|
      Option.bind (idx word2 Next_e) fun word_e2 =>
      vG s_ (word2.set Next_e.toNat (word_e1 ++ ([s_] : List Int))) (seen3.set Next_e.toNat true))))))
 else (
  some (.done (.inl (word2, seen3, l_3, Node_e.Next, Node_e.End, Node_e.Next, Node_e.Next, ((Node_e.Next.length : Nat) : Int), ((Node_e.Next.length : Nat) : Int) != t_.Inputs, word_e, ((word_e.length : Nat) : Int), decide (((word_e.length : Nat) : Int) > 256)))))
def vH (t_ : zb) (word : List (List Int)) (i_ : Int) (seen2 : List Bool) (Node_e : z7) (word_e : List Int) (l_3 : List (List Int)) : Option (LR (List (List Int) × List Bool × List (List Int) × Int) (List (List Int) ⊕ (List (List Int) × Int))) :=
 Option.bind (loop (fun s => vE t_ i_ Node_e word_e l_3 s.1 s.2.1 s.2.2) (word, seen2, 0)) fun t6 =>
 match t6 with
 | .inl p => qO i_ p.1 p.2.1 p.2.2.1 p.2.2.2.1 p.2.2.2.2.1 p.2.2.2.2.2.1 p.2.2.2.2.2.2.1 p.2.2.2.2.2.2.2.1 p.2.2.2.2.2.2.2.2.1 p.2.2.2.2.2.2.2.2.2.1 p.2.2.2.2.2.2.2.2.2.2.1 p.2.2.2.2.2.2.2.2.2.2.2
 | .inr p => some (.done (.inr p))
def wG (t_ : zb) (word : List (List Int)) (l_1 : List (List Int)) (i_ : Int) (seen2 : List Bool) : Option (LR (List (List Int) × List Bool × List (List Int) × Int) (List (List Int) ⊕ (List (List Int) × Int))) :=
 Option.bind (idx seen2 i_) fun seen_e =>
 bif !seen_e then (
  some (.done (.inr (([] : List (List Int)), 4))))
 else (
  Option.bind (idx t_.Nodes i_) fun Node_e =>
  bif ((Node_e.Next.length : Nat) : Int) != t_.Inputs then (
   some (.done (.inr (([] : List (List Int)), 4))))
  else (
   Option.bind (idx word i_) fun word_e =>
   bif decide (((word_e.length : Nat) : Int) > 256) then (
    some (.done (.inr (([] : List (List Int)), 4))))
   else (
    Option.bind (idx t_.Nodes i_) fun Node_e2 =>
    bif Node_e2.End then (
     Option.bind (idx word i_) fun word_e3 =>
     gd (l_1.length + ([word_e3] : List (List Int)).length ≤ 4294967296) <|
     vH t_ word i_ seen2 Node_e word_e (l_1 ++ ([word_e3] : List (List Int))))
    else (
     vH t_ word i_ seen2 Node_e word_e l_1))))
def vF (t_ : zb) (word : List (List Int)) (seen : List Bool) (l_1 : List (List Int)) (i_ : Int) : Option (LR (List (List Int) × List Bool × List (List Int) × Int) (List (List Int) ⊕ (List (List Int) × Int))) :=
 bif decide (i_ < ((t_.Nodes.length : Nat) : Int)) then (
  bif i_ == 0 then (
   Option.bind (idx seen 0) fun seen_e3 =>
   wG t_ word l_1 i_ (seen.set (0 : Int).toNat true))
  else (
   wG t_ word l_1 i_ seen))
 else (
  some (.done (.inl l_1)))
def vj (t_ : zb) : Option (List (List Int) × Int) :=
 bif decide (t_.Inputs < 1) then (
  some (([] : List (List Int)), 4))
 else (
  bif decide (t_.Inputs > 16) then (
   some (([] : List (List Int)), 4))
  else (
   gd ((0 : Int) ≤ ((t_.Nodes.length : Nat) : Int) ∧ (((t_.Nodes.length : Nat) : Int) : Int) ≤ 4294967296) <|
   gd ((0 : Int) ≤ ((t_.Nodes.length : Nat) : Int) ∧ (((t_.Nodes.length : Nat) : Int) : Int) ≤ 4294967296) <|
   Option.bind (loop (fun s => vF t_ s.1 s.2.1 s.2.2.1 s.2.2.2) ((List.replicate ((t_.Nodes.length : Nat) : Int).toNat ([] : List Int)), (List.replicate ((t_.Nodes.length : Nat) : Int).toNat false), ([] : List (List Int)), 0)) fun t2 =>
   match t2 with
   | .inl p => vI t_ p
   | .inr p => some p))
def Zh : Option Bool :=
 some true
def u6 (x15 : Int) (seen1 : List Bool) (x31 : List Int) (x32 : Int) (x35 : Bool) : Option (LR (List Bool × Int) (Unit ⊕ Bool)) :=
 some (.next (seen1, w64 (x15 + 1)))
def wj (x40 : Int) (seen3 : List Bool) : Option (LR (List Bool × Int) ((List Bool × List Int × Int × Bool) ⊕ Bool)) :=
 some (.next (seen3, w64 (x40 + 1)))
def xJ (t_ : zb) (x15 : Int) (Node_e : z7) (seen2 : List Bool) (x40 : Int) : Option (LR (List Bool × Int) ((List Bool × List Int × Int × Bool) ⊕ Bool)) :=
 bif decide (x40 < ((Node_e.Next.length : Nat) : Int)) then (
  Option.bind (idx Node_e.Next x40) fun Next_e =>
  bif Next_e == (-1) then (
   wj x40 seen2)
  else (
   bif decide (Next_e ≤ x15) then (
    some (.done (.inr false)))
   else (
    bif decide (Next_e ≥ ((t_.Nodes.length : Nat) : Int)) then (
     some (.done (.inr false)))
    else (
     Option.bind (idx seen2 Next_e) fun seen_e =>
     bif seen_e then (
      some (.done (.inr false)))
     else (
      Option.bind (idx seen2 Next_e) fun seen_e1 =>
      wj x40 (seen2.set Next_e.toNat true))))))
 else (
  some (.done (.inl (seen2, Node_e.Next, ((Node_e.Next.length : Nat) : Int), ((Node_e.Next.length : Nat) : Int) != t_.Inputs))))
def xK (t_ : zb) (seen : List Bool) (x15 : Int) (Node_e : z7) : Option (LR (List Bool × Int) (Unit ⊕ Bool)) :=
 Option.bind (loop (fun s => xJ t_ x15 Node_e s.1 s.2) (seen, 0)) fun t5 =>
 match t5 with
 | .inl p => u6 x15 p.1 p.2.1 p.2.2.1 p.2.2.2
 | .inr p => some (.done (.inr p))
def wi (t_ : zb) (seen : List Bool) (x15 : Int) : Option (LR (List Bool × Int) (Unit ⊕ Bool)) :=
 bif decide (x15 < ((t_.Nodes.length : Nat) : Int)) then (
  Option.bind (idx t_.Nodes x15) fun Node_e =>
  bif decide (x15 > 0) then (
   Option.bind (idx seen x15) fun seen_e2 =>
   bif !seen_e2 then (
    some (.done (.inr false)))
   else (
    bif ((Node_e.Next.length : Nat) : Int) != t_.Inputs then (
     some (.done (.inr false)))
    else (
     xK t_ seen x15 Node_e)))
  else (
   bif ((Node_e.Next.length : Nat) : Int) != t_.Inputs then (
    some (.done (.inr false)))
   else (
    xK t_ seen x15 Node_e)))
 else (
  some (.done (.inl ())))
def uE (t_ : zb) : Option Bool :=
 gd ((0 : Int) ≤ ((t_.Nodes.length : Nat) : Int) ∧ (((t_.Nodes.length : Nat) : Int) : Int) ≤ 4294967296) <|
 Option.bind (loop (fun s => wi t_ s.1 s.2) ((List.replicate ((t_.Nodes.length : Nat) : Int).toNat false), 0)) fun t2 =>
 match t2 with
 | .inl p => Zh
 | .inr p => some p
def uD (nodes : List z7) : Option (List z7) :=
 some nodes
def y9 (s_ : List Int) : Option (List Int) :=
 gd ((0 : Int) ≤ 0 ∧ (0 : Int) ≤ ((s_.length : Nat) : Int) ∧ (((s_.length : Nat) : Int) : Int) ≤ ((s_.length : Nat) : Int) ∧ (((s_.length : Nat) : Int) : Int) ≤ ((s_.length : Nat) : Int)) <|
 some ((s_.drop 0).take (((s_.length : Nat) : Int).toNat - 0))
def uO {σ : Type} (sg2 : σ) (next : List za) : Option (LR (σ × List za) σ) :=
 some (.next (sg2, next))
def uN {σ : Type} (x19 : Int) (sg4 : σ) (next2 : List za) : Option (LR (σ × List za × Int) ((σ × List za) ⊕ σ)) :=
 some (.next (sg4, next2, w64 (x19 + 1)))
def wO {σ : Type} (x34 : Int) (next4 : List za) : Option (LR (List za × Int) ((σ × List za))) :=
 some (.next (next4, w64 (x34 + 1)))
def yS {σ : Type} (level_e : za) (yr : σ × Bool) (x_e : z7) (next3 : List za) (x34 : Int) : Option (LR (List za × Int) ((σ × List za))) :=
 bif decide (x34 < ((x_e.Next.length : Nat) : Int)) then (
  Option.bind (idx x_e.Next x34) fun Next_e =>
  bif Next_e != (-1) then (
   Option.bind (y9 level_e.w_) fun r_ =>
   gd (r_.length + ([x34] : List Int).length ≤ 4294967296) <|
   gd (next3.length + ([(za.mk Next_e (r_ ++ ([x34] : List Int)))] : List za).length ≤ 4294967296) <|
   wO x34 (next3 ++ ([(za.mk Next_e (r_ ++ ([x34] : List Int)))] : List za)))
  else (
   wO x34 next3))
 else (
  some (.done (yr.1, next3)))
def wM {σ : Type} (x0 : List z7) (yy : σ → za → Option (σ × Bool)) (level1 : List za) (sg3 : σ) (next1 : List za) (x19 : Int) : Option (LR (σ × List za × Int) ((σ × List za) ⊕ σ)) :=
 bif decide (x19 < ((level1.length : Nat) : Int)) then (
  Option.bind (idx level1 x19) fun level_e =>
  Option.bind (yy sg3 level_e) fun yr =>
  bif !yr.2 then (
   some (.done (.inr yr.1)))
  else (
   Option.bind (idx x0 level_e.at_) fun x_e =>
   Option.bind (loop (fun s => yS level_e yr x_e s.1 s.2) (next1, 0)) fun t6 =>
   uN x19 t6.1 t6.2))
 else (
  some (.done (.inl (sg3, next1))))
def wN {σ : Type} (x0 : List z7) (yy : σ → za → Option (σ × Bool)) (sg1 : σ) (level1 : List za) : Option (LR (σ × List za) σ) :=
 bif decide (((level1.length : Nat) : Int) > 0) then (
  Option.bind (loop (fun s => wM x0 yy level1 s.1 s.2.1 s.2.2) (sg1, ([] : List za), 0)) fun t4 =>
  match t4 with
  | .inl p => uO p.1 p.2
  | .inr p => some (.done p))
 else (
  some (.done sg1))
def wP {σ : Type} (x0 : List z7) (yy : σ → za → Option (σ × Bool)) (sg : σ) (level : List za) : Option σ :=
 Option.bind (loop (fun s => wN x0 yy s.1 s.2) (sg, level)) fun t2 =>
 some t2
def x4 (x0 : List z7) {σ : Type} (yy : σ → za → Option (σ × Bool)) (sg : σ) : Option σ :=
 bif decide (((x0.length : Nat) : Int) > 0) then (
  wP x0 yy sg ([(za.mk 0 [])] : List za))
 else (
  wP x0 yy sg ([] : List za))
def kq (k_ : Int) : Option Bool :=
 some (k_ != (-1))
def xm : Option Int :=
 some (-1)
def ya (s_ : List Int) (x8 : Int) : Option (LR Int (Unit ⊕ Int)) :=
 bif decide (x8 < ((s_.length : Nat) : Int)) then (
  Option.bind (idx s_ x8) fun s__e =>
  Option.bind (kq s__e) fun r_ =>
  bif r_ then (
   some (.done (.inr x8)))
  else (
   some (.next (w64 (x8 + 1)))))
 else (
  some (.done (.inl ())))
def yU (s_ : List Int) (f_ : Unit) : Option Int :=
 Option.bind (loop (fun s => ya s_ s) 0) fun t2 =>
 match t2 with
 | .inl p => xm
 | .inr p => some p
def yB (s_ : List Int) (f_ : Unit) : Option Bool :=
 Option.bind (yU s_ ()) fun r_ =>
 some (decide (r_ ≥ 0))
def qz (n_ : z7) : Option Bool :=
 Option.bind (yB n_.Next ()) fun r_ =>
 some (!r_)
def yu (s_ : List Int) : Option (List Int) :=
 gd (([] : List Int).length + s_.length ≤ 4294967296) <|
 some s_
def jl (c_ : Int) (x1 : Int) : Option Bool :=
 bif decide (c_ < 0) then (
  some true)
 else (
  some (decide (c_ ≥ x1)))
def w7 : Option Int :=
 some (-1)
def yh (s_ : List Int) (f_ : Int) (x8 : Int) : Option (LR Int (Unit ⊕ Int)) :=
 bif decide (x8 < ((s_.length : Nat) : Int)) then (
  Option.bind (idx s_ x8) fun s__e =>
  Option.bind (jl s__e f_) fun r_ =>
  bif r_ then (
   some (.done (.inr x8)))
  else (
   some (.next (w64 (x8 + 1)))))
 else (
  some (.done (.inl ())))
def xD (s_ : List Int) (f_ : Int) : Option Int :=
 Option.bind (loop (fun s => yh s_ f_ s) 0) fun t2 =>
 match t2 with
 | .inl p => w7
 | .inr p => some p
def yV (s_ : List Int) (f_ : Int) : Option Bool :=
 Option.bind (xD s_ f_) fun r_ =>
 some (decide (r_ ≥ 0))
def qu (w_ : List Int) (inputs : Int) : Option Int :=
 bif decide (inputs > 16) then (
  some 3)
 else (
  bif decide (((w_.length : Nat) : Int) > 256) then (
   some 3)
  else (
   bif decide (inputs < 1) then (
    some 1)
   else (
    Option.bind (yV w_ inputs) fun r_ =>
    bif r_ then (
     some 1)
    else (
     some 0))))
def kD : Option Int :=
 some 0
def vA (l_ : List (List Int)) (inputs : Int) (x19 : Int) : Option (LR Int (Unit ⊕ Int)) :=
 bif decide (x19 < ((l_.length : Nat) : Int)) then (
  Option.bind (idx l_ x19) fun l__e =>
  Option.bind (qu l__e inputs) fun r_ =>
  bif r_ != 0 then (
   some (.done (.inr r_)))
  else (
   some (.next (w64 (x19 + 1)))))
 else (
  some (.done (.inl ())))
def qw (l_ : List (List Int)) (inputs : Int) : Option Int :=
 bif decide (inputs > 16) then (
  some 3)
 else (
  bif decide (((l_.length : Nat) : Int) > 4096) then (
   some 3)
  else (
   bif decide (inputs < 1) then (
    some 1)
   else (
    Option.bind (loop (fun s => vA l_ inputs s) 0) fun t2 =>
    match t2 with
    | .inl p => kD
    | .inr p => some p)))
def uY (x_ : Int) : Option Bool :=
 some (x_ != x_)
def v7 (x_ : Int) (y_ : Int) : Option Int :=
 Option.bind (uY x_) fun r_ =>
 Option.bind (uY y_) fun r_1 =>
 bif r_ then (
  bif r_1 then (
   some 0)
  else (
   some (-1)))
 else (
  bif r_1 then (
   some 1)
  else (
   bif decide (x_ < y_) then (
    some (-1))
   else (
    bif decide (x_ > y_) then (
     some 1)
    else (
     some 0))))
def xg (s1 : List Int) (s2 : List Int) : Option Int :=
 bif decide (((s1.length : Nat) : Int) < ((s2.length : Nat) : Int)) then (
  some (-1))
 else (
  some 0)
def yq (s1 : List Int) (s2 : List Int) (x11 : Int) : Option (LR Int (Unit ⊕ Int)) :=
 bif decide (x11 < ((s1.length : Nat) : Int)) then (
  Option.bind (idx s1 x11) fun s_e =>
  bif decide (x11 ≥ ((s2.length : Nat) : Int)) then (
   some (.done (.inr 1)))
  else (
   Option.bind (idx s2 x11) fun s_e1 =>
   Option.bind (v7 s_e s_e1) fun r_ =>
   bif r_ != 0 then (
    some (.done (.inr r_)))
   else (
    some (.next (w64 (x11 + 1))))))
 else (
  some (.done (.inl ())))
def xc (s1 : List Int) (s2 : List Int) : Option Int :=
 Option.bind (loop (fun s => yq s1 s2 s) 0) fun t2 =>
 match t2 with
 | .inl p => xg s1 s2
 | .inr p => some p
def ju : Option Int :=
 some 0
def uc (vals : List Int) (x8 : Int) : Option (LR Int (Unit ⊕ Int)) :=
 bif decide (x8 < ((vals.length : Nat) : Int)) then (
  Option.bind (idx vals x8) fun val_e =>
  bif val_e != 0 then (
   some (.done (.inr val_e)))
  else (
   some (.next (w64 (x8 + 1)))))
 else (
  some (.done (.inl ())))
def Z9 (vals : List Int) : Option Int :=
 Option.bind (loop (fun s => uc vals s) 0) fun t2 =>
 match t2 with
 | .inl p => ju
 | .inr p => some p
def vd (a_ : List Int) (b_ : List Int) : Option Int :=
 Option.bind (v7 ((a_.length : Nat) : Int) ((b_.length : Nat) : Int)) fun r_ =>
 Option.bind (xc a_ b_) fun r_1 =>
 Option.bind (Z9 ([r_, r_1])) fun r_2 =>
 some r_2
def qJ : Option Bool :=
 some true
def vB (l_ : List (List Int)) (i_ : Int) : Option (LR Int (Unit ⊕ Bool)) :=
 bif decide (i_ < ((l_.length : Nat) : Int)) then (
  Option.bind (idx l_ (w64 (i_ - 1))) fun l__e =>
  Option.bind (idx l_ i_) fun l__e1 =>
  Option.bind (vd l__e l__e1) fun r_ =>
  bif decide (r_ ≥ 0) then (
   some (.done (.inr false)))
  else (
   some (.next (w64 (i_ + 1)))))
 else (
  some (.done (.inl ())))
def jH (l_ : List (List Int)) : Option Bool :=
 Option.bind (loop (fun s => vB l_ s) 1) fun t2 =>
 match t2 with
 | .inl p => qJ
 | .inr p => some p
def kC (n_ : Int) : Option Int :=
 some n_
def vz (l_ : List (List Int)) (n_1 : Int) (x7 : Int) : Option (LR (Int × Int) Int) :=
 bif decide (x7 < ((l_.length : Nat) : Int)) then (
  Option.bind (idx l_ x7) fun l__e =>
  some (.next (w64 (n_1 + ((l__e.length : Nat) : Int)), w64 (x7 + 1))))
 else (
  some (.done n_1))
def uw (l_ : List (List Int)) : Option Int :=
 Option.bind (loop (fun s => vz l_ s.1 s.2) (0, 0)) fun t2 =>
 kC t2
def xe (l_ : List (List Int)) (inputs : Int) : Option Int :=
 Option.bind (qw l_ inputs) fun r_ =>
 bif r_ != 0 then (
  some r_)
 else (
  Option.bind (jH l_) fun r_1 =>
  bif !r_1 then (
   some 1)
  else (
   Option.bind (uw l_) fun r_2 =>
   bif decide (r_2 > 65536) then (
    some 3)
   else (
    some 0)))
def ye (s_ : List (List Int)) : Option (List (List Int)) :=
 gd ((0 : Int) ≤ 0 ∧ (0 : Int) ≤ ((s_.length : Nat) : Int) ∧ (((s_.length : Nat) : Int) : Int) ≤ ((s_.length : Nat) : Int) ∧ (((s_.length : Nat) : Int) : Int) ≤ ((s_.length : Nat) : Int)) <|
 some ((s_.drop 0).take (((s_.length : Nat) : Int).toNat - 0))
def wD (t_ : zb) (x3 : Int) (l_ : List (List Int)) : Option (List (List Int) × Int) :=
 Option.bind (xe l_ t_.Inputs) fun r_1 =>
 bif r_1 != 0 then (
  some (([] : List (List Int)), 4))
 else (
  Option.bind (ye l_) fun r_2 =>
  some (r_2, 0))
def vC (x31 : Int) (at_ : Int) (l_2 : List (List Int)) : Option (LR (Int × List (List Int) × Int) ((Int × List (List Int) × Int))) :=
 some (.next (x31, l_2, w64 (at_ + 1)))
def xP (x31 : Int) (l_1 : List (List Int)) (at_ : Int) (x30 : za) (Node_e : z7) (x49 : Bool) (x50 : Bool) (x54 : Bool) : Option (LR (Int × List (List Int) × Int) ((Int × List (List Int) × Int))) :=
 bif Node_e.End then (
  Option.bind (yu x30.w_) fun r_4 =>
  Option.bind (y9 r_4) fun r_5 =>
  gd (l_1.length + ([r_5] : List (List Int)).length ≤ 4294967296) <|
  vC x31 at_ (l_1 ++ ([r_5] : List (List Int))))
 else (
  vC x31 at_ l_1)
def yc (t_ : zb) (x31 : Int) (l_1 : List (List Int)) (at_ : Int) (x30 : za) : Option (LR (Int × List (List Int) × Int) ((Int × List (List Int) × Int))) :=
 Option.bind (idx t_.Nodes x30.at_) fun Node_e =>
 bif x30.at_ != at_ then (
  some (.done (4, l_1, at_)))
 else (
  bif decide (((x30.w_.length : Nat) : Int) > 256) then (
   some (.done (4, l_1, at_)))
  else (
   Option.bind (qz Node_e) fun r_6 =>
   bif r_6 then (
    bif !Node_e.End then (
     some (.done (4, l_1, at_)))
    else (
     xP x31 l_1 at_ x30 Node_e r_6 r_6 (!Node_e.End)))
   else (
    xP x31 l_1 at_ x30 Node_e r_6 r_6 false)))
def xF (t_ : zb) : Option (List (List Int) × Int) :=
 bif decide (t_.Inputs < 1) then (
  some (([] : List (List Int)), 4))
 else (
  bif decide (t_.Inputs > 16) then (
   some (([] : List (List Int)), 4))
  else (
   bif decide (((t_.Nodes.length : Nat) : Int) > 65537) then (
    some (([] : List (List Int)), 4))
   else (
    Option.bind (uE t_) fun r_ =>
    bif !r_ then (
     some (([] : List (List Int)), 4))
    else (
     Option.bind (uD t_.Nodes) fun r_3 =>
     Option.bind (x4 r_3 (yOf (fun s x => yc t_ s.1 s.2.1 s.2.2 x)) (.next (0, ([] : List (List Int)), 0))) fun t2 =>
     match t2 with
     | .next (x31, l_1, at_) => (
      wD t_ x31 l_1)
     | .done (x31, l_1, at_) => (
      some (([] : List (List Int)), x31))))))
def kF (n_ : Int) : Option (Int × Int) :=
 some (n_, 0)
def uh (x20 : Int) (n_2 : Int) : Option (LR (Int × Int) Int) :=
 some (.next (n_2, w64 (x20 + 1)))
def xQ (t_ : zb) (n_1 : Int) (x20 : Int) : Option (LR (Int × Int) Int) :=
 bif decide (x20 < ((t_.Nodes.length : Nat) : Int)) then (
  Option.bind (idx t_.Nodes x20) fun Node_e =>
  Option.bind (qz Node_e) fun r_1 =>
  bif r_1 then (
   uh x20 (w64 (n_1 + 1)))
  else (
   uh x20 n_1))
 else (
  some (.done n_1))
def vT (t_ : zb) : Option (Int × Int) :=
 Option.bind (xF t_) fun r_ =>
 bif r_.2 != 0 then (
  some (0, r_.2))
 else (
  Option.bind (loop (fun s => xQ t_ s.1 s.2) (0, 0)) fun t2 =>
  kF t2)
def js : Option Bool :=
 some true
def u7 (a_ : List (List Int)) (b_ : List (List Int)) (i_ : Int) : Option (LR Int (Unit ⊕ Bool)) :=
 bif decide (i_ < ((a_.length : Nat) : Int)) then (
  Option.bind (idx a_ i_) fun a__e =>
  Option.bind (idx b_ i_) fun b__e =>
  Option.bind (yJ a__e b__e) fun r_ =>
  bif r_ != 0 then (
   some (.done (.inr false)))
  else (
   some (.next (w64 (i_ + 1)))))
 else (
  some (.done (.inl ())))
def jB (a_ : List (List Int)) (b_ : List (List Int)) : Option Bool :=
 bif ((a_.length : Nat) : Int) != ((b_.length : Nat) : Int) then (
  some false)
 else (
  Option.bind (loop (fun s => u7 a_ b_ s) 0) fun t2 =>
  match t2 with
  | .inl p => js
  | .inr p => some p)
def yZ (l_ : List (List Int)) : Option (List (List Int)) :=
 some l_
def vW (s_ : List (List Int)) : Option (List (List Int)) :=
 gd (([] : List (List Int)).length + s_.length ≤ 4294967296) <|
 some s_
def qI (a_ : List Int) (b_ : List Int) : Option Bool :=
 Option.bind (vd a_ b_) fun r_ =>
 some (r_ == 0)
def xu (s_ : List (List Int)) : Option (List (List Int)) :=
 some s_
def xr (k_ : Int) : Option (LR Int (Unit ⊕ List (List Int))) :=
 some (.next (w64 (k_ + 1)))
def xq (s_1 : List (List Int)) (k_1 : Int) : Option (LR Int (Unit ⊕ List (List Int))) :=
 gd ((0 : Int) ≤ k_1 ∧ (k_1 : Int) ≤ ((s_1.length : Nat) : Int)) <|
 gd ((0 : Int) ≤ k_1 ∧ (k_1 : Int) ≤ ((s_1.length : Nat) : Int)) <|
 gd ((0 : Int) ≤ k_1 ∧ (k_1 : Int) ≤ (((s_1.take k_1.toNat ++ List.replicate (s_1.length - k_1.toNat) []).length : Nat) : Int)) <|
 some (.done (.inr ((s_1.take k_1.toNat ++ List.replicate (s_1.length - k_1.toNat) []).take k_1.toNat)))
def yC (k2 : Int) (s_3 : List (List Int)) (k_3 : Int) : Option (LR (List (List Int) × Int × Int) ((List (List Int) × Int))) :=
 some (.next (s_3, k_3, w64 (k2 + 1)))
def xo (k_ : Int) (s_2 : List (List Int)) (k_2 : Int) (k2 : Int) : Option (LR (List (List Int) × Int × Int) ((List (List Int) × Int))) :=
 bif decide (k2 < ((s_2.length - k_.toNat : Nat) : Int)) then (
  gd ((0 : Int) ≤ k_ ∧ (0 : Int) ≤ k2) <|
  Option.bind (idx s_2 (k_ + k2)) fun s__e2 =>
  gd ((0 : Int) ≤ k_ ∧ (0 : Int) ≤ w64 (k2 - 1)) <|
  Option.bind (idx s_2 (k_ + (w64 (k2 - 1)))) fun s__e3 =>
  Option.bind (qI s__e2 s__e3) fun r_1 =>
  bif !r_1 then (
   gd ((0 : Int) ≤ k_ ∧ (0 : Int) ≤ k2) <|
   Option.bind (idx s_2 (k_ + k2)) fun s__e4 =>
   Option.bind (idx s_2 k_2) fun s__e5 =>
   yC k2 (s_2.set k_2.toNat s__e4) (w64 (k_2 + 1)))
  else (
   yC k2 s_2 k_2))
 else (
  some (.done (s_2, k_2)))
def xp (s_ : List (List Int)) (k_ : Int) : Option (LR Int (Unit ⊕ List (List Int))) :=
 bif decide (k_ < ((s_.length : Nat) : Int)) then (
  Option.bind (idx s_ k_) fun s__e =>
  Option.bind (idx s_ (w64 (k_ - 1))) fun s__e1 =>
  Option.bind (qI s__e s__e1) fun r_ =>
  bif r_ then (
   gd ((0 : Int) ≤ k_ ∧ (k_ : Int) ≤ ((s_.length : Nat) : Int)) <|
   Option.bind (loop (fun s => xo k_ s.1 s.2.1 s.2.2) (s_, k_, 1)) fun t5 =>
   xq t5.1 t5.2)
  else (
   xr k_))
 else (
  some (.done (.inl ())))
def w8 (s_ : List (List Int)) (eq : Unit) : Option (List (List Int)) :=
 bif decide (((s_.length : Nat) : Int) < 2) then (
  some s_)
 else (
  Option.bind (loop (fun s => xp s_ s) 1) fun t2 =>
  match t2 with
  | .inl p => xu s_
  | .inr p => some p)
def xL (s_ : List (List Int)) : Option (List (List Int)) :=
 some s_
def jF (out : List (List Int × Bool)) : Option (List (List Int) × Int) :=
 gd (∀ q ∈ out, q.2 = true) <|
 some ((out.map (·.1)), 0)
def jE (r_2 : List (List Int)) (out2 : List (List Int × Bool)) (x24 : Int) : Option (LR ((List (List Int × Bool)) × Int) ((List (List Int × Bool)))) :=
 bif decide (x24 < ((r_2.length - (0 : Int).toNat : Nat) : Int)) then (
  gd ((0 : Int) ≤ 0 ∧ (0 : Int) ≤ x24) <|
  Option.bind (idx out2 (0 + x24)) fun out_e =>
  Option.bind (yu out_e.1) fun r_4 =>
  Option.bind (y9 r_4) fun r_5 =>
  Option.bind (idx out2 x24) fun out_e1 =>
  some (.next ((out2.set x24.toNat (r_5, true)), w64 (x24 + 1))))
 else (
  some (.done out2))
def xO (l_ : List (List Int)) : Option (List (List Int) × Int) :=
 Option.bind (vW l_) fun r_ =>
 Option.bind (z5T (fun x y => vd x y) r_) fun sorted =>
 Option.bind (w8 sorted ()) fun r_1 =>
 Option.bind (xL r_1) fun r_2 =>
 bif decide (((r_2.length : Nat) : Int) > 4096) then (
  some (([] : List (List Int)), 3))
 else (
  Option.bind (uw r_2) fun r_3 =>
  bif decide (r_3 > 65536) then (
   some (([] : List (List Int)), 3))
  else (
   Option.bind (loop (fun s => jE r_2 s.1 s.2) ((r_2.map fun q => (q, false)), 0)) fun t2 =>
   jF t2))
def XP (l_ : List (List Int)) (inputs : Int) : Option (List (List Int) × Int) :=
 Option.bind (qw l_ inputs) fun r_ =>
 bif r_ != 0 then (
  some (([] : List (List Int)), r_))
 else (
  Option.bind (xO l_) fun r_1 =>
  some (r_1.1, r_1.2))
def vS (b_ : zn) (n_Next : List Int) : Option (Int × zn) :=
 gd (b_.nodes_.length + ([(z7.mk n_Next false)] : List z7).length ≤ 4294967296) <|
 some (w64 ((((b_.nodes_ ++ ([(z7.mk n_Next false)] : List z7)).length : Nat) : Int) - 1), (zn.mk b_.inputs_ (b_.nodes_ ++ ([(z7.mk n_Next false)] : List z7))))
def vR (b_ : zn) (n_Next1 : List Int) (x14 : Int) : Option (LR (List Int × Int) (List Int)) :=
 bif decide (x14 < (((List.replicate b_.inputs_.toNat (0 : Int)).length : Nat) : Int)) then (
  Option.bind (idx n_Next1 x14) fun n_Next_e =>
  some (.next ((n_Next1.set x14.toNat (-1)), w64 (x14 + 1))))
 else (
  some (.done n_Next1))
def vO (b_ : zn) : Option (Int × zn) :=
 gd ((0 : Int) ≤ b_.inputs_ ∧ (b_.inputs_ : Int) ≤ 4294967296) <|
 Option.bind (loop (fun s => vR b_ s.1 s.2) ((List.replicate b_.inputs_.toNat (0 : Int)), 0)) fun t2 =>
 vS b_ t2
def ue (b_inputs1 : Int) (b_nodes1 : List z7) (at_ : Int) : Option zn :=
 Option.bind (idx b_nodes1 at_) fun b_node_e =>
 some (zn.mk b_inputs1 (b_nodes1.set at_.toNat (z7.mk b_node_e.Next true)))
def wK (at_1 : Int) (x18 : Int) (w__e : Int) (b_inputs3 : Int) (b_nodes3 : List z7) : Option (LR (Int × List z7 × Int × Int) ((Int × List z7 × Int))) :=
 Option.bind (idx b_nodes3 at_1) fun b_node_e1 =>
 Option.bind (idx b_node_e1.Next w__e) fun Next_e =>
 some (.next (b_inputs3, b_nodes3, Next_e, w64 (x18 + 1)))
def ud (w_ : List Int) (b_inputs2 : Int) (b_nodes2 : List z7) (at_1 : Int) (x18 : Int) : Option (LR (Int × List z7 × Int × Int) ((Int × List z7 × Int))) :=
 bif decide (x18 < ((w_.length : Nat) : Int)) then (
  Option.bind (idx w_ x18) fun w__e =>
  Option.bind (idx b_nodes2 at_1) fun b_node_e2 =>
  Option.bind (idx b_node_e2.Next w__e) fun Next_e1 =>
  bif Next_e1 == (-1) then (
   Option.bind (vO (zn.mk b_inputs2 b_nodes2)) fun r_ =>
   Option.bind (idx r_.2.nodes_ at_1) fun nodes__e =>
   Option.bind (idx nodes__e.Next w__e) fun Next_e2 =>
   wK at_1 x18 w__e r_.2.inputs_ (r_.2.nodes_.set at_1.toNat (z7.mk (nodes__e.Next.set w__e.toNat r_.1) nodes__e.End)))
  else (
   wK at_1 x18 w__e b_inputs2 b_nodes2))
 else (
  some (.done (b_inputs2, b_nodes2, at_1)))
def wL (w_ : List Int) (b_inputs : Int) (b_nodes : List z7) : Option zn :=
 Option.bind (loop (fun s => ud w_ s.1 s.2.1 s.2.2.1 s.2.2.2) (b_inputs, b_nodes, 0, 0)) fun t3 =>
 ue t3.1 t3.2.1 t3.2.2
def qA (w_ : List Int) (b_ : zn) : Option zn :=
 bif ((b_.nodes_.length : Nat) : Int) == 0 then (
  Option.bind (vO b_) fun r_1 =>
  wL w_ r_1.2.inputs_ r_1.2.nodes_)
 else (
  wL w_ b_.inputs_ b_.nodes_)
def YD (b_inputs : Int) (b_nodes : List z7) : Option zn :=
 some (zn.mk b_inputs b_nodes)
def YC (l_ : List (List Int)) (b_inputs1 : Int) (b_nodes1 : List z7) (x13 : Int) : Option (LR (Int × List z7 × Int) ((Int × List z7))) :=
 bif decide (x13 < ((l_.length : Nat) : Int)) then (
  Option.bind (idx l_ x13) fun l__e =>
  Option.bind (qA l__e (zn.mk b_inputs1 b_nodes1)) fun r_ =>
  some (.next (r_.inputs_, r_.nodes_, w64 (x13 + 1))))
 else (
  some (.done (b_inputs1, b_nodes1)))
def X4 (l_ : List (List Int)) (inputs : Int) : Option zn :=
 Option.bind (loop (fun s => YC l_ s.1 s.2.1 s.2.2) (inputs, ([] : List z7), 0)) fun t2 =>
 YD t2.1 t2.2
def j9 (out : List (List Int)) : Option (List (List Int)) :=
 Option.bind (ye out) fun r_ =>
 some r_
def uq (nodes : List z7) (out1 : List (List Int)) (x8 : za) : Option (LR (List (List Int)) Empty) :=
 Option.bind (idx nodes x8.at_) fun node_e =>
 Option.bind (qz node_e) fun r_2 =>
 bif r_2 then (
  Option.bind (yu x8.w_) fun r_3 =>
  Option.bind (y9 r_3) fun r_4 =>
  gd (out1.length + ([r_4] : List (List Int)).length ≤ 4294967296) <|
  some (.next (out1 ++ ([r_4] : List (List Int)))))
 else (
  some (.next out1))
def Zi (nodes : List z7) (is : Unit) : Option (List (List Int)) :=
 Option.bind (uD nodes) fun r_1 =>
 Option.bind (x4 r_1 (yOf (fun s x => uq nodes s x)) (.next ([] : List (List Int)))) fun t2 =>
 match t2 with
 | .next out1 => (
  j9 out1)
 | .done z => nomatch z
def ZU (l_ : List (List Int)) (inputs : Int) : Option (List (List Int) × Int) :=
 Option.bind (xe l_ inputs) fun r_ =>
 bif r_ != 0 then (
  some (([] : List (List Int)), r_))
 else (
  Option.bind (X4 l_ inputs) fun r_1 =>
  Option.bind (Zi r_1.nodes_ ()) fun r_2 =>
  some (r_2, 0))
def ja (x0 : z7) : Option Bool :=
 some true
def ux (out : List (List Int)) : Option (List (List Int)) :=
 Option.bind (ye out) fun r_ =>
 some r_
def ve (nodes : List z7) (out1 : List (List Int)) (x8 : za) : Option (LR (List (List Int)) Empty) :=
 Option.bind (idx nodes x8.at_) fun node_e =>
 Option.bind (ja node_e) fun r_2 =>
 bif r_2 then (
  Option.bind (yu x8.w_) fun r_3 =>
  Option.bind (y9 r_3) fun r_4 =>
  gd (out1.length + ([r_4] : List (List Int)).length ≤ 4294967296) <|
  some (.next (out1 ++ ([r_4] : List (List Int)))))
 else (
  some (.next out1))
def j8 (nodes : List z7) (is : Unit) : Option (List (List Int)) :=
 Option.bind (uD nodes) fun r_1 =>
 Option.bind (x4 r_1 (yOf (fun s x => ve nodes s x)) (.next ([] : List (List Int)))) fun t2 =>
 match t2 with
 | .next out1 => (
  ux out1)
 | .done z => nomatch z
def YB (l_ : List (List Int)) : Option (List (List Int) × Int) :=
 bif decide (((l_.length : Nat) : Int) > 4096) then (
  some (([] : List (List Int)), 3))
 else (
  Option.bind (uw l_) fun r_ =>
  bif decide (r_ > 65536) then (
   some (([] : List (List Int)), 3))
  else (
   some (l_, 0)))
def kE (l_ : List (List Int)) (inputs : Int) : Option (List (List Int) × Int) :=
 Option.bind (xe l_ inputs) fun r_ =>
 bif r_ != 0 then (
  some (([] : List (List Int)), r_))
 else (
  Option.bind (X4 l_ inputs) fun r_1 =>
  bif decide (((r_1.nodes_.length : Nat) : Int) > 4096) then (
   some (([] : List (List Int)), 3))
  else (
   Option.bind (j8 r_1.nodes_ ()) fun r_2 =>
   Option.bind (YB r_2) fun r_3 =>
   some (r_3.1, r_3.2)))
def Zk : Option Int :=
 some 0
def Zj (inputs : Int) (l_ : List (List (List Int))) (x10 : Int) : Option (LR Int (Unit ⊕ Int)) :=
 bif decide (x10 < ((l_.length : Nat) : Int)) then (
  Option.bind (idx l_ x10) fun l__e =>
  Option.bind (xe l__e inputs) fun r_ =>
  bif r_ != 0 then (
   some (.done (.inr r_)))
  else (
   some (.next (w64 (x10 + 1)))))
 else (
  some (.done (.inl ())))
def XO (inputs : Int) (l_ : List (List (List Int))) : Option Int :=
 Option.bind (loop (fun s => Zj inputs l_ s) 0) fun t2 =>
 match t2 with
 | .inl p => Zk
 | .inr p => some p
def ZT (b_ : List Int) : Option (List UInt8) :=
 some (u8s b_)
def ZS (w_ : List Int) (b_1 : List Int) (x11 : Int) : Option (LR (List Int × Int) (List Int)) :=
 bif decide (x11 < ((w_.length : Nat) : Int)) then (
  Option.bind (idx w_ x11) fun w__e =>
  Option.bind (idx b_1 x11) fun b__e =>
  some (.next ((b_1.set x11.toNat (IntKind.u8.wrap (w__e))), w64 (x11 + 1))))
 else (
  some (.done b_1))
def VF (w_ : List Int) : Option (List UInt8) :=
 gd ((0 : Int) ≤ ((w_.length : Nat) : Int) ∧ (((w_.length : Nat) : Int) : Int) ≤ 4294967296) <|
 Option.bind (loop (fun s => ZS w_ s.1 s.2) ((List.replicate ((w_.length : Nat) : Int).toNat (0 : Int)), 0)) fun t2 =>
 ZT t2
def jL (out : List (List Int)) : Option (List (List Int) × Int) :=
 Option.bind (xO out) fun r_1 =>
 some (r_1.1, r_1.2)
def jK (x29 : Int) (seen1 : List ((List UInt8) × Bool)) (n_1 : Int) (out2 : List (List Int)) : Option (LR ((List ((List UInt8) × Bool)) × Int × List (List Int) × Int) (List (List Int) ⊕ (List (List Int) × Int))) :=
 some (.next (seen1, n_1, out2, w64 (x29 + 1)))
def uP (x35 : Int) (seen3 : List ((List UInt8) × Bool)) (n_3 : Int) (out4 : List (List Int)) : Option (LR ((List ((List UInt8) × Bool)) × Int × List (List Int) × Int) (((List ((List UInt8) × Bool)) × Int × List (List Int)) ⊕ (List (List Int) × Int))) :=
 bif decide (((out4.length : Nat) : Int) > 4096) then (
  some (.done (.inr (([] : List (List Int)), 3))))
 else (
  bif decide (n_3 > 65536) then (
   some (.done (.inr (([] : List (List Int)), 3))))
  else (
   some (.next (seen3, n_3, out4, w64 (x35 + 1)))))
def jI (b_ : List (List Int)) (a__e : List Int) (seen2 : List ((List UInt8) × Bool)) (n_2 : Int) (out3 : List (List Int)) (x35 : Int) : Option (LR ((List ((List UInt8) × Bool)) × Int × List (List Int) × Int) (((List ((List UInt8) × Bool)) × Int × List (List Int)) ⊕ (List (List Int) × Int))) :=
 bif decide (x35 < ((b_.length : Nat) : Int)) then (
  Option.bind (idx b_ x35) fun b__e =>
  Option.bind (y9 a__e) fun r_2 =>
  gd (r_2.length + b__e.length ≤ 4294967296) <|
  bif decide ((((r_2 ++ b__e).length : Nat) : Int) > 256) then (
   some (.done (.inr (([] : List (List Int)), 3))))
  else (
   Option.bind (VF (r_2 ++ b__e)) fun r_3 =>
   Option.bind (some ((z6o seen2 r_3).getD false)) fun val =>
   bif !val then (
    gd (out3.length + ([(r_2 ++ b__e)] : List (List Int)).length ≤ 4294967296) <|
    uP x35 (z5b seen2 r_3 true) (w64 (n_2 + (((r_2 ++ b__e).length : Nat) : Int))) (out3 ++ ([(r_2 ++ b__e)] : List (List Int))))
   else (
    uP x35 seen2 n_2 out3)))
 else (
  some (.done (.inl (seen2, n_2, out3))))
def jJ (a_ : List (List Int)) (b_ : List (List Int)) (seen : List ((List UInt8) × Bool)) (n_ : Int) (out1 : List (List Int)) (x29 : Int) : Option (LR ((List ((List UInt8) × Bool)) × Int × List (List Int) × Int) (List (List Int) ⊕ (List (List Int) × Int))) :=
 bif decide (x29 < ((a_.length : Nat) : Int)) then (
  Option.bind (idx a_ x29) fun a__e =>
  Option.bind (loop (fun s => jI b_ a__e s.1 s.2.1 s.2.2.1 s.2.2.2) (seen, n_, out1, 0)) fun t4 =>
  match t4 with
  | .inl p => jK x29 p.1 p.2.1 p.2.2
  | .inr p => some (.done (.inr p)))
 else (
  some (.done (.inl out1)))
def ZV (a_ : List (List Int)) (b_ : List (List Int)) (inputs : Int) : Option (List (List Int) × Int) :=
 Option.bind (XO inputs ([a_, b_])) fun r_ =>
 bif r_ != 0 then (
  some (([] : List (List Int)), r_))
 else (
  Option.bind (loop (fun s => jJ a_ b_ s.1 s.2.1 s.2.2.1 s.2.2.2) (([] : List ((List UInt8) × Bool)), 0, ([] : List (List Int)), 0)) fun t2 =>
  match t2 with
  | .inl p => jL p
  | .inr p => some p)
def Zz : Option Bool :=
 some true
def Zy (a_ : List (List Int)) (i_ : Int) : Option (LR Int (Unit ⊕ Bool)) :=
 bif decide (i_ < ((a_.length : Nat) : Int)) then (
  Option.bind (idx a_ i_) fun a__e =>
  Option.bind (idx a_ i_) fun a__e1 =>
  bif ((a__e.length : Nat) : Int) != ((a__e1.length : Nat) : Int) then (
   some (.done (.inr false)))
  else (
   some (.next (w64 (i_ + 1)))))
 else (
  some (.done (.inl ())))
def uL (a_ : List (List Int)) (b_ : List (List Int)) : Option Bool :=
 Option.bind (jB a_ b_) fun r_ =>
 bif !r_ then (
  some false)
 else (
  bif ((a_.length : Nat) : Int) != ((a_.length : Nat) : Int) then (
   some false)
  else (
   Option.bind (loop (fun s => Zy a_ s) 0) fun t2 =>
   match t2 with
   | .inl p => Zz
   | .inr p => some p))
def kw (k_ : Int) (out1 : List (List Int)) (level1 : List (List Int)) (n_1 : Int) (x45 : Int) (x46 : Bool) (x58 : Bool) : Option (LR (List (List Int) × List (List Int) × Int × Int) ((List (List Int) × Int))) :=
 some (.next (out1, level1, n_1, w64 (k_ + 1)))
def ku (k_ : Int) (out2 : List (List Int)) (n_2 : Int) (x581 : Bool) (next : List (List Int)) : Option (LR (List (List Int) × List (List Int) × Int × Int) ((List (List Int) × Int))) :=
 kw k_ out2 next n_2 n_2 (decide (n_2 > 65536)) x581
def kr (x69 : Int) (next2 : List (List Int)) : Option (LR (List (List Int) × Int) (List (List Int))) :=
 some (.next (next2, w64 (x69 + 1)))
def wk (inputs : Int) (level_e : List Int) (next3 : List (List Int)) (x74 : Int) : Option (LR (List (List Int) × Int) (List (List Int))) :=
 bif decide (x74 < inputs) then (
  Option.bind (y9 level_e) fun r_1 =>
  gd (r_1.length + ([x74] : List Int).length ≤ 4294967296) <|
  gd (next3.length + ([(r_1 ++ ([x74] : List Int))] : List (List Int)).length ≤ 4294967296) <|
  some (.next ((next3 ++ ([(r_1 ++ ([x74] : List Int))] : List (List Int))), w64 (x74 + 1))))
 else (
  some (.done next3))
def wm (inputs : Int) (level : List (List Int)) (next1 : List (List Int)) (x69 : Int) : Option (LR (List (List Int) × Int) (List (List Int))) :=
 bif decide (x69 < ((level.length : Nat) : Int)) then (
  Option.bind (idx level x69) fun level_e =>
  Option.bind (loop (fun s => wk inputs level_e s.1 s.2) (next1, 0)) fun t8 =>
  kr x69 t8)
 else (
  some (.done next1))
def uG (inputs : Int) (to : Int) (level : List (List Int)) (k_ : Int) (out2 : List (List Int)) (n_2 : Int) (x581 : Bool) : Option (LR (List (List Int) × List (List Int) × Int × Int) ((List (List Int) × Int))) :=
 bif k_ == to then (
  Option.bind (xO out2) fun r_ =>
  some (.done (r_.1, r_.2)))
 else (
  Option.bind (loop (fun s => wm inputs level s.1 s.2) (([] : List (List Int)), 0)) fun t6 =>
  ku k_ out2 n_2 x581 t6)
def uH (inputs : Int) (to : Int) (level : List (List Int)) (k_ : Int) (out2 : List (List Int)) (n_2 : Int) : Option (LR (List (List Int) × List (List Int) × Int × Int) ((List (List Int) × Int))) :=
 bif decide (((out2.length : Nat) : Int) > 4096) then (
  some (.done (([] : List (List Int)), 3)))
 else (
  bif decide (n_2 > 65536) then (
   some (.done (([] : List (List Int)), 3)))
  else (
   bif decide (k_ < to) then (
    bif decide ((w64 (((level.length : Nat) : Int) * inputs)) > 4096) then (
     some (.done (([] : List (List Int)), 3)))
    else (
     uG inputs to level k_ out2 n_2 (decide ((w64 (((level.length : Nat) : Int) * inputs)) > 4096))))
   else (
    uG inputs to level k_ out2 n_2 false)))
def v8 (inputs : Int) (from_ : Int) (to : Int) (out : List (List Int)) (level : List (List Int)) (n_ : Int) (k_ : Int) : Option (LR (List (List Int) × List (List Int) × Int × Int) ((List (List Int) × Int))) :=
 bif decide (k_ ≥ from_) then (
  gd (out.length + level.length ≤ 4294967296) <|
  uH inputs to level k_ (out ++ level) (w64 (n_ + (w64 (k_ * ((level.length : Nat) : Int))))))
 else (
  uH inputs to level k_ out n_)
def jG (inputs : Int) (from_ : Int) (to : Int) : Option (List (List Int) × Int) :=
 bif decide (inputs > 16) then (
  some (([] : List (List Int)), 3))
 else (
  bif decide (inputs < 1) then (
   some (([] : List (List Int)), 1))
  else (
   bif decide (to < 0) then (
    some (([] : List (List Int)), 1))
   else (
    bif decide (to > 256) then (
     some (([] : List (List Int)), 3))
    else (
     Option.bind (loop (fun s => v8 inputs from_ to s.1 s.2.1 s.2.2.1 s.2.2.2) (([] : List (List Int)), ([[]] : List (List Int)), 0, 0)) fun t1 =>
     some t1))))
def jz (inputs : Int) (k_ : Int) : Option (List (List Int) × Int) :=
 Option.bind (jG inputs 0 k_) fun r_ =>
 some (r_.1, r_.2)
def YE (inputs : Int) (k_ : Int) : Option (List (List Int) × Int) :=
 Option.bind (jG inputs k_ k_) fun r_ =>
 some (r_.1, r_.2)
def yW (s_ : List z7) : Option (List z7) :=
 gd ((0 : Int) ≤ 0 ∧ (0 : Int) ≤ ((s_.length : Nat) : Int) ∧ (((s_.length : Nat) : Int) : Int) ≤ ((s_.length : Nat) : Int) ∧ (((s_.length : Nat) : Int) : Int) ≤ ((s_.length : Nat) : Int)) <|
 some ((s_.drop 0).take (((s_.length : Nat) : Int).toNat - 0))
def xC (number : List Int) (order : List Int) (x23 : za) : Option (LR (List Int × List Int) Empty) :=
 Option.bind (idx number x23.at_) fun number_e =>
 gd (order.length + ([x23.at_] : List Int).length ≤ 4294967296) <|
 some (.next ((number.set x23.at_.toNat ((order.length : Nat) : Int)), (order ++ ([x23.at_] : List Int))))
def uF (b_ : zn) : Option (List Int × List Int) :=
 Option.bind (uD b_.nodes_) fun r_ =>
 Option.bind (x4 r_ (yOf (fun s x => xC s.1 s.2 x)) (.next ((List.replicate ((b_.nodes_.length : Nat) : Int).toNat (0 : Int)), ([] : List Int)))) fun t1 =>
 match t1 with
 | .next (number, order) => (
  some (number, order))
 | .done z => nomatch z
def wU (out : List z7) : Option (List z7) :=
 Option.bind (yW out) fun r_1 =>
 some r_1
def wT (x37 : Int) (b_nodes1 : List (Option z7)) (out2 : List z7) : Option (LR (List (Option z7) × List z7 × Int) (List z7)) :=
 some (.next (b_nodes1, out2, w64 (x37 + 1)))
def wS (b_nodes : List (Option z7)) (out1 : List z7) (x37 : Int) (u_ : Int) (b_node_e : z7) (n_Next : List Int) : Option (LR (List (Option z7) × List z7 × Int) (List z7)) :=
 gd (out1.length + ([(z7.mk n_Next b_node_e.End)] : List z7).length ≤ 4294967296) <|
 wT x37 (b_nodes.set u_.toNat none) (out1 ++ ([(z7.mk n_Next b_node_e.End)] : List z7))
def xA (x51 : Int) (n_Next2 : List Int) : Option (LR (List Int × Int) (List Int)) :=
 some (.next (n_Next2, w64 (x51 + 1)))
def wQ (bo : List Int × List Int) (b_node_e : z7) (n_Next1 : List Int) (x51 : Int) : Option (LR (List Int × Int) (List Int)) :=
 bif decide (x51 < ((b_node_e.Next.length : Nat) : Int)) then (
  Option.bind (idx n_Next1 x51) fun n_Next_e =>
  bif n_Next_e != (-1) then (
   Option.bind (idx bo.1 n_Next_e) fun u_1 =>
   Option.bind (idx n_Next1 x51) fun n_Next_e1 =>
   xA x51 (n_Next1.set x51.toNat u_1))
  else (
   xA x51 n_Next1))
 else (
  some (.done n_Next1))
def wR (bo : List Int × List Int) (b_nodes : List (Option z7)) (out1 : List z7) (x37 : Int) : Option (LR (List (Option z7) × List z7 × Int) (List z7)) :=
 bif decide (x37 < ((bo.2.length : Nat) : Int)) then (
  Option.bind (idx bo.2 x37) fun u_ =>
  Option.bind (idx b_nodes u_) fun there =>
  Option.bind (there) fun b_node_e =>
  Option.bind (loop (fun s => wQ bo b_node_e s.1 s.2) (b_node_e.Next, 0)) fun t6 =>
  wS b_nodes out1 x37 u_ b_node_e t6)
 else (
  some (.done out1))
def vQ (b_ : zn) : Option (List z7) :=
 gd ((0 : Int) ≤ ((b_.nodes_.length : Nat) : Int) ∧ (((b_.nodes_.length : Nat) : Int) : Int) ≤ 4294967296) <|
 Option.bind (uF b_) fun bo =>
 Option.bind (loop (fun s => wR bo s.1 s.2.1 s.2.2) ((b_.nodes_.map some), ([] : List z7), 0)) fun t3 =>
 wU t3
def Jb (l_ : List (List Int)) (inputs : Int) : Option (zb × Int) :=
 Option.bind (xe l_ inputs) fun r_ =>
 bif r_ != 0 then (
  some ((zb.mk 0 []), r_))
 else (
  Option.bind (X4 l_ inputs) fun r_1 =>
  Option.bind (vQ r_1) fun r_2 =>
  some ((zb.mk inputs r_2), 0))
def uz : Option Bool :=
 Option.bind (yZ ([[1, 0], [1], [0], [1]])) fun r_ =>
 Option.bind (XP r_ 2) fun r_1 =>
 Option.bind (yZ ([[], [0], [1], [1, 0]])) fun r_2 =>
 Option.bind (ZU r_2 2) fun r_3 =>
 Option.bind (yZ ([[1, 0]])) fun r_4 =>
 Option.bind (kE r_4 2) fun r_5 =>
 Option.bind (yZ ([[], [0]])) fun r_6 =>
 Option.bind (yZ ([[0], [1]])) fun r_7 =>
 Option.bind (ZV r_6 r_7 2) fun r_8 =>
 bif r_1.2 != 0 then (
  some false)
 else (
  bif r_3.2 != 0 then (
   some false)
  else (
   bif r_5.2 != 0 then (
    some false)
   else (
    bif r_8.2 != 0 then (
     some false)
    else (
     Option.bind (yZ ([[0], [1], [1, 0]])) fun r_9 =>
     Option.bind (uL r_1.1 r_9) fun r_10 =>
     bif !r_10 then (
      some false)
     else (
      Option.bind (yZ ([[0], [1, 0]])) fun r_11 =>
      Option.bind (uL r_3.1 r_11) fun r_12 =>
      bif !r_12 then (
       some false)
      else (
       Option.bind (yZ ([[], [1], [1, 0]])) fun r_13 =>
       Option.bind (uL r_5.1 r_13) fun r_14 =>
       bif !r_14 then (
        some false)
       else (
        Option.bind (yZ ([[0], [1], [0, 0], [0, 1]])) fun r_15 =>
        Option.bind (uL r_8.1 r_15) fun r_16 =>
        bif !r_16 then (
         some false)
        else (
         Option.bind (jz 2 1) fun r_17 =>
         Option.bind (YE 2 2) fun r_18 =>
         Option.bind (jz 2 12) fun r_19 =>
         Option.bind (yZ ([[0], [1, 0]])) fun r_20 =>
         Option.bind (Jb r_20 2) fun r_21 =>
         Option.bind (vT r_21.1) fun r_22 =>
         bif r_17.2 != 0 then (
          some false)
         else (
          bif r_18.2 != 0 then (
           some false)
          else (
           bif r_19.2 != 3 then (
            some false)
           else (
            bif r_21.2 != 0 then (
             some false)
            else (
             bif r_22.2 != 0 then (
              some false)
             else (
              bif r_22.1 != 2 then (
               some false)
              else (
               Option.bind (yZ ([[], [0], [1]])) fun r_23 =>
               Option.bind (uL r_17.1 r_23) fun r_24 =>
               bif !r_24 then (
                some false)
               else (
                Option.bind (yZ ([[0, 0], [0, 1], [1, 0], [1, 1]])) fun r_25 =>
                Option.bind (uL r_18.1 r_25) fun r_26 =>
                bif !r_26 then (
                 some false)
                else (
                 Option.bind (vY r_21.1 (zb.mk 2 ([(z7.mk ([1, 2]) false), (z7.mk ([(-1), (-1)]) true), (z7.mk ([3, (-1)]) false), (z7.mk ([(-1), (-1)]) true)]))) fun r_27 =>
                 bif !r_27 then (
                  some false)
                 else (
                  Option.bind (yZ ([[1], [0]])) fun r_28 =>
                  Option.bind (xe r_28 2) fun r_29 =>
                  bif r_29 == 1 then (
                   Option.bind (yZ ([[0], [2]])) fun r_30 =>
                   Option.bind (xe r_30 2) fun r_31 =>
                   bif r_31 == 1 then (
                    Option.bind (xe [] 0) fun r_32 =>
                    bif r_32 == 1 then (
                     Option.bind (xe [] 17) fun r_33 =>
                     some (r_33 == 3))
                    else (
                     some false))
                   else (
                    some false))
                  else (
                   some false))))))))))))))))))
def qV (a_ : List Int) (b_ : List Int) : Option Bool :=
 bif decide (((a_.length : Nat) : Int) < ((b_.length : Nat) : Int)) then (
  gd ((0 : Int) ≤ 0 ∧ (0 : Int) ≤ ((a_.length : Nat) : Int) ∧ (((a_.length : Nat) : Int) : Int) ≤ ((b_.length : Nat) : Int)) <|
  Option.bind (yJ a_ ((b_.drop 0).take (((a_.length : Nat) : Int).toNat - 0))) fun r_ =>
  some (r_ == 0))
 else (
  some false)
def jW (out : List (List Int)) : Option (List (List Int)) :=
 some out
def vX (i_ : Int) (out2 : List (List Int)) : Option (LR (List (List Int) × Int) (List (List Int))) :=
 some (.next (out2, w64 (i_ + 1)))
def uV (l_ : List (List Int)) (out1 : List (List Int)) (i_ : Int) (proper : Bool) : Option (LR (List (List Int) × Int) (List (List Int))) :=
 bif !proper then (
  Option.bind (idx l_ i_) fun l__e =>
  gd (out1.length + ([l__e] : List (List Int)).length ≤ 4294967296) <|
  vX i_ (out1 ++ ([l__e] : List (List Int))))
 else (
  vX i_ out1)
def xv (l_ : List (List Int)) (i_ : Int) (proper1 : Bool) (k_ : Int) : Option (LR (Bool × Int) Bool) :=
 bif decide (k_ < ((l_.length : Nat) : Int)) then (
  bif proper1 then (
   some (.next (true, w64 (k_ + 1))))
  else (
   Option.bind (idx l_ i_) fun l__e1 =>
   Option.bind (idx l_ k_) fun l__e2 =>
   Option.bind (qV l__e1 l__e2) fun r_ =>
   some (.next (r_, w64 (k_ + 1)))))
 else (
  some (.done proper1))
def xw (l_ : List (List Int)) (out1 : List (List Int)) (i_ : Int) : Option (LR (List (List Int) × Int) (List (List Int))) :=
 bif decide (i_ < ((l_.length : Nat) : Int)) then (
  Option.bind (loop (fun s => xv l_ i_ s.1 s.2) (false, 0)) fun t5 =>
  uV l_ out1 i_ t5)
 else (
  some (.done out1))
def uJ (l_ : List (List Int)) : Option (List (List Int)) :=
 Option.bind (loop (fun s => xw l_ s.1 s.2) (([] : List (List Int)), 0)) fun t2 =>
 jW t2
def wr (t_ : zb) : Option Bool :=
 Option.bind (vj t_) fun r_ =>
 Option.bind (xF t_) fun r_1 =>
 Option.bind (vT t_) fun r_2 =>
 bif r_1.2 != r_.2 then (
  some false)
 else (
  bif r_2.2 != r_.2 then (
   some false)
  else (
   Option.bind (jB r_1.1 r_.1) fun r_3 =>
   bif !r_3 then (
    some false)
   else (
    bif r_.2 != 0 then (
     bif r_2.1 == 0 then (
      Option.bind (uz) fun r_4 =>
      some r_4)
     else (
      bif r_.2 == 0 then (
       Option.bind (uJ r_.1) fun r_5 =>
       bif r_2.1 == ((r_5.length : Nat) : Int) then (
        Option.bind (uz) fun r_6 =>
        some r_6)
       else (
        some false))
      else (
       some false)))
    else (
     bif r_.2 == 0 then (
      Option.bind (uJ r_.1) fun r_7 =>
      bif r_2.1 == ((r_7.length : Nat) : Int) then (
       Option.bind (uz) fun r_8 =>
       some r_8)
      else (
       some false))
     else (
      some false)))))
def xE (t_ : zb) (i_ : Int) : Option (LR Int (Unit ⊕ Bool)) :=
 bif decide (i_ < ((t_.Nodes.length : Nat) : Int)) then (
  Option.bind (idx t_.Nodes i_) fun Node_e =>
  bif decide (((Node_e.Next.length : Nat) : Int) > 20) then (
   some (.done (.inr true)))
  else (
   some (.next (w64 (i_ + 1)))))
 else (
  some (.done (.inl ())))
def vZ (t_ : zb) : Option Bool :=
 bif decide (((t_.Nodes.length : Nat) : Int) > 60) then (
  some true)
 else (
  Option.bind (loop (fun s => xE t_ s) 0) fun t2 =>
  match t2 with
  | .inl p => wr t_
  | .inr p => some p)
abbrev F0_ := eOs 1 true (eI .i64)
abbrev F1_ := eSl 1 true (eI .i64)
abbrev F2_ := eSl 1 false (eI .i64)
abbrev F3_ := eOs 1 false (eI .i64)
abbrev F4_ := eSl 1 true F1_
abbrev F5_ := eSl 1 false F1_
abbrev F6_ := eOs 1 true F2_
abbrev F7_ := eSl 1 false F2_
abbrev F8_ := eOs 1 false F2_
abbrev F9_ := y3 F0_ eB
abbrev KX := y3 F1_ eB
abbrev zH := y3 F2_ eB
abbrev wy := y3 F3_ eB
abbrev z95 := xi (eI .i64) F1_
abbrev u4 := xi (eI .i64) F2_
abbrev zbk := eOs 2 false F9_
abbrev z8U := eSl 2 true zH
abbrev z03 := eSl 2 false zH
abbrev zbj := eOs 2 false wy
abbrev z8T := eSp z03
abbrev z94 := xS (eI .i64) z8U
abbrev xH := xS (eI .i64) z03
abbrev z5m := yp (eI .i64) zbk
abbrev z93 := yp (eI .i64) zbj
abbrev z5l := yp (eI .i64) z03
abbrev z6Z := eBx z5m
abbrev z92 := eBx z93
def rpN {α : Type _} (n : Nat) (a : α) (l : List α) : List α := Nat.rec l (fun _ r => a :: r) n
abbrev aLn (n : Nat) : H := .a (.atom (.int .i64 ((n : Nat) : Int)))
abbrev bT : H := .b true
abbrev bF : H := .b false
abbrev oT : Ob := ob (Eq.refl true)
abbrev oF : Ob := ob (Eq.refl false)
end Go.Own

namespace Go.Proofs
open Go.Shelf
def Try.so77_ren : Go.Shelf.Ren := ⟨fun | 6 => 77 | 15 => 90 | 14 => 89 | 28 => 104 | 29 => 105 | 20 => 96 | 21 => 97 | 22 => 98 | 23 => 99 | 24 => 100 | 25 => 101 | 26 => 102 | 27 => 103 | 46 => 107 | 47 => 108 | 48 => 109 | 49 => 110 | 50 => 111 | 57 => 112 | n => n, fun | 22 => 22 | 24 => 52 | 25 => 82 | 3 => 3 | 39 => 111 | 0 => 0 | 53 => 123 | 55 => 125 | 4 => 4 | 46 => 117 | 45 => 116 | 50 => 106 | 5 => 5 | 9 => 9 | 66 => 126 | 70 => 130 | 76 => 132 | 77 => 133 | n => n, fun | n => n⟩
theorem Try.so77 : Go.Proofs.SlLaysF0.n6 Try.prog Try.so77_ren := {
 mixed := by kernel_rfl
 f6 := ⟨Try.f77.name, by decide, Try.func77.trans (congrArg some (by kernel_rfl))⟩
 f14 := ⟨Try.f89.name, by decide, Try.func89.trans (congrArg some (by kernel_rfl))⟩
 f15 := Try.func90.trans (congrArg some (by kernel_rfl))
 f20 := ⟨Try.f96.name, by decide, Try.func96.trans (congrArg some (by kernel_rfl))⟩
 f21 := ⟨Try.f97.name, by decide, Try.func97.trans (congrArg some (by kernel_rfl))⟩
 f22 := ⟨Try.f98.name, by decide, Try.func98.trans (congrArg some (by kernel_rfl))⟩
 f23 := ⟨Try.f99.name, by decide, Try.func99.trans (congrArg some (by kernel_rfl))⟩
 f24 := ⟨Try.f100.name, by decide, Try.func100.trans (congrArg some (by kernel_rfl))⟩
 f25 := ⟨Try.f101.name, by decide, Try.func101.trans (congrArg some (by kernel_rfl))⟩
 f26 := ⟨Try.f102.name, by decide, Try.func102.trans (congrArg some (by kernel_rfl))⟩
 f27 := ⟨Try.f103.name, by decide, Try.func103.trans (congrArg some (by kernel_rfl))⟩
 f28 := Try.func104.trans (congrArg some (by kernel_rfl))
 f29 := Try.func105.trans (congrArg some (by kernel_rfl))
 f46 := ⟨Try.f107.name, by decide, Try.func107.trans (congrArg some (by kernel_rfl))⟩
 f47 := Try.func108.trans (congrArg some (by kernel_rfl))
 f48 := Try.func109.trans (congrArg some (by kernel_rfl))
 f49 := ⟨Try.f110.name, by decide, Try.func110.trans (congrArg some (by kernel_rfl))⟩
 f50 := ⟨Try.f111.name, by decide, Try.func111.trans (congrArg some (by kernel_rfl))⟩
 f57 := ⟨Try.f112.name, by decide, Try.func112.trans (congrArg some (by kernel_rfl))⟩
 t0 := Try.underlying0
 a0 := Try.isAgg0
 z0 := Try.sizeOf0
 v0 := Try.zeroValue0
 t3 := Try.underlying3
 a3 := Try.isAgg3
 z3 := Try.sizeOf3
 v3 := Try.zeroValue3
 t4 := Try.underlying4
 a4 := Try.isAgg4
 z4 := Try.sizeOf4
 v4 := Try.zeroValue4
 t5 := Try.underlying5
 a5 := Try.isAgg5
 z5 := Try.sizeOf5
 v5 := Try.zeroValue5
 t9 := Try.underlying9
 a9 := Try.isAgg9
 z9 := Try.sizeOf9
 v9 := Try.zeroValue9
 t22 := Try.underlying22
 a22 := Try.isAgg22
 z22 := Try.sizeOf22
 v22 := Try.zeroValue22
 t25 := Try.underlying82
 a25 := Try.isAgg82
 z25 := Try.sizeOf82
 v25 := Try.zeroValue82
 t39 := Try.underlying111
 a39 := Try.isAgg111
 z39 := Try.sizeOf111
 v39 := Try.zeroValue111
 t45 := Try.underlying116
 a45 := Try.isAgg116
 z45 := Try.sizeOf116
 v45 := Try.zeroValue116
 t46 := Try.underlying117
 a46 := Try.isAgg117
 z46 := Try.sizeOf117
 v46 := Try.zeroValue117
 t50 := Try.underlying106
 a50 := Try.isAgg106
 z50 := Try.sizeOf106
 v50 := Try.zeroValue106
 t53 := Try.underlying123
 a53 := Try.isAgg123
 z53 := Try.sizeOf123
 v53 := Try.zeroValue123
 t55 := Try.underlying125
 a55 := Try.isAgg125
 z55 := Try.sizeOf125
 v55 := Try.zeroValue125
 t66 := Try.underlying126
 a66 := Try.isAgg126
 z66 := Try.sizeOf126
 v66 := Try.zeroValue126
 t70 := Try.underlying130
 a70 := Try.isAgg130
 z70 := Try.sizeOf130
 v70 := Try.zeroValue130
 t76 := Try.underlying132
 a76 := Try.isAgg132
 z76 := Try.sizeOf132
 v76 := Try.zeroValue132
 t77 := Try.underlying133
 a77 := Try.isAgg133
 z77 := Try.sizeOf133
 v77 := Try.zeroValue133 }
end Go.Proofs
