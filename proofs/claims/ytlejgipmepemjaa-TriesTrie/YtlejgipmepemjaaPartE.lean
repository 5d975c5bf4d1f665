/- -/
import Derived.Test.YtlejgipmepemjaaPartB
import Derived.Test.YtlejgipmepemjaaProg
import Derived.Test.YtlejgipmepemjaaPartC
import Derived.Test.YtlejgipmepemjaaPartD
import Derived.Shelf.SlSortCmp.NoneTotal
import Derived.Ground.SlsfProg
set_option linter.unusedVariables false
set_option linter.unusedSimpArgs false
namespace Go.Own
open Go.Proofs
theorem conc_atom {S : Still} {h : Array Obj} {v : Value} (hv : v.oneCell' = true) : Conc S h (.atom v) [v] [] := by simp only [Conc, Rep]; exact ⟨⟨trivial, hv⟩, trivial⟩
theorem conc_nil {S : Still} {h : Array Obj} (sz : Nat) : Conc S h (.osl sz true []) [.slice none 0 0] [] := by
 simp only [Conc]
 exact ⟨none, 0, rfl, (fun _ => rfl), Nat.le_refl _, Nat.zero_le _, by simp, .inl ⟨trivial, rfl, rfl, trivial⟩⟩
theorem conc_agg {S : Still} {h : Array Obj} {fs : List A} {cs : List Value} (q : Concs S h fs cs []) : Conc S h (.agg fs) cs [] := by simpa only [Conc] using q
theorem concs_nil {S : Still} {h : Array Obj} : Concs S h [] [] [] := by simp [Concs]
theorem concs_app {S : Still} {h : Array Obj} {a : A} {fs : List A} {c1 c2 : List Value} (q1 : Conc S h a c1 []) (q2 : Concs S h fs c2 []) : Concs S h (a :: fs) (c1 ++ c2) [] := by simp only [Concs]; exact ⟨c1, c2, [], [], rfl, rfl, q1, q2⟩
def ti1 : TI := ⟨.other, 1, 8, some (.atom .nilFunc), false⟩
theorem ti1_ok : TIok Try.prog 1 ti1 := ⟨⟨Try.t1, by kernel_rfl, rfl, rfl, fun z h => by cases h; exact ⟨_, rfl, rfl, fun S h => conc_atom rfl⟩⟩, ⟨_, Try.underlying1, rfl⟩, by intro h; cases h⟩
def ti2 : TI := ⟨.int .i64, 1, 8, some (.atom (.int .i64 0)), false⟩
theorem ti2_ok : TIok Try.prog 2 ti2 := ⟨⟨Try.t2, by kernel_rfl, rfl, rfl, fun z h => by cases h; exact ⟨_, rfl, rfl, fun S h => conc_atom rfl⟩⟩, Try.underlying2, by intro h; cases h⟩
def ti3 : TI := ⟨.int .i64, 1, 8, some (.atom (.int .i64 0)), false⟩
theorem ti3_ok : TIok Try.prog 3 ti3 := ⟨⟨Try.t3, by kernel_rfl, rfl, rfl, fun z h => by cases h; exact ⟨_, rfl, rfl, fun S h => conc_atom rfl⟩⟩, Try.underlying3, by intro h; cases h⟩
def ti4 : TI := ⟨.bool, 1, 1, some (.atom (.bool false)), false⟩
theorem ti4_ok : TIok Try.prog 4 ti4 := ⟨⟨Try.t4, by kernel_rfl, rfl, rfl, fun z h => by cases h; exact ⟨_, rfl, rfl, fun S h => conc_atom rfl⟩⟩, Try.underlying4, by intro h; cases h⟩
def ti5 : TI := ⟨.int .u8, 1, 1, some (.atom (.int .u8 0)), false⟩
theorem ti5_ok : TIok Try.prog 5 ti5 := ⟨⟨Try.t5, by kernel_rfl, rfl, rfl, fun z h => by cases h; exact ⟨_, rfl, rfl, fun S h => conc_atom rfl⟩⟩, Try.underlying5, by intro h; cases h⟩
def ti9 : TI := ⟨.str, 1, 16, none, false⟩
theorem ti9_ok : TIok Try.prog 9 ti9 := ⟨⟨Try.t9, by kernel_rfl, rfl, rfl, fun z h => by cases h⟩, Try.underlying9, by intro h; cases h⟩
def ti22 : TI := ⟨.slice 52, 1, 24, some (.osl 1 true []), false⟩
theorem ti22_ok : TIok Try.prog 22 ti22 := ⟨⟨Try.t22, by kernel_rfl, rfl, rfl, fun z h => by cases h; exact ⟨_, rfl, rfl, fun S h => conc_nil _⟩⟩, Try.underlying22, by intro h; cases h⟩
def ti25 : TI := ⟨.int .i64, 1, 8, some (.atom (.int .i64 0)), false⟩
theorem ti25_ok : TIok Try.prog 25 ti25 := ⟨⟨Try.t25, by kernel_rfl, rfl, rfl, fun z h => by cases h; exact ⟨_, rfl, rfl, fun S h => conc_atom rfl⟩⟩, Try.underlying25, by intro h; cases h⟩
def ti33 : TI := ⟨.slice 98, 1, 24, some (.osl 1 true []), false⟩
theorem ti33_ok : TIok Try.prog 33 ti33 := ⟨⟨Try.t33, by kernel_rfl, rfl, rfl, fun z h => by cases h; exact ⟨_, rfl, rfl, fun S h => conc_nil _⟩⟩, Try.underlying33, by intro h; cases h⟩
def ti35 : TI := ⟨.struct [(0, 1), (1, 1)], 2, 32, some (.agg [.atom (.int .u8 0), .osl 1 true []]), false⟩
theorem ti35_ok : TIok Try.prog 35 ti35 := ⟨⟨Try.t35, by kernel_rfl, rfl, rfl, fun z h => by cases h; exact ⟨_, rfl, rfl, fun S h => conc_agg (concs_app (conc_atom rfl) (concs_app (conc_nil _) (concs_nil)))⟩⟩, ⟨_, Try.underlying35, by kernel_rfl, by
  intro f hf
  simp only [List.mem_cons, List.not_mem_nil, or_false] at hf
  rcases hf with rfl | rfl
  ·exact ⟨Try.t5, by kernel_rfl⟩
  ·exact ⟨Try.t33, by kernel_rfl⟩⟩, by intro h; cases h⟩
def ti42 : TI := ⟨.slice 54, 1, 24, some (.osl 2 true []), false⟩
theorem ti42_ok : TIok Try.prog 42 ti42 := ⟨⟨Try.t42, by kernel_rfl, rfl, rfl, fun z h => by cases h; exact ⟨_, rfl, rfl, fun S h => conc_nil _⟩⟩, Try.underlying42, by intro h; cases h⟩
def ti44 : TI := ⟨.struct [(0, 1), (1, 1)], 2, 32, some (.agg [.atom (.int .i64 0), .osl 2 true []]), false⟩
theorem ti44_ok : TIok Try.prog 44 ti44 := ⟨⟨Try.t44, by kernel_rfl, rfl, rfl, fun z h => by cases h; exact ⟨_, rfl, rfl, fun S h => conc_agg (concs_app (conc_atom rfl) (concs_app (conc_nil _) (concs_nil)))⟩⟩, ⟨_, Try.underlying44, by kernel_rfl, by
  intro f hf
  simp only [List.mem_cons, List.not_mem_nil, or_false] at hf
  rcases hf with rfl | rfl
  ·exact ⟨Try.t3, by kernel_rfl⟩
  ·exact ⟨Try.t42, by kernel_rfl⟩⟩, by intro h; cases h⟩
def ti52 : TI := ⟨.slice 3, 1, 24, some (.osl 1 true []), false⟩
theorem ti52_ok : TIok Try.prog 52 ti52 := ⟨⟨Try.t52, by kernel_rfl, rfl, rfl, fun z h => by cases h; exact ⟨_, rfl, rfl, fun S h => conc_nil _⟩⟩, Try.underlying52, by intro h; cases h⟩
def ti54 : TI := ⟨.struct [(0, 1), (1, 1)], 2, 32, some (.agg [.osl 1 true [], .atom (.bool false)]), false⟩
theorem ti54_ok : TIok Try.prog 54 ti54 := ⟨⟨Try.t54, by kernel_rfl, rfl, rfl, fun z h => by cases h; exact ⟨_, rfl, rfl, fun S h => conc_agg (concs_app (conc_nil _) (concs_app (conc_atom rfl) (concs_nil)))⟩⟩, ⟨_, Try.underlying54, by kernel_rfl, by
  intro f hf
  simp only [List.mem_cons, List.not_mem_nil, or_false] at hf
  rcases hf with rfl | rfl
  ·exact ⟨Try.t52, by kernel_rfl⟩
  ·exact ⟨Try.t4, by kernel_rfl⟩⟩, by intro h; cases h⟩
def ti75 : TI := ⟨.struct [(0, 1), (1, 1)], 2, 32, some (.agg [.atom (.int .i64 0), .osl 2 true []]), false⟩
theorem ti75_ok : TIok Try.prog 75 ti75 := ⟨⟨Try.t75, by kernel_rfl, rfl, rfl, fun z h => by cases h; exact ⟨_, rfl, rfl, fun S h => conc_agg (concs_app (conc_atom rfl) (concs_app (conc_nil _) (concs_nil)))⟩⟩, ⟨_, Try.underlying75, by kernel_rfl, by
  intro f hf
  simp only [List.mem_cons, List.not_mem_nil, or_false] at hf
  rcases hf with rfl | rfl
  ·exact ⟨Try.t3, by kernel_rfl⟩
  ·exact ⟨Try.t42, by kernel_rfl⟩⟩, by intro h; cases h⟩
def ti76 : TI := ⟨.ptr 75, 1, 8, some (.atom (.pointer none)), false⟩
theorem ti76_ok : TIok Try.prog 76 ti76 := ⟨⟨Try.t76, by kernel_rfl, rfl, rfl, fun z h => by cases h; exact ⟨_, rfl, rfl, fun S h => conc_atom rfl⟩⟩, Try.underlying76, by intro h; cases h⟩
def ti78 : TI := ⟨.other, 1, 8, some (.atom .nilFunc), false⟩
theorem ti78_ok : TIok Try.prog 78 ti78 := ⟨⟨Try.t78, by kernel_rfl, rfl, rfl, fun z h => by cases h; exact ⟨_, rfl, rfl, fun S h => conc_atom rfl⟩⟩, ⟨_, Try.underlying78, rfl⟩, by intro h; cases h⟩
def ti79 : TI := ⟨.other, 1, 8, some (.atom .nilFunc), false⟩
theorem ti79_ok : TIok Try.prog 79 ti79 := ⟨⟨Try.t79, by kernel_rfl, rfl, rfl, fun z h => by cases h; exact ⟨_, rfl, rfl, fun S h => conc_atom rfl⟩⟩, ⟨_, Try.underlying79, rfl⟩, by intro h; cases h⟩
def ti83 : TI := ⟨.other, 1, 8, some (.atom .nilFunc), false⟩
theorem ti83_ok : TIok Try.prog 83 ti83 := ⟨⟨Try.t83, by kernel_rfl, rfl, rfl, fun z h => by cases h; exact ⟨_, rfl, rfl, fun S h => conc_atom rfl⟩⟩, ⟨_, Try.underlying83, rfl⟩, by intro h; cases h⟩
def ti84 : TI := ⟨.other, 1, 8, some (.atom .nilFunc), false⟩
theorem ti84_ok : TIok Try.prog 84 ti84 := ⟨⟨Try.t84, by kernel_rfl, rfl, rfl, fun z h => by cases h; exact ⟨_, rfl, rfl, fun S h => conc_atom rfl⟩⟩, ⟨_, Try.underlying84, rfl⟩, by intro h; cases h⟩
def ti85 : TI := ⟨.other, 1, 8, some (.atom .nilFunc), false⟩
theorem ti85_ok : TIok Try.prog 85 ti85 := ⟨⟨Try.t85, by kernel_rfl, rfl, rfl, fun z h => by cases h; exact ⟨_, rfl, rfl, fun S h => conc_atom rfl⟩⟩, ⟨_, Try.underlying85, rfl⟩, by intro h; cases h⟩
def ti86 : TI := ⟨.struct [(0, 1), (1, 1)], 2, 32, some (.agg [.atom (.int .i64 0), .osl 1 true []]), false⟩
theorem ti86_ok : TIok Try.prog 86 ti86 := ⟨⟨Try.t86, by kernel_rfl, rfl, rfl, fun z h => by cases h; exact ⟨_, rfl, rfl, fun S h => conc_agg (concs_app (conc_atom rfl) (concs_app (conc_nil _) (concs_nil)))⟩⟩, ⟨_, Try.underlying86, by kernel_rfl, by
  intro f hf
  simp only [List.mem_cons, List.not_mem_nil, or_false] at hf
  rcases hf with rfl | rfl
  ·exact ⟨Try.t3, by kernel_rfl⟩
  ·exact ⟨Try.t52, by kernel_rfl⟩⟩, by intro h; cases h⟩
def ti87 : TI := ⟨.struct [(0, 1), (1, 1)], 2, 32, some (.agg [.atom (.int .i64 0), .osl 1 true []]), false⟩
theorem ti87_ok : TIok Try.prog 87 ti87 := ⟨⟨Try.t87, by kernel_rfl, rfl, rfl, fun z h => by cases h; exact ⟨_, rfl, rfl, fun S h => conc_agg (concs_app (conc_atom rfl) (concs_app (conc_nil _) (concs_nil)))⟩⟩, ⟨_, Try.underlying87, by kernel_rfl, by
  intro f hf
  simp only [List.mem_cons, List.not_mem_nil, or_false] at hf
  rcases hf with rfl | rfl
  ·exact ⟨Try.t3, by kernel_rfl⟩
  ·exact ⟨Try.t52, by kernel_rfl⟩⟩, by intro h; cases h⟩
def ti89 : TI := ⟨.slice 4, 1, 24, some (.osl 1 true []), false⟩
theorem ti89_ok : TIok Try.prog 89 ti89 := ⟨⟨Try.t89, by kernel_rfl, rfl, rfl, fun z h => by cases h; exact ⟨_, rfl, rfl, fun S h => conc_nil _⟩⟩, Try.underlying89, by intro h; cases h⟩
def ti91 : TI := ⟨.other, 1, 8, none, false⟩
theorem ti91_ok : TIok Try.prog 91 ti91 := ⟨⟨Try.t91, by kernel_rfl, rfl, rfl, fun z h => by cases h⟩, ⟨_, Try.underlying91, rfl⟩, by intro h; cases h⟩
def ti98 : TI := ⟨.slice 5, 1, 24, some (.osl 1 true []), false⟩
theorem ti98_ok : TIok Try.prog 98 ti98 := ⟨⟨Try.t98, by kernel_rfl, rfl, rfl, fun z h => by cases h; exact ⟨_, rfl, rfl, fun S h => conc_nil _⟩⟩, Try.underlying98, by intro h; cases h⟩
def ti101 : TI := ⟨.other, 1, 8, some (.atom .nilFunc), false⟩
theorem ti101_ok : TIok Try.prog 101 ti101 := ⟨⟨Try.t101, by kernel_rfl, rfl, rfl, fun z h => by cases h; exact ⟨_, rfl, rfl, fun S h => conc_atom rfl⟩⟩, ⟨_, Try.underlying101, rfl⟩, by intro h; cases h⟩
def ti103 : TI := ⟨.other, 1, 8, some (.atom .nilFunc), false⟩
theorem ti103_ok : TIok Try.prog 103 ti103 := ⟨⟨Try.t103, by kernel_rfl, rfl, rfl, fun z h => by cases h; exact ⟨_, rfl, rfl, fun S h => conc_atom rfl⟩⟩, ⟨_, Try.underlying103, rfl⟩, by intro h; cases h⟩
def ti104 : TI := ⟨.slice 87, 1, 24, some (.osl 2 true []), false⟩
theorem ti104_ok : TIok Try.prog 104 ti104 := ⟨⟨Try.t104, by kernel_rfl, rfl, rfl, fun z h => by cases h; exact ⟨_, rfl, rfl, fun S h => conc_nil _⟩⟩, Try.underlying104, by intro h; cases h⟩
def ti105 : TI := ⟨.slice 22, 1, 24, some (.osl 1 true []), false⟩
theorem ti105_ok : TIok Try.prog 105 ti105 := ⟨⟨Try.t105, by kernel_rfl, rfl, rfl, fun z h => by cases h; exact ⟨_, rfl, rfl, fun S h => conc_nil _⟩⟩, Try.underlying105, by intro h; cases h⟩
def tiL : List (Nat × TI) := [(1, ti1), (2, ti2), (3, ti3), (4, ti4), (5, ti5), (9, ti9), (22, ti22), (25, ti25), (33, ti33), (35, ti35), (42, ti42), (44, ti44), (52, ti52), (54, ti54), (75, ti75), (76, ti76), (78, ti78), (79, ti79), (83, ti83), (84, ti84), (85, ti85), (86, ti86), (87, ti87), (89, ti89), (91, ti91), (98, ti98), (101, ti101), (103, ti103), (104, ti104), (105, ti105)]
def TTab : TT := fun t => (tiL.find? fun p => p.1 == t).map (·.2)
def AllOk (P : Program) : List (Nat × TI) → Prop
 | [] => True
 | p :: l => TIok P p.1 p.2 ∧ AllOk P l
theorem AllOk.mem {P : Program} : ∀ {l : List (Nat × TI)}, AllOk P l → ∀ p ∈ l, TIok P p.1 p.2
 | p :: _, h, q, hq => by
  rcases List.mem_cons.1 hq with rfl | hq
  ·exact h.1
  ·exact AllOk.mem h.2 q hq
 | [], _, _, hq => by cases hq
theorem tiL_ok : AllOk Try.prog tiL := ⟨ti1_ok, ti2_ok, ti3_ok, ti4_ok, ti5_ok, ti9_ok, ti22_ok, ti25_ok, ti33_ok, ti35_ok, ti42_ok, ti44_ok, ti52_ok, ti54_ok, ti75_ok, ti76_ok, ti78_ok, ti79_ok, ti83_ok, ti84_ok, ti85_ok, ti86_ok, ti87_ok, ti89_ok, ti91_ok, ti98_ok, ti101_ok, ti103_ok, ti104_ok, ti105_ok, trivial⟩
theorem TTab_ok : TTok Try.prog TTab := by
 intro t i h
 unfold TTab at h
 rw [Option.map_eq_some_iff] at h
 obtain ⟨p, h1, rfl⟩ := h
 have h2 := List.find?_some h1
 have h3 := tiL_ok.mem p (List.mem_of_find?_eq_some h1)
 rw [beq_iff_eq.1 h2] at h3
 exact h3
theorem TT_1 : TTab 1 = some ⟨.other, 1, 8, some (.atom .nilFunc), false⟩ := rfl
theorem TT_2 : TTab 2 = some ⟨.int .i64, 1, 8, some (.atom (.int .i64 0)), false⟩ := rfl
theorem TT_3 : TTab 3 = some ⟨.int .i64, 1, 8, some (.atom (.int .i64 0)), false⟩ := rfl
theorem TT_4 : TTab 4 = some ⟨.bool, 1, 1, some (.atom (.bool false)), false⟩ := rfl
theorem TT_5 : TTab 5 = some ⟨.int .u8, 1, 1, some (.atom (.int .u8 0)), false⟩ := rfl
theorem TT_9 : TTab 9 = some ⟨.str, 1, 16, none, false⟩ := rfl
theorem TT_22 : TTab 22 = some ⟨.slice 52, 1, 24, some (.osl 1 true []), false⟩ := rfl
theorem TT_25 : TTab 25 = some ⟨.int .i64, 1, 8, some (.atom (.int .i64 0)), false⟩ := rfl
theorem TT_33 : TTab 33 = some ⟨.slice 98, 1, 24, some (.osl 1 true []), false⟩ := rfl
theorem TT_35 : TTab 35 = some ⟨.struct [(0, 1), (1, 1)], 2, 32, some (.agg [.atom (.int .u8 0), .osl 1 true []]), false⟩ := rfl
theorem TT_42 : TTab 42 = some ⟨.slice 54, 1, 24, some (.osl 2 true []), false⟩ := rfl
theorem TT_44 : TTab 44 = some ⟨.struct [(0, 1), (1, 1)], 2, 32, some (.agg [.atom (.int .i64 0), .osl 2 true []]), false⟩ := rfl
theorem TT_52 : TTab 52 = some ⟨.slice 3, 1, 24, some (.osl 1 true []), false⟩ := rfl
theorem TT_54 : TTab 54 = some ⟨.struct [(0, 1), (1, 1)], 2, 32, some (.agg [.osl 1 true [], .atom (.bool false)]), false⟩ := rfl
theorem TT_75 : TTab 75 = some ⟨.struct [(0, 1), (1, 1)], 2, 32, some (.agg [.atom (.int .i64 0), .osl 2 true []]), false⟩ := rfl
theorem TT_76 : TTab 76 = some ⟨.ptr 75, 1, 8, some (.atom (.pointer none)), false⟩ := rfl
theorem TT_78 : TTab 78 = some ⟨.other, 1, 8, some (.atom .nilFunc), false⟩ := rfl
theorem TT_79 : TTab 79 = some ⟨.other, 1, 8, some (.atom .nilFunc), false⟩ := rfl
theorem TT_83 : TTab 83 = some ⟨.other, 1, 8, some (.atom .nilFunc), false⟩ := rfl
theorem TT_84 : TTab 84 = some ⟨.other, 1, 8, some (.atom .nilFunc), false⟩ := rfl
theorem TT_85 : TTab 85 = some ⟨.other, 1, 8, some (.atom .nilFunc), false⟩ := rfl
theorem TT_86 : TTab 86 = some ⟨.struct [(0, 1), (1, 1)], 2, 32, some (.agg [.atom (.int .i64 0), .osl 1 true []]), false⟩ := rfl
theorem TT_87 : TTab 87 = some ⟨.struct [(0, 1), (1, 1)], 2, 32, some (.agg [.atom (.int .i64 0), .osl 1 true []]), false⟩ := rfl
theorem TT_89 : TTab 89 = some ⟨.slice 4, 1, 24, some (.osl 1 true []), false⟩ := rfl
theorem TT_91 : TTab 91 = some ⟨.other, 1, 8, none, false⟩ := rfl
theorem TT_98 : TTab 98 = some ⟨.slice 5, 1, 24, some (.osl 1 true []), false⟩ := rfl
theorem TT_101 : TTab 101 = some ⟨.other, 1, 8, some (.atom .nilFunc), false⟩ := rfl
theorem TT_103 : TTab 103 = some ⟨.other, 1, 8, some (.atom .nilFunc), false⟩ := rfl
theorem TT_104 : TTab 104 = some ⟨.slice 87, 1, 24, some (.osl 2 true []), false⟩ := rfl
theorem TT_105 : TTab 105 = some ⟨.slice 22, 1, 24, some (.osl 1 true []), false⟩ := rfl
attribute [go_sem] TT_1 TT_2 TT_3 TT_4 TT_5 TT_9 TT_22 TT_25 TT_33 TT_35 TT_42 TT_44 TT_52 TT_54 TT_75 TT_76 TT_78 TT_79 TT_83 TT_84 TT_85 TT_86 TT_87 TT_89 TT_91 TT_98 TT_101 TT_103 TT_104 TT_105
end Go.Own

namespace Go.Own
set_option linter.unusedVariables false
structure S_law12_L where
 Inputs : Int
 Words : List (List Int)
def e_law12_L (f0 : Int → A) (f1 : List (List Int) → A) (x : S_law12_L) : A := .agg [f0 x.Inputs, f1 x.Words]
instance (f0 : Int → A) (f1 : List (List Int) → A) (g0 : Int → A) (g1 : List (List Int) → A) [h0 : EncL f0 g0] [h1 : EncL f1 g1] : EncL (e_law12_L f0 f1) (e_law12_L g0 g1) := ⟨fun x => by simp [e_law12_L, A.loose, A.looses, h0.lo, h1.lo]⟩
instance (f0 : Int → A) (f1 : List (List Int) → A) [h0 : EncI f0] [h1 : EncI f1] : EncI (e_law12_L f0 f1) := ⟨fun x y h => by
 simp only [e_law12_L, A.agg.injEq, List.cons.injEq, and_true] at h
 cases x; cases y
 simp only [S_law12_L.mk.injEq]
 exact ⟨h0.inj _ _ h.1, h1.inj _ _ h.2⟩⟩
structure S_tries_Node where
 Next : List Int
 End : Bool
def e_tries_Node (f0 : List Int → A) (f1 : Bool → A) (x : S_tries_Node) : A := .agg [f0 x.Next, f1 x.End]
instance (f0 : List Int → A) (f1 : Bool → A) [h : EncO f0] : EncO (e_tries_Node f0 f1) := ⟨fun x => by simp [e_tries_Node, A.isD, A.areD, h.no]⟩
instance (f0 : List Int → A) (f1 : Bool → A) (g0 : List Int → A) (g1 : Bool → A) [h0 : EncL f0 g0] [h1 : EncL f1 g1] : EncL (e_tries_Node f0 f1) (e_tries_Node g0 g1) := ⟨fun x => by simp [e_tries_Node, A.loose, A.looses, h0.lo, h1.lo]⟩
instance (f0 : List Int → A) (f1 : Bool → A) (g0 : List Int → A) (g1 : Bool → A) [h0 : EncS f0 g0] [h1 : EncS f1 g1] : EncS (e_tries_Node f0 f1) (e_tries_Node g0 g1) := ⟨fun x => by simp [e_tries_Node, A.live, A.lives, h0.live, h1.live], fun x => by simp [e_tries_Node, A.shut, A.shuts, h0.sh, h1.sh]⟩
instance (f0 : List Int → A) (f1 : Bool → A) [h0 : EncI f0] [h1 : EncI f1] : EncI (e_tries_Node f0 f1) := ⟨fun x y h => by
 simp only [e_tries_Node, A.agg.injEq, List.cons.injEq, and_true] at h
 cases x; cases y
 simp only [S_tries_Node.mk.injEq]
 exact ⟨h0.inj _ _ h.1, h1.inj _ _ h.2⟩⟩
structure S_tries_builder where
 inputs_ : Int
 nodes_ : List S_tries_Node
def e_tries_builder (f0 : Int → A) (f1 : List S_tries_Node → A) (x : S_tries_builder) : A := .agg [f0 x.inputs_, f1 x.nodes_]
instance (f0 : Int → A) (f1 : List S_tries_Node → A) (g0 : Int → A) (g1 : List S_tries_Node → A) [h0 : EncL f0 g0] [h1 : EncL f1 g1] : EncL (e_tries_builder f0 f1) (e_tries_builder g0 g1) := ⟨fun x => by simp [e_tries_builder, A.loose, A.looses, h0.lo, h1.lo]⟩
instance (f0 : Int → A) (f1 : List S_tries_Node → A) (g0 : Int → A) (g1 : List S_tries_Node → A) [h0 : EncS f0 g0] [h1 : EncS f1 g1] : EncS (e_tries_builder f0 f1) (e_tries_builder g0 g1) := ⟨fun x => by simp [e_tries_builder, A.live, A.lives, h0.live, h1.live], fun x => by simp [e_tries_builder, A.shut, A.shuts, h0.sh, h1.sh]⟩
instance (f0 : Int → A) (f1 : List S_tries_Node → A) [h0 : EncI f0] [h1 : EncI f1] : EncI (e_tries_builder f0 f1) := ⟨fun x y h => by
 simp only [e_tries_builder, A.agg.injEq, List.cons.injEq, and_true] at h
 cases x; cases y
 simp only [S_tries_builder.mk.injEq]
 exact ⟨h0.inj _ _ h.1, h1.inj _ _ h.2⟩⟩
structure S_tries_place where
 at_ : Int
 w_ : List Int
def e_tries_place (f0 : Int → A) (f1 : List Int → A) (x : S_tries_place) : A := .agg [f0 x.at_, f1 x.w_]
instance (f0 : Int → A) (f1 : List Int → A) [h0 : EncD f0] [h1 : EncD f1] : EncD (e_tries_place f0 f1) := ⟨fun x => by simp [e_tries_place, A.isD, A.areD, h0.isD, h1.isD]⟩
instance (f0 : Int → A) (f1 : List Int → A) (g0 : Int → A) (g1 : List Int → A) (x : S_tries_place) [∀ y, LeA (f0 y) (g0 y)] [∀ y, LeA (f1 y) (g1 y)] [∀ y, SzA (f0 y) (g0 y)] [∀ y, SzA (f1 y) (g1 y)] : LeA (e_tries_place f0 f1 x) (e_tries_place g0 g1 x) := by unfold e_tries_place; infer_instance
instance (f0 : Int → A) (f1 : List Int → A) (g0 : Int → A) (g1 : List Int → A) (x y : S_tries_place) [∀ y z, SzA (f0 y) (g0 z)] [∀ y z, SzA (f1 y) (g1 z)] : SzA (e_tries_place f0 f1 x) (e_tries_place g0 g1 y) := by unfold e_tries_place; infer_instance
structure S_tries_Trie where
 Inputs : Int
 Nodes : List S_tries_Node
def e_tries_Trie (f0 : Int → A) (f1 : List S_tries_Node → A) (x : S_tries_Trie) : A := .agg [f0 x.Inputs, f1 x.Nodes]
instance (f0 : Int → A) (f1 : List S_tries_Node → A) (g0 : Int → A) (g1 : List S_tries_Node → A) [h0 : EncL f0 g0] [h1 : EncL f1 g1] : EncL (e_tries_Trie f0 f1) (e_tries_Trie g0 g1) := ⟨fun x => by simp [e_tries_Trie, A.loose, A.looses, h0.lo, h1.lo]⟩
instance (f0 : Int → A) (f1 : List S_tries_Node → A) [h0 : EncI f0] [h1 : EncI f1] : EncI (e_tries_Trie f0 f1) := ⟨fun x y h => by
 simp only [e_tries_Trie, A.agg.injEq, List.cons.injEq, and_true] at h
 cases x; cases y
 simp only [S_tries_Trie.mk.injEq]
 exact ⟨h0.inj _ _ h.1, h1.inj _ _ h.2⟩⟩
def law12_L_Alphabet (x_ : S_law12_L) : Option Int :=
 gd ((3 : Int) ≠ 0) <|
 some (w64 (1 + (w64 (Int.tmod x_.Inputs 3))))
def law12_L_Raw_J1 (out : List (List Int)) : Option (List (List Int)) :=
 some out
def law12_L_Raw_J3 (i_ : Int) (out2 : List (List Int)) : Option (LR (List (List Int) × Int) (List (List Int))) :=
 some (.next (out2, w64 (i_ + 1)))
def law12_L_Raw_J4 (out1 : List (List Int)) (i_ : Int) (w_ : List Int) : Option (LR (List (List Int) × Int) (List (List Int))) :=
 gd (out1.length + ([w_] : List (List Int)).length ≤ 4294967296) <|
 law12_L_Raw_J3 i_ (out1 ++ ([w_] : List (List Int)))
def law12_L_Raw_L5 (x_ : S_law12_L) (i_ : Int) (w_1 : List Int) (k_ : Int) : Option (LR (List Int × Int) (List Int)) :=
 Option.bind (idx x_.Words i_) fun Word_e =>
 bif decide (k_ < ((Word_e.length : Nat) : Int)) then (
  bif decide (k_ < 12) then (
   Option.bind (idx x_.Words i_) fun Word_e1 =>
   Option.bind (idx Word_e1 k_) fun Word_e_e =>
   Option.bind (law12_L_Alphabet x_) fun r_ =>
   gd ((r_ : Int) ≠ 0) <|
   gd (w_1.length + ([Int.tmod (w64 (Word_e_e)) r_] : List Int).length ≤ 4294967296) <|
   some (.next ((w_1 ++ ([Int.tmod (w64 (Word_e_e)) r_] : List Int)), w64 (k_ + 1))))
  else (
   some (.done w_1)))
 else (
  some (.done w_1))
def law12_L_Raw_L2 (x_ : S_law12_L) (out1 : List (List Int)) (i_ : Int) : Option (LR (List (List Int) × Int) (List (List Int))) :=
 bif decide (i_ < ((x_.Words.length : Nat) : Int)) then (
  bif decide (i_ < 40) then (
   Option.bind (loop (fun s => law12_L_Raw_L5 x_ i_ s.1 s.2) (([] : List Int), 0)) fun t5 =>
   law12_L_Raw_J4 out1 i_ t5)
  else (
   some (.done out1)))
 else (
  some (.done out1))
def law12_L_Raw (x_ : S_law12_L) : Option (List (List Int)) :=
 Option.bind (loop (fun s => law12_L_Raw_L2 x_ s.1 s.2) (([] : List (List Int)), 0)) fun t2 =>
 law12_L_Raw_J1 t2
def ref12_compare_J1 : Option Int :=
 some 0
def ref12_compare_L2 (a_ : List Int) (b_ : List Int) (i_ : Int) : Option (LR Int (Unit ⊕ Int)) :=
 bif decide (i_ < ((a_.length : Nat) : Int)) then (
  Option.bind (idx a_ i_) fun a__e =>
  Option.bind (idx b_ i_) fun b__e =>
  bif decide (a__e < b__e) then (
   some (.done (.inr (-1))))
  else (
   Option.bind (idx a_ i_) fun a__e1 =>
   Option.bind (idx b_ i_) fun b__e1 =>
   bif decide (a__e1 > b__e1) then (
    some (.done (.inr 1)))
   else (
    some (.next (w64 (i_ + 1))))))
 else (
  some (.done (.inl ())))
def ref12_compare (a_ : List Int) (b_ : List Int) : Option Int :=
 bif ((a_.length : Nat) : Int) != ((b_.length : Nat) : Int) then (
  bif decide (((a_.length : Nat) : Int) < ((b_.length : Nat) : Int)) then (
   some (-1))
  else (
   some 1))
 else (
  Option.bind (loop (fun s => ref12_compare_L2 a_ b_ s) 0) fun t2 =>
  match t2 with
  | .inl p => ref12_compare_J1
  | .inr p => some p)
def ref12_put_J3 (w_ : List Int) (low : Int) (l_1 : List (List Int)) : Option (List (List Int)) :=
 gd (([] : List Int).length + w_.length ≤ 4294967296) <|
 Option.bind (idx l_1 low) fun l__e =>
 some (l_1.set low.toNat w_)
def ref12_put_L4 (low : Int) (l_2 : List (List Int)) (i_ : Int) : Option (LR (List (List Int) × Int) (List (List Int))) :=
 bif decide (i_ > low) then (
  Option.bind (idx l_2 (w64 (i_ - 1))) fun l__e1 =>
  Option.bind (idx l_2 i_) fun l__e2 =>
  some (.next ((l_2.set i_.toNat l__e1), w64 (i_ - 1))))
 else (
  some (.done l_2))
def ref12_put_J2 (l_ : List (List Int)) (w_ : List Int) (low : Int) : Option (List (List Int)) :=
 gd (l_.length + ([[]] : List (List Int)).length ≤ 4294967296) <|
 Option.bind (loop (fun s => ref12_put_L4 low s.1 s.2) ((l_ ++ ([[]] : List (List Int))), w64 ((((l_ ++ ([[]] : List (List Int))).length : Nat) : Int) - 1))) fun t4 =>
 ref12_put_J3 w_ low t4
def ref12_put_J1 (l_ : List (List Int)) (w_ : List Int) (low : Int) : Option (List (List Int)) :=
 bif decide (low < ((l_.length : Nat) : Int)) then (
  Option.bind (idx l_ low) fun l__e3 =>
  Option.bind (ref12_compare l__e3 w_) fun r_ =>
  bif r_ == 0 then (
   some l_)
  else (
   ref12_put_J2 l_ w_ low))
 else (
  ref12_put_J2 l_ w_ low)
def ref12_put_L5 (l_ : List (List Int)) (w_ : List Int) (low1 : Int) (high : Int) : Option (LR (Int × Int) Int) :=
 bif decide (low1 < high) then (
  gd ((2 : Int) ≠ 0) <|
  Option.bind (idx l_ (w64 (Int.tdiv (w64 (low1 + high)) 2))) fun l__e4 =>
  Option.bind (ref12_compare l__e4 w_) fun r_1 =>
  bif decide (r_1 < 0) then (
   some (.next (w64 ((w64 (Int.tdiv (w64 (low1 + high)) 2)) + 1), high)))
  else (
   some (.next (low1, w64 (Int.tdiv (w64 (low1 + high)) 2)))))
 else (
  some (.done low1))
def ref12_put (l_ : List (List Int)) (w_ : List Int) : Option (List (List Int)) :=
 Option.bind (loop (fun s => ref12_put_L5 l_ w_ s.1 s.2) (0, ((l_.length : Nat) : Int))) fun t5 =>
 ref12_put_J1 l_ w_ t5
def ref12_Sort_J1 (out : List (List Int)) : Option (List (List Int)) :=
 some out
def ref12_Sort_L2 (l_ : List (List Int)) (out1 : List (List Int)) (i_ : Int) : Option (LR (List (List Int) × Int) (List (List Int))) :=
 bif decide (i_ < ((l_.length : Nat) : Int)) then (
  Option.bind (idx l_ i_) fun l__e =>
  Option.bind (ref12_put out1 l__e) fun r_ =>
  some (.next (r_, w64 (i_ + 1))))
 else (
  some (.done out1))
def ref12_Sort (l_ : List (List Int)) : Option (List (List Int)) :=
 Option.bind (loop (fun s => ref12_Sort_L2 l_ s.1 s.2) (([] : List (List Int)), 0)) fun t2 =>
 ref12_Sort_J1 t2
def law12_L_Of (x_ : S_law12_L) : Option (List (List Int)) :=
 Option.bind (law12_L_Raw x_) fun r_ =>
 Option.bind (ref12_Sort r_) fun r_1 =>
 some r_1
def words_Check_1 (c_ : Int) (x1 : Int) : Option Bool :=
 bif decide (c_ < 0) then (
  some true)
 else (
  some (decide (c_ ≥ x1)))
def slices_IndexFunc_int_int_J1 : Option Int :=
 some (-1)
def slices_IndexFunc_int_int_L2 (s_ : List Int) (f_ : Int) (x8 : Int) : Option (LR Int (Unit ⊕ Int)) :=
 bif decide (x8 < ((s_.length : Nat) : Int)) then (
  Option.bind (idx s_ x8) fun s__e =>
  Option.bind (words_Check_1 s__e f_) fun r_ =>
  bif r_ then (
   some (.done (.inr x8)))
  else (
   some (.next (w64 (x8 + 1)))))
 else (
  some (.done (.inl ())))
def slices_IndexFunc_int_int (s_ : List Int) (f_ : Int) : Option Int :=
 Option.bind (loop (fun s => slices_IndexFunc_int_int_L2 s_ f_ s) 0) fun t2 =>
 match t2 with
 | .inl p => slices_IndexFunc_int_int_J1
 | .inr p => some p
def slices_ContainsFunc_int_int (s_ : List Int) (f_ : Int) : Option Bool :=
 Option.bind (slices_IndexFunc_int_int s_ f_) fun r_ =>
 some (decide (r_ ≥ 0))
def words_Check (w_ : List Int) (inputs : Int) : Option Int :=
 bif decide (inputs > 16) then (
  some 3)
 else (
  bif decide (((w_.length : Nat) : Int) > 256) then (
   some 3)
  else (
   bif decide (inputs < 1) then (
    some 1)
   else (
    Option.bind (slices_ContainsFunc_int_int w_ inputs) fun r_ =>
    bif r_ then (
     some 1)
    else (
     some 0))))
def tries_loose_J1 : Option Int :=
 some 0
def tries_loose_L2 (l_ : List (List Int)) (inputs : Int) (x19 : Int) : Option (LR Int (Unit ⊕ Int)) :=
 bif decide (x19 < ((l_.length : Nat) : Int)) then (
  Option.bind (idx l_ x19) fun l__e =>
  Option.bind (words_Check l__e inputs) fun r_ =>
  bif r_ != 0 then (
   some (.done (.inr r_)))
  else (
   some (.next (w64 (x19 + 1)))))
 else (
  some (.done (.inl ())))
def tries_loose (l_ : List (List Int)) (inputs : Int) : Option Int :=
 bif decide (inputs > 16) then (
  some 3)
 else (
  bif decide (((l_.length : Nat) : Int) > 4096) then (
   some 3)
  else (
   bif decide (inputs < 1) then (
    some 1)
   else (
    Option.bind (loop (fun s => tries_loose_L2 l_ inputs s) 0) fun t2 =>
    match t2 with
    | .inl p => tries_loose_J1
    | .inr p => some p)))
def cmp_isNaN_int (x_ : Int) : Option Bool :=
 some (x_ != x_)
def cmp_Compare_int (x_ : Int) (y_ : Int) : Option Int :=
 Option.bind (cmp_isNaN_int x_) fun r_ =>
 Option.bind (cmp_isNaN_int y_) fun r_1 =>
 bif r_ then (
  bif r_1 then (
   some 0)
  else (
   some (-1)))
 else (
  bif r_1 then (
   some 1)
  else (
   bif decide (x_ < y_) then (
    some (-1))
   else (
    bif decide (x_ > y_) then (
     some 1)
    else (
     some 0))))
def slices_Compare_int_int_J1 (s1 : List Int) (s2 : List Int) : Option Int :=
 bif decide (((s1.length : Nat) : Int) < ((s2.length : Nat) : Int)) then (
  some (-1))
 else (
  some 0)
def slices_Compare_int_int_L2 (s1 : List Int) (s2 : List Int) (x11 : Int) : Option (LR Int (Unit ⊕ Int)) :=
 bif decide (x11 < ((s1.length : Nat) : Int)) then (
  Option.bind (idx s1 x11) fun s_e =>
  bif decide (x11 ≥ ((s2.length : Nat) : Int)) then (
   some (.done (.inr 1)))
  else (
   Option.bind (idx s2 x11) fun s_e1 =>
   Option.bind (cmp_Compare_int s_e s_e1) fun r_ =>
   bif r_ != 0 then (
    some (.done (.inr r_)))
   else (
    some (.next (w64 (x11 + 1))))))
 else (
  some (.done (.inl ())))
def slices_Compare_int_int (s1 : List Int) (s2 : List Int) : Option Int :=
 Option.bind (loop (fun s => slices_Compare_int_int_L2 s1 s2 s) 0) fun t2 =>
 match t2 with
 | .inl p => slices_Compare_int_int_J1 s1 s2
 | .inr p => some p
def cmp_Or_int_J1 : Option Int :=
 some 0
def cmp_Or_int_L2 (vals : List Int) (x8 : Int) : Option (LR Int (Unit ⊕ Int)) :=
 bif decide (x8 < ((vals.length : Nat) : Int)) then (
  Option.bind (idx vals x8) fun val_e =>
  bif val_e != 0 then (
   some (.done (.inr val_e)))
  else (
   some (.next (w64 (x8 + 1)))))
 else (
  some (.done (.inl ())))
def cmp_Or_int (vals : List Int) : Option Int :=
 Option.bind (loop (fun s => cmp_Or_int_L2 vals s) 0) fun t2 =>
 match t2 with
 | .inl p => cmp_Or_int_J1
 | .inr p => some p
def words_Compare (a_ : List Int) (b_ : List Int) : Option Int :=
 Option.bind (cmp_Compare_int ((a_.length : Nat) : Int) ((b_.length : Nat) : Int)) fun r_ =>
 Option.bind (slices_Compare_int_int a_ b_) fun r_1 =>
 Option.bind (cmp_Or_int ([r_, r_1])) fun r_2 =>
 some r_2
def tries_ahead_J1 : Option Bool :=
 some true
def tries_ahead_L2 (l_ : List (List Int)) (i_ : Int) : Option (LR Int (Unit ⊕ Bool)) :=
 bif decide (i_ < ((l_.length : Nat) : Int)) then (
  Option.bind (idx l_ (w64 (i_ - 1))) fun l__e =>
  Option.bind (idx l_ i_) fun l__e1 =>
  Option.bind (words_Compare l__e l__e1) fun r_ =>
  bif decide (r_ ≥ 0) then (
   some (.done (.inr false)))
  else (
   some (.next (w64 (i_ + 1)))))
 else (
  some (.done (.inl ())))
def tries_ahead (l_ : List (List Int)) : Option Bool :=
 Option.bind (loop (fun s => tries_ahead_L2 l_ s) 1) fun t2 =>
 match t2 with
 | .inl p => tries_ahead_J1
 | .inr p => some p
def tries_steps_J1 (n_ : Int) : Option Int :=
 some n_
def tries_steps_L2 (l_ : List (List Int)) (n_1 : Int) (x7 : Int) : Option (LR (Int × Int) Int) :=
 bif decide (x7 < ((l_.length : Nat) : Int)) then (
  Option.bind (idx l_ x7) fun l__e =>
  some (.next (w64 (n_1 + ((l__e.length : Nat) : Int)), w64 (x7 + 1))))
 else (
  some (.done n_1))
def tries_steps (l_ : List (List Int)) : Option Int :=
 Option.bind (loop (fun s => tries_steps_L2 l_ s.1 s.2) (0, 0)) fun t2 =>
 tries_steps_J1 t2
def tries_Check (l_ : List (List Int)) (inputs : Int) : Option Int :=
 Option.bind (tries_loose l_ inputs) fun r_ =>
 bif r_ != 0 then (
  some r_)
 else (
  Option.bind (tries_ahead l_) fun r_1 =>
  bif !r_1 then (
   some 1)
  else (
   Option.bind (tries_steps l_) fun r_2 =>
   bif decide (r_2 > 65536) then (
    some 3)
   else (
    some 0)))
def tries_builder_node_J1 (b_ : S_tries_builder) (n_Next : List Int) : Option (Int × S_tries_builder) :=
 gd (b_.nodes_.length + ([(S_tries_Node.mk n_Next false)] : List S_tries_Node).length ≤ 4294967296) <|
 some (w64 ((((b_.nodes_ ++ ([(S_tries_Node.mk n_Next false)] : List S_tries_Node)).length : Nat) : Int) - 1), (S_tries_builder.mk b_.inputs_ (b_.nodes_ ++ ([(S_tries_Node.mk n_Next false)] : List S_tries_Node))))
def tries_builder_node_L2 (b_ : S_tries_builder) (n_Next1 : List Int) (x14 : Int) : Option (LR (List Int × Int) (List Int)) :=
 bif decide (x14 < (((List.replicate b_.inputs_.toNat (0 : Int)).length : Nat) : Int)) then (
  Option.bind (idx n_Next1 x14) fun n_Next_e =>
  some (.next ((n_Next1.set x14.toNat (-1)), w64 (x14 + 1))))
 else (
  some (.done n_Next1))
def tries_builder_node (b_ : S_tries_builder) : Option (Int × S_tries_builder) :=
 gd ((0 : Int) ≤ b_.inputs_ ∧ (b_.inputs_ : Int) ≤ 4294967296) <|
 Option.bind (loop (fun s => tries_builder_node_L2 b_ s.1 s.2) ((List.replicate b_.inputs_.toNat (0 : Int)), 0)) fun t2 =>
 tries_builder_node_J1 b_ t2
def tries_builder_add_J2 (b_inputs1 : Int) (b_nodes1 : List S_tries_Node) (at_ : Int) : Option S_tries_builder :=
 Option.bind (idx b_nodes1 at_) fun b_node_e =>
 some (S_tries_builder.mk b_inputs1 (b_nodes1.set at_.toNat (S_tries_Node.mk b_node_e.Next true)))
def tries_builder_add_J4 (at_1 : Int) (x18 : Int) (w__e : Int) (b_inputs3 : Int) (b_nodes3 : List S_tries_Node) : Option (LR (Int × List S_tries_Node × Int × Int) ((Int × List S_tries_Node × Int))) :=
 Option.bind (idx b_nodes3 at_1) fun b_node_e1 =>
 Option.bind (idx b_node_e1.Next w__e) fun Next_e =>
 some (.next (b_inputs3, b_nodes3, Next_e, w64 (x18 + 1)))
def tries_builder_add_L3 (w_ : List Int) (b_inputs2 : Int) (b_nodes2 : List S_tries_Node) (at_1 : Int) (x18 : Int) : Option (LR (Int × List S_tries_Node × Int × Int) ((Int × List S_tries_Node × Int))) :=
 bif decide (x18 < ((w_.length : Nat) : Int)) then (
  Option.bind (idx w_ x18) fun w__e =>
  Option.bind (idx b_nodes2 at_1) fun b_node_e2 =>
  Option.bind (idx b_node_e2.Next w__e) fun Next_e1 =>
  bif Next_e1 == (-1) then (
   Option.bind (tries_builder_node (S_tries_builder.mk b_inputs2 b_nodes2)) fun r_ =>
   Option.bind (idx r_.2.nodes_ at_1) fun nodes__e =>
   Option.bind (idx nodes__e.Next w__e) fun Next_e2 =>
   tries_builder_add_J4 at_1 x18 w__e r_.2.inputs_ (r_.2.nodes_.set at_1.toNat (S_tries_Node.mk (nodes__e.Next.set w__e.toNat r_.1) nodes__e.End)))
  else (
   tries_builder_add_J4 at_1 x18 w__e b_inputs2 b_nodes2))
 else (
  some (.done (b_inputs2, b_nodes2, at_1)))
def tries_builder_add_J1 (w_ : List Int) (b_inputs : Int) (b_nodes : List S_tries_Node) : Option S_tries_builder :=
 Option.bind (loop (fun s => tries_builder_add_L3 w_ s.1 s.2.1 s.2.2.1 s.2.2.2) (b_inputs, b_nodes, 0, 0)) fun t3 =>
 tries_builder_add_J2 t3.1 t3.2.1 t3.2.2
def tries_builder_add (w_ : List Int) (b_ : S_tries_builder) : Option S_tries_builder :=
 bif ((b_.nodes_.length : Nat) : Int) == 0 then (
  Option.bind (tries_builder_node b_) fun r_1 =>
  tries_builder_add_J1 w_ r_1.2.inputs_ r_1.2.nodes_)
 else (
  tries_builder_add_J1 w_ b_.inputs_ b_.nodes_)
def tries_of_J1 (b_inputs : Int) (b_nodes : List S_tries_Node) : Option S_tries_builder :=
 some (S_tries_builder.mk b_inputs b_nodes)
def tries_of_L2 (l_ : List (List Int)) (b_inputs1 : Int) (b_nodes1 : List S_tries_Node) (x13 : Int) : Option (LR (Int × List S_tries_Node × Int) ((Int × List S_tries_Node))) :=
 bif decide (x13 < ((l_.length : Nat) : Int)) then (
  Option.bind (idx l_ x13) fun l__e =>
  Option.bind (tries_builder_add l__e (S_tries_builder.mk b_inputs1 b_nodes1)) fun r_ =>
  some (.next (r_.inputs_, r_.nodes_, w64 (x13 + 1))))
 else (
  some (.done (b_inputs1, b_nodes1)))
def tries_of (l_ : List (List Int)) (inputs : Int) : Option S_tries_builder :=
 Option.bind (loop (fun s => tries_of_L2 l_ s.1 s.2.1 s.2.2) (inputs, ([] : List S_tries_Node), 0)) fun t2 =>
 tries_of_J1 t2.1 t2.2
def tries_walk (nodes : List S_tries_Node) : Option (List S_tries_Node) :=
 some nodes
def slices_Clip_int_int (s_ : List Int) : Option (List Int) :=
 gd ((0 : Int) ≤ 0 ∧ (0 : Int) ≤ ((s_.length : Nat) : Int) ∧ (((s_.length : Nat) : Int) : Int) ≤ ((s_.length : Nat) : Int) ∧ (((s_.length : Nat) : Int) : Int) ≤ ((s_.length : Nat) : Int)) <|
 some ((s_.drop 0).take (((s_.length : Nat) : Int).toNat - 0))
def tries_walk_1_J3 {σ : Type} (sg2 : σ) (next : List S_tries_place) : Option (LR (σ × List S_tries_place) σ) :=
 some (.next (sg2, next))
def tries_walk_1_J5 {σ : Type} (x19 : Int) (sg4 : σ) (next2 : List S_tries_place) : Option (LR (σ × List S_tries_place × Int) ((σ × List S_tries_place) ⊕ σ)) :=
 some (.next (sg4, next2, w64 (x19 + 1)))
def tries_walk_1_J7 {σ : Type} (x34 : Int) (next4 : List S_tries_place) : Option (LR (List S_tries_place × Int) ((σ × List S_tries_place))) :=
 some (.next (next4, w64 (x34 + 1)))
def tries_walk_1_L6 {σ : Type} (level_e : S_tries_place) (yr : σ × Bool) (x_e : S_tries_Node) (next3 : List S_tries_place) (x34 : Int) : Option (LR (List S_tries_place × Int) ((σ × List S_tries_place))) :=
 bif decide (x34 < ((x_e.Next.length : Nat) : Int)) then (
  Option.bind (idx x_e.Next x34) fun Next_e =>
  bif Next_e != (-1) then (
   Option.bind (slices_Clip_int_int level_e.w_) fun r_ =>
   gd (r_.length + ([x34] : List Int).length ≤ 4294967296) <|
   gd (next3.length + ([(S_tries_place.mk Next_e (r_ ++ ([x34] : List Int)))] : List S_tries_place).length ≤ 4294967296) <|
   tries_walk_1_J7 x34 (next3 ++ ([(S_tries_place.mk Next_e (r_ ++ ([x34] : List Int)))] : List S_tries_place)))
  else (
   tries_walk_1_J7 x34 next3))
 else (
  some (.done (yr.1, next3)))
def tries_walk_1_L4 {σ : Type} (x0 : List S_tries_Node) (yy : σ → S_tries_place → Option (σ × Bool)) (level1 : List S_tries_place) (sg3 : σ) (next1 : List S_tries_place) (x19 : Int) : Option (LR (σ × List S_tries_place × Int) ((σ × List S_tries_place) ⊕ σ)) :=
 bif decide (x19 < ((level1.length : Nat) : Int)) then (
  Option.bind (idx level1 x19) fun level_e =>
  Option.bind (yy sg3 level_e) fun yr =>
  bif !yr.2 then (
   some (.done (.inr yr.1)))
  else (
   Option.bind (idx x0 level_e.at_) fun x_e =>
   Option.bind (loop (fun s => tries_walk_1_L6 level_e yr x_e s.1 s.2) (next1, 0)) fun t6 =>
   tries_walk_1_J5 x19 t6.1 t6.2))
 else (
  some (.done (.inl (sg3, next1))))
def tries_walk_1_L2 {σ : Type} (x0 : List S_tries_Node) (yy : σ → S_tries_place → Option (σ × Bool)) (sg1 : σ) (level1 : List S_tries_place) : Option (LR (σ × List S_tries_place) σ) :=
 bif decide (((level1.length : Nat) : Int) > 0) then (
  Option.bind (loop (fun s => tries_walk_1_L4 x0 yy level1 s.1 s.2.1 s.2.2) (sg1, ([] : List S_tries_place), 0)) fun t4 =>
  match t4 with
  | .inl p => tries_walk_1_J3 p.1 p.2
  | .inr p => some (.done p))
 else (
  some (.done sg1))
def tries_walk_1_J1 {σ : Type} (x0 : List S_tries_Node) (yy : σ → S_tries_place → Option (σ × Bool)) (sg : σ) (level : List S_tries_place) : Option σ :=
 Option.bind (loop (fun s => tries_walk_1_L2 x0 yy s.1 s.2) (sg, level)) fun t2 =>
 some t2
def tries_walk_1 (x0 : List S_tries_Node) {σ : Type} (yy : σ → S_tries_place → Option (σ × Bool)) (sg : σ) : Option σ :=
 bif decide (((x0.length : Nat) : Int) > 0) then (
  tries_walk_1_J1 x0 yy sg ([(S_tries_place.mk 0 [])] : List S_tries_place))
 else (
  tries_walk_1_J1 x0 yy sg ([] : List S_tries_place))
def slices_Clip_tries_Node_tries_Node (s_ : List S_tries_Node) : Option (List S_tries_Node) :=
 gd ((0 : Int) ≤ 0 ∧ (0 : Int) ≤ ((s_.length : Nat) : Int) ∧ (((s_.length : Nat) : Int) : Int) ≤ ((s_.length : Nat) : Int) ∧ (((s_.length : Nat) : Int) : Int) ≤ ((s_.length : Nat) : Int)) <|
 some ((s_.drop 0).take (((s_.length : Nat) : Int).toNat - 0))
def tries_builder_ordered_I1 (number : List Int) (order : List Int) (x23 : S_tries_place) : Option (LR (List Int × List Int) Empty) :=
 Option.bind (idx number x23.at_) fun number_e =>
 gd (order.length + ([x23.at_] : List Int).length ≤ 4294967296) <|
 some (.next ((number.set x23.at_.toNat ((order.length : Nat) : Int)), (order ++ ([x23.at_] : List Int))))
def tries_builder_ordered_q1 (b_ : S_tries_builder) : Option (List Int × List Int) :=
 Option.bind (tries_walk b_.nodes_) fun r_ =>
 Option.bind (tries_walk_1 r_ (yOf (fun s x => tries_builder_ordered_I1 s.1 s.2 x)) (.next ((List.replicate ((b_.nodes_.length : Nat) : Int).toNat (0 : Int)), ([] : List Int)))) fun t1 =>
 match t1 with
 | .next (number, order) => (
  some (number, order))
 | .done z => nomatch z
def tries_builder_ordered_J2 (out : List S_tries_Node) : Option (List S_tries_Node) :=
 Option.bind (slices_Clip_tries_Node_tries_Node out) fun r_1 =>
 some r_1
def tries_builder_ordered_J4 (x37 : Int) (b_nodes1 : List (Option S_tries_Node)) (out2 : List S_tries_Node) : Option (LR (List (Option S_tries_Node) × List S_tries_Node × Int) (List S_tries_Node)) :=
 some (.next (b_nodes1, out2, w64 (x37 + 1)))
def tries_builder_ordered_J5 (b_nodes : List (Option S_tries_Node)) (out1 : List S_tries_Node) (x37 : Int) (u_ : Int) (b_node_e : S_tries_Node) (n_Next : List Int) : Option (LR (List (Option S_tries_Node) × List S_tries_Node × Int) (List S_tries_Node)) :=
 gd (out1.length + ([(S_tries_Node.mk n_Next b_node_e.End)] : List S_tries_Node).length ≤ 4294967296) <|
 tries_builder_ordered_J4 x37 (b_nodes.set u_.toNat none) (out1 ++ ([(S_tries_Node.mk n_Next b_node_e.End)] : List S_tries_Node))
def tries_builder_ordered_J7 (x51 : Int) (n_Next2 : List Int) : Option (LR (List Int × Int) (List Int)) :=
 some (.next (n_Next2, w64 (x51 + 1)))
def tries_builder_ordered_L6 (bo : List Int × List Int) (b_node_e : S_tries_Node) (n_Next1 : List Int) (x51 : Int) : Option (LR (List Int × Int) (List Int)) :=
 bif decide (x51 < ((b_node_e.Next.length : Nat) : Int)) then (
  Option.bind (idx n_Next1 x51) fun n_Next_e =>
  bif n_Next_e != (-1) then (
   Option.bind (idx bo.1 n_Next_e) fun u_1 =>
   Option.bind (idx n_Next1 x51) fun n_Next_e1 =>
   tries_builder_ordered_J7 x51 (n_Next1.set x51.toNat u_1))
  else (
   tries_builder_ordered_J7 x51 n_Next1))
 else (
  some (.done n_Next1))
def tries_builder_ordered_L3 (bo : List Int × List Int) (b_nodes : List (Option S_tries_Node)) (out1 : List S_tries_Node) (x37 : Int) : Option (LR (List (Option S_tries_Node) × List S_tries_Node × Int) (List S_tries_Node)) :=
 bif decide (x37 < ((bo.2.length : Nat) : Int)) then (
  Option.bind (idx bo.2 x37) fun u_ =>
  Option.bind (idx b_nodes u_) fun there =>
  Option.bind (there) fun b_node_e =>
  Option.bind (loop (fun s => tries_builder_ordered_L6 bo b_node_e s.1 s.2) (b_node_e.Next, 0)) fun t6 =>
  tries_builder_ordered_J5 b_nodes out1 x37 u_ b_node_e t6)
 else (
  some (.done out1))
def tries_builder_ordered (b_ : S_tries_builder) : Option (List S_tries_Node) :=
 gd ((0 : Int) ≤ ((b_.nodes_.length : Nat) : Int) ∧ (((b_.nodes_.length : Nat) : Int) : Int) ≤ 4294967296) <|
 Option.bind (tries_builder_ordered_q1 b_) fun bo =>
 Option.bind (loop (fun s => tries_builder_ordered_L3 bo s.1 s.2.1 s.2.2) ((b_.nodes_.map some), ([] : List S_tries_Node), 0)) fun t3 =>
 tries_builder_ordered_J2 t3
def tries_Of (l_ : List (List Int)) (inputs : Int) : Option (S_tries_Trie × Int) :=
 Option.bind (tries_Check l_ inputs) fun r_ =>
 bif r_ != 0 then (
  some ((S_tries_Trie.mk 0 []), r_))
 else (
  Option.bind (tries_of l_ inputs) fun r_1 =>
  Option.bind (tries_builder_ordered r_1) fun r_2 =>
  some ((S_tries_Trie.mk inputs r_2), 0))
def ref12_Prefixes_J1 (out : List (List Int)) : Option (List (List Int)) :=
 some out
def ref12_Prefixes_J3 (i_ : Int) (out2 : List (List Int)) : Option (LR (List (List Int) × Int) (List (List Int))) :=
 some (.next (out2, w64 (i_ + 1)))
def ref12_Prefixes_L4 (l_ : List (List Int)) (i_ : Int) (out3 : List (List Int)) (k_ : Int) : Option (LR (List (List Int) × Int) (List (List Int))) :=
 Option.bind (idx l_ i_) fun l__e =>
 bif decide (k_ ≤ ((l__e.length : Nat) : Int)) then (
  Option.bind (idx l_ i_) fun l__e1 =>
  gd ((0 : Int) ≤ 0 ∧ (0 : Int) ≤ k_ ∧ (k_ : Int) ≤ ((l__e1.length : Nat) : Int)) <|
  Option.bind (ref12_put out3 ((l__e1.drop 0).take (k_.toNat - 0))) fun r_ =>
  some (.next (r_, w64 (k_ + 1))))
 else (
  some (.done out3))
def ref12_Prefixes_L2 (l_ : List (List Int)) (out1 : List (List Int)) (i_ : Int) : Option (LR (List (List Int) × Int) (List (List Int))) :=
 bif decide (i_ < ((l_.length : Nat) : Int)) then (
  Option.bind (loop (fun s => ref12_Prefixes_L4 l_ i_ s.1 s.2) (out1, 0)) fun t4 =>
  ref12_Prefixes_J3 i_ t4)
 else (
  some (.done out1))
def ref12_Prefixes (l_ : List (List Int)) : Option (List (List Int)) :=
 Option.bind (loop (fun s => ref12_Prefixes_L2 l_ s.1 s.2) (([] : List (List Int)), 0)) fun t2 =>
 ref12_Prefixes_J1 t2
def ref12_Has_J1 : Option Bool :=
 some false
def ref12_Has_L2 (l_ : List (List Int)) (w_ : List Int) (i_ : Int) : Option (LR Int (Unit ⊕ Bool)) :=
 bif decide (i_ < ((l_.length : Nat) : Int)) then (
  Option.bind (idx l_ i_) fun l__e =>
  Option.bind (ref12_compare l__e w_) fun r_ =>
  bif r_ == 0 then (
   some (.done (.inr true)))
  else (
   some (.next (w64 (i_ + 1)))))
 else (
  some (.done (.inl ())))
def ref12_Has (l_ : List (List Int)) (w_ : List Int) : Option Bool :=
 Option.bind (loop (fun s => ref12_Has_L2 l_ w_ s) 0) fun t2 =>
 match t2 with
 | .inl p => ref12_Has_J1
 | .inr p => some p
def ref12_Trie_J1 (inputs : Int) (t_Nodes : List S_tries_Node) : Option S_tries_Trie :=
 some (S_tries_Trie.mk inputs t_Nodes)
def ref12_Trie_J3 (i_ : Int) (t_Nodes2 : List S_tries_Node) : Option (LR (List S_tries_Node × Int) (List S_tries_Node)) :=
 some (.next (t_Nodes2, w64 (i_ + 1)))
def ref12_Trie_J4 (t_Nodes1 : List S_tries_Node) (i_ : Int) (r_1 : Bool) (n_Next : List Int) : Option (LR (List S_tries_Node × Int) (List S_tries_Node)) :=
 gd (t_Nodes1.length + ([(S_tries_Node.mk n_Next r_1)] : List S_tries_Node).length ≤ 4294967296) <|
 ref12_Trie_J3 i_ (t_Nodes1 ++ ([(S_tries_Node.mk n_Next r_1)] : List S_tries_Node))
def ref12_Trie_J6 (s_ : Int) (n_Next2 : List Int) : Option (LR (List Int × Int) (List Int)) :=
 some (.next (n_Next2, w64 (s_ + 1)))
def ref12_Trie_J7 (n_Next1 : List Int) (s_ : Int) (next : Int) : Option (LR (List Int × Int) (List Int)) :=
 gd (n_Next1.length + ([next] : List Int).length ≤ 4294967296) <|
 ref12_Trie_J6 s_ (n_Next1 ++ ([next] : List Int))
def ref12_Trie_J9 (k_ : Int) (next2 : Int) : Option (LR (Int × Int) Int) :=
 some (.next (next2, w64 (k_ + 1)))
def ref12_Trie_L8 (r_ : List (List Int)) (i_ : Int) (s_ : Int) (next1 : Int) (k_ : Int) : Option (LR (Int × Int) Int) :=
 bif decide (k_ < ((r_.length : Nat) : Int)) then (
  Option.bind (idx r_ k_) fun r__e1 =>
  Option.bind (idx r_ i_) fun r__e2 =>
  gd (([] : List Int).length + r__e2.length ≤ 4294967296) <|
  gd (r__e2.length + ([s_] : List Int).length ≤ 4294967296) <|
  Option.bind (ref12_compare r__e1 (r__e2 ++ ([s_] : List Int))) fun r_2 =>
  bif r_2 == 0 then (
   ref12_Trie_J9 k_ k_)
  else (
   ref12_Trie_J9 k_ next1))
 else (
  some (.done next1))
def ref12_Trie_L5 (inputs : Int) (r_ : List (List Int)) (i_ : Int) (n_Next1 : List Int) (s_ : Int) : Option (LR (List Int × Int) (List Int)) :=
 bif decide (s_ < inputs) then (
  Option.bind (loop (fun s => ref12_Trie_L8 r_ i_ s_ s.1 s.2) ((-1), 0)) fun t8 =>
  ref12_Trie_J7 n_Next1 s_ t8)
 else (
  some (.done n_Next1))
def ref12_Trie_L2 (l_ : List (List Int)) (inputs : Int) (r_ : List (List Int)) (t_Nodes1 : List S_tries_Node) (i_ : Int) : Option (LR (List S_tries_Node × Int) (List S_tries_Node)) :=
 bif decide (i_ < ((r_.length : Nat) : Int)) then (
  Option.bind (idx r_ i_) fun r__e =>
  Option.bind (ref12_Has l_ r__e) fun r_1 =>
  Option.bind (loop (fun s => ref12_Trie_L5 inputs r_ i_ s.1 s.2) (([] : List Int), 0)) fun t5 =>
  ref12_Trie_J4 t_Nodes1 i_ r_1 t5)
 else (
  some (.done t_Nodes1))
def ref12_Trie (l_ : List (List Int)) (inputs : Int) : Option S_tries_Trie :=
 Option.bind (ref12_Prefixes l_) fun r_ =>
 Option.bind (loop (fun s => ref12_Trie_L2 l_ inputs r_ s.1 s.2) (([] : List S_tries_Node), 0)) fun t2 =>
 ref12_Trie_J1 inputs t2
def ref12_Equal_J1 : Option Bool :=
 some true
def ref12_Equal_L2 (a_ : S_tries_Trie) (b_ : S_tries_Trie) (i_ : Int) : Option (LR Int (Unit ⊕ Bool)) :=
 bif decide (i_ < ((a_.Nodes.length : Nat) : Int)) then (
  Option.bind (idx a_.Nodes i_) fun Node_e =>
  Option.bind (idx b_.Nodes i_) fun Node_e1 =>
  bif !(Node_e.End == Node_e1.End) then (
   some (.done (.inr false)))
  else (
   Option.bind (idx a_.Nodes i_) fun Node_e2 =>
   Option.bind (idx b_.Nodes i_) fun Node_e3 =>
   Option.bind (ref12_compare Node_e2.Next Node_e3.Next) fun r_ =>
   bif r_ != 0 then (
    some (.done (.inr false)))
   else (
    some (.next (w64 (i_ + 1))))))
 else (
  some (.done (.inl ())))
def ref12_Equal (a_ : S_tries_Trie) (b_ : S_tries_Trie) : Option Bool :=
 bif a_.Inputs != b_.Inputs then (
  some false)
 else (
  bif ((a_.Nodes.length : Nat) : Int) != ((b_.Nodes.length : Nat) : Int) then (
   some false)
  else (
   Option.bind (loop (fun s => ref12_Equal_L2 a_ b_ s) 0) fun t2 =>
   match t2 with
   | .inl p => ref12_Equal_J1
   | .inr p => some p))
def tries_tree_J1 : Option Bool :=
 some true
def tries_tree_J3 (x15 : Int) (seen1 : List Bool) (x31 : List Int) (x32 : Int) (x35 : Bool) : Option (LR (List Bool × Int) (Unit ⊕ Bool)) :=
 some (.next (seen1, w64 (x15 + 1)))
def tries_tree_J6 (x40 : Int) (seen3 : List Bool) : Option (LR (List Bool × Int) ((List Bool × List Int × Int × Bool) ⊕ Bool)) :=
 some (.next (seen3, w64 (x40 + 1)))
def tries_tree_L5 (t_ : S_tries_Trie) (x15 : Int) (Node_e : S_tries_Node) (seen2 : List Bool) (x40 : Int) : Option (LR (List Bool × Int) ((List Bool × List Int × Int × Bool) ⊕ Bool)) :=
 bif decide (x40 < ((Node_e.Next.length : Nat) : Int)) then (
  Option.bind (idx Node_e.Next x40) fun Next_e =>
  bif Next_e == (-1) then (
   tries_tree_J6 x40 seen2)
  else (
   bif decide (Next_e ≤ x15) then (
    some (.done (.inr false)))
   else (
    bif decide (Next_e ≥ ((t_.Nodes.length : Nat) : Int)) then (
     some (.done (.inr false)))
    else (
     Option.bind (idx seen2 Next_e) fun seen_e =>
     bif seen_e then (
      some (.done (.inr false)))
     else (
      Option.bind (idx seen2 Next_e) fun seen_e1 =>
      tries_tree_J6 x40 (seen2.set Next_e.toNat true))))))
 else (
  some (.done (.inl (seen2, Node_e.Next, ((Node_e.Next.length : Nat) : Int), ((Node_e.Next.length : Nat) : Int) != t_.Inputs))))
def tries_tree_J4 (t_ : S_tries_Trie) (seen : List Bool) (x15 : Int) (Node_e : S_tries_Node) : Option (LR (List Bool × Int) (Unit ⊕ Bool)) :=
 Option.bind (loop (fun s => tries_tree_L5 t_ x15 Node_e s.1 s.2) (seen, 0)) fun t5 =>
 match t5 with
 | .inl p => tries_tree_J3 x15 p.1 p.2.1 p.2.2.1 p.2.2.2
 | .inr p => some (.done (.inr p))
def tries_tree_L2 (t_ : S_tries_Trie) (seen : List Bool) (x15 : Int) : Option (LR (List Bool × Int) (Unit ⊕ Bool)) :=
 bif decide (x15 < ((t_.Nodes.length : Nat) : Int)) then (
  Option.bind (idx t_.Nodes x15) fun Node_e =>
  bif decide (x15 > 0) then (
   Option.bind (idx seen x15) fun seen_e2 =>
   bif !seen_e2 then (
    some (.done (.inr false)))
   else (
    bif ((Node_e.Next.length : Nat) : Int) != t_.Inputs then (
     some (.done (.inr false)))
    else (
     tries_tree_J4 t_ seen x15 Node_e)))
  else (
   bif ((Node_e.Next.length : Nat) : Int) != t_.Inputs then (
    some (.done (.inr false)))
   else (
    tries_tree_J4 t_ seen x15 Node_e)))
 else (
  some (.done (.inl ())))
def tries_tree (t_ : S_tries_Trie) : Option Bool :=
 gd ((0 : Int) ≤ ((t_.Nodes.length : Nat) : Int) ∧ (((t_.Nodes.length : Nat) : Int) : Int) ≤ 4294967296) <|
 Option.bind (loop (fun s => tries_tree_L2 t_ s.1 s.2) ((List.replicate ((t_.Nodes.length : Nat) : Int).toNat false), 0)) fun t2 =>
 match t2 with
 | .inl p => tries_tree_J1
 | .inr p => some p
def tries_leaf_1 (k_ : Int) : Option Bool :=
 some (k_ != (-1))
def slices_IndexFunc_int_int_v3_J1 : Option Int :=
 some (-1)
def slices_IndexFunc_int_int_v3_L2 (s_ : List Int) (x8 : Int) : Option (LR Int (Unit ⊕ Int)) :=
 bif decide (x8 < ((s_.length : Nat) : Int)) then (
  Option.bind (idx s_ x8) fun s__e =>
  Option.bind (tries_leaf_1 s__e) fun r_ =>
  bif r_ then (
   some (.done (.inr x8)))
  else (
   some (.next (w64 (x8 + 1)))))
 else (
  some (.done (.inl ())))
def slices_IndexFunc_int_int_v3 (s_ : List Int) (f_ : Unit) : Option Int :=
 Option.bind (loop (fun s => slices_IndexFunc_int_int_v3_L2 s_ s) 0) fun t2 =>
 match t2 with
 | .inl p => slices_IndexFunc_int_int_v3_J1
 | .inr p => some p
def slices_ContainsFunc_int_int_v2 (s_ : List Int) (f_ : Unit) : Option Bool :=
 Option.bind (slices_IndexFunc_int_int_v3 s_ ()) fun r_ =>
 some (decide (r_ ≥ 0))
def tries_leaf (n_ : S_tries_Node) : Option Bool :=
 Option.bind (slices_ContainsFunc_int_int_v2 n_.Next ()) fun r_ =>
 some (!r_)
def slices_Clone_int_int (s_ : List Int) : Option (List Int) :=
 gd (([] : List Int).length + s_.length ≤ 4294967296) <|
 some s_
def slices_ClipW_int_int_v4 (s_ : List (List Int)) : Option (List (List Int)) :=
 gd ((0 : Int) ≤ 0 ∧ (0 : Int) ≤ ((s_.length : Nat) : Int) ∧ (((s_.length : Nat) : Int) : Int) ≤ ((s_.length : Nat) : Int) ∧ (((s_.length : Nat) : Int) : Int) ≤ ((s_.length : Nat) : Int)) <|
 some ((s_.drop 0).take (((s_.length : Nat) : Int).toNat - 0))
def tries_Words_J1 (t_ : S_tries_Trie) (x3 : Int) (l_ : List (List Int)) : Option (List (List Int) × Int) :=
 Option.bind (tries_Check l_ t_.Inputs) fun r_1 =>
 bif r_1 != 0 then (
  some (([] : List (List Int)), 4))
 else (
  Option.bind (slices_ClipW_int_int_v4 l_) fun r_2 =>
  some (r_2, 0))
def tries_Words_J4 (x31 : Int) (at_ : Int) (l_2 : List (List Int)) : Option (LR (Int × List (List Int) × Int) ((Int × List (List Int) × Int))) :=
 some (.next (x31, l_2, w64 (at_ + 1)))
def tries_Words_J3 (x31 : Int) (l_1 : List (List Int)) (at_ : Int) (x30 : S_tries_place) (Node_e : S_tries_Node) (x49 : Bool) (x50 : Bool) (x54 : Bool) : Option (LR (Int × List (List Int) × Int) ((Int × List (List Int) × Int))) :=
 bif Node_e.End then (
  Option.bind (slices_Clone_int_int x30.w_) fun r_4 =>
  Option.bind (slices_Clip_int_int r_4) fun r_5 =>
  gd (l_1.length + ([r_5] : List (List Int)).length ≤ 4294967296) <|
  tries_Words_J4 x31 at_ (l_1 ++ ([r_5] : List (List Int))))
 else (
  tries_Words_J4 x31 at_ l_1)
def tries_Words_I2 (t_ : S_tries_Trie) (x31 : Int) (l_1 : List (List Int)) (at_ : Int) (x30 : S_tries_place) : Option (LR (Int × List (List Int) × Int) ((Int × List (List Int) × Int))) :=
 Option.bind (idx t_.Nodes x30.at_) fun Node_e =>
 bif x30.at_ != at_ then (
  some (.done (4, l_1, at_)))
 else (
  bif decide (((x30.w_.length : Nat) : Int) > 256) then (
   some (.done (4, l_1, at_)))
  else (
   Option.bind (tries_leaf Node_e) fun r_6 =>
   bif r_6 then (
    bif !Node_e.End then (
     some (.done (4, l_1, at_)))
    else (
     tries_Words_J3 x31 l_1 at_ x30 Node_e r_6 r_6 (!Node_e.End)))
   else (
    tries_Words_J3 x31 l_1 at_ x30 Node_e r_6 r_6 false)))
def tries_Words (t_ : S_tries_Trie) : Option (List (List Int) × Int) :=
 bif decide (t_.Inputs < 1) then (
  some (([] : List (List Int)), 4))
 else (
  bif decide (t_.Inputs > 16) then (
   some (([] : List (List Int)), 4))
  else (
   bif decide (((t_.Nodes.length : Nat) : Int) > 65537) then (
    some (([] : List (List Int)), 4))
   else (
    Option.bind (tries_tree t_) fun r_ =>
    bif !r_ then (
     some (([] : List (List Int)), 4))
    else (
     Option.bind (tries_walk t_.Nodes) fun r_3 =>
     Option.bind (tries_walk_1 r_3 (yOf (fun s x => tries_Words_I2 t_ s.1 s.2.1 s.2.2 x)) (.next (0, ([] : List (List Int)), 0))) fun t2 =>
     match t2 with
     | .next (x31, l_1, at_) => (
      tries_Words_J1 t_ x31 l_1)
     | .done (x31, l_1, at_) => (
      some (([] : List (List Int)), x31))))))
def tries_Count_J1 (n_ : Int) : Option (Int × Int) :=
 some (n_, 0)
def tries_Count_J3 (x20 : Int) (n_2 : Int) : Option (LR (Int × Int) Int) :=
 some (.next (n_2, w64 (x20 + 1)))
def tries_Count_L2 (t_ : S_tries_Trie) (n_1 : Int) (x20 : Int) : Option (LR (Int × Int) Int) :=
 bif decide (x20 < ((t_.Nodes.length : Nat) : Int)) then (
  Option.bind (idx t_.Nodes x20) fun Node_e =>
  Option.bind (tries_leaf Node_e) fun r_1 =>
  bif r_1 then (
   tries_Count_J3 x20 (w64 (n_1 + 1)))
  else (
   tries_Count_J3 x20 n_1))
 else (
  some (.done n_1))
def tries_Count (t_ : S_tries_Trie) : Option (Int × Int) :=
 Option.bind (tries_Words t_) fun r_ =>
 bif r_.2 != 0 then (
  some (0, r_.2))
 else (
  Option.bind (loop (fun s => tries_Count_L2 t_ s.1 s.2) (0, 0)) fun t2 =>
  tries_Count_J1 t2)
def ref12_Same_J1 : Option Bool :=
 some true
def ref12_Same_L2 (a_ : List (List Int)) (b_ : List (List Int)) (i_ : Int) : Option (LR Int (Unit ⊕ Bool)) :=
 bif decide (i_ < ((a_.length : Nat) : Int)) then (
  Option.bind (idx a_ i_) fun a__e =>
  Option.bind (idx b_ i_) fun b__e =>
  Option.bind (ref12_compare a__e b__e) fun r_ =>
  bif r_ != 0 then (
   some (.done (.inr false)))
  else (
   some (.next (w64 (i_ + 1)))))
 else (
  some (.done (.inl ())))
def ref12_Same (a_ : List (List Int)) (b_ : List (List Int)) : Option Bool :=
 bif ((a_.length : Nat) : Int) != ((b_.length : Nat) : Int) then (
  some false)
 else (
  Option.bind (loop (fun s => ref12_Same_L2 a_ b_ s) 0) fun t2 =>
  match t2 with
  | .inl p => ref12_Same_J1
  | .inr p => some p)
def law12_same_J1 : Option Bool :=
 some true
def law12_same_L2 (a_ : List (List Int)) (i_ : Int) : Option (LR Int (Unit ⊕ Bool)) :=
 bif decide (i_ < ((a_.length : Nat) : Int)) then (
  Option.bind (idx a_ i_) fun a__e =>
  Option.bind (idx a_ i_) fun a__e1 =>
  bif ((a__e.length : Nat) : Int) != ((a__e1.length : Nat) : Int) then (
   some (.done (.inr false)))
  else (
   some (.next (w64 (i_ + 1)))))
 else (
  some (.done (.inl ())))
def law12_same (a_ : List (List Int)) (b_ : List (List Int)) : Option Bool :=
 Option.bind (ref12_Same a_ b_) fun r_ =>
 bif !r_ then (
  some false)
 else (
  bif ((a_.length : Nat) : Int) != ((a_.length : Nat) : Int) then (
   some false)
  else (
   Option.bind (loop (fun s => law12_same_L2 a_ s) 0) fun t2 =>
   match t2 with
   | .inl p => law12_same_J1
   | .inr p => some p))
def ref12_prefix (a_ : List Int) (b_ : List Int) : Option Bool :=
 bif decide (((a_.length : Nat) : Int) < ((b_.length : Nat) : Int)) then (
  gd ((0 : Int) ≤ 0 ∧ (0 : Int) ≤ ((a_.length : Nat) : Int) ∧ (((a_.length : Nat) : Int) : Int) ≤ ((b_.length : Nat) : Int)) <|
  Option.bind (ref12_compare a_ ((b_.drop 0).take (((a_.length : Nat) : Int).toNat - 0))) fun r_ =>
  some (r_ == 0))
 else (
  some false)
def ref12_Reduce_J1 (out : List (List Int)) : Option (List (List Int)) :=
 some out
def ref12_Reduce_J3 (i_ : Int) (out2 : List (List Int)) : Option (LR (List (List Int) × Int) (List (List Int))) :=
 some (.next (out2, w64 (i_ + 1)))
def ref12_Reduce_J4 (l_ : List (List Int)) (out1 : List (List Int)) (i_ : Int) (proper : Bool) : Option (LR (List (List Int) × Int) (List (List Int))) :=
 bif !proper then (
  Option.bind (idx l_ i_) fun l__e =>
  gd (out1.length + ([l__e] : List (List Int)).length ≤ 4294967296) <|
  ref12_Reduce_J3 i_ (out1 ++ ([l__e] : List (List Int))))
 else (
  ref12_Reduce_J3 i_ out1)
def ref12_Reduce_L5 (l_ : List (List Int)) (i_ : Int) (proper1 : Bool) (k_ : Int) : Option (LR (Bool × Int) Bool) :=
 bif decide (k_ < ((l_.length : Nat) : Int)) then (
  bif proper1 then (
   some (.next (true, w64 (k_ + 1))))
  else (
   Option.bind (idx l_ i_) fun l__e1 =>
   Option.bind (idx l_ k_) fun l__e2 =>
   Option.bind (ref12_prefix l__e1 l__e2) fun r_ =>
   some (.next (r_, w64 (k_ + 1)))))
 else (
  some (.done proper1))
def ref12_Reduce_L2 (l_ : List (List Int)) (out1 : List (List Int)) (i_ : Int) : Option (LR (List (List Int) × Int) (List (List Int))) :=
 bif decide (i_ < ((l_.length : Nat) : Int)) then (
  Option.bind (loop (fun s => ref12_Reduce_L5 l_ i_ s.1 s.2) (false, 0)) fun t5 =>
  ref12_Reduce_J4 l_ out1 i_ t5)
 else (
  some (.done out1))
def ref12_Reduce (l_ : List (List Int)) : Option (List (List Int)) :=
 Option.bind (loop (fun s => ref12_Reduce_L2 l_ s.1 s.2) (([] : List (List Int)), 0)) fun t2 =>
 ref12_Reduce_J1 t2
def law12_list (l_ : List (List Int)) : Option (List (List Int)) :=
 some l_
def slices_CloneW_int_int (s_ : List (List Int)) : Option (List (List Int)) :=
 gd (([] : List (List Int)).length + s_.length ≤ 4294967296) <|
 some s_
def tries_sorted_1 (a_ : List Int) (b_ : List Int) : Option Bool :=
 Option.bind (words_Compare a_ b_) fun r_ =>
 some (r_ == 0)
def slices_CompactFuncW_int_int_J1 (s_ : List (List Int)) : Option (List (List Int)) :=
 some s_
def slices_CompactFuncW_int_int_J3 (k_ : Int) : Option (LR Int (Unit ⊕ List (List Int))) :=
 some (.next (w64 (k_ + 1)))
def slices_CompactFuncW_int_int_J4 (s_1 : List (List Int)) (k_1 : Int) : Option (LR Int (Unit ⊕ List (List Int))) :=
 gd ((0 : Int) ≤ k_1 ∧ (k_1 : Int) ≤ ((s_1.length : Nat) : Int)) <|
 gd ((0 : Int) ≤ k_1 ∧ (k_1 : Int) ≤ ((s_1.length : Nat) : Int)) <|
 gd ((0 : Int) ≤ k_1 ∧ (k_1 : Int) ≤ (((s_1.take k_1.toNat ++ List.replicate (s_1.length - k_1.toNat) []).length : Nat) : Int)) <|
 some (.done (.inr ((s_1.take k_1.toNat ++ List.replicate (s_1.length - k_1.toNat) []).take k_1.toNat)))
def slices_CompactFuncW_int_int_J6 (k2 : Int) (s_3 : List (List Int)) (k_3 : Int) : Option (LR (List (List Int) × Int × Int) ((List (List Int) × Int))) :=
 some (.next (s_3, k_3, w64 (k2 + 1)))
def slices_CompactFuncW_int_int_L5 (k_ : Int) (s_2 : List (List Int)) (k_2 : Int) (k2 : Int) : Option (LR (List (List Int) × Int × Int) ((List (List Int) × Int))) :=
 bif decide (k2 < ((s_2.length - k_.toNat : Nat) : Int)) then (
  gd ((0 : Int) ≤ k_ ∧ (0 : Int) ≤ k2) <|
  Option.bind (idx s_2 (k_ + k2)) fun s__e2 =>
  gd ((0 : Int) ≤ k_ ∧ (0 : Int) ≤ w64 (k2 - 1)) <|
  Option.bind (idx s_2 (k_ + (w64 (k2 - 1)))) fun s__e3 =>
  Option.bind (tries_sorted_1 s__e2 s__e3) fun r_1 =>
  bif !r_1 then (
   gd ((0 : Int) ≤ k_ ∧ (0 : Int) ≤ k2) <|
   Option.bind (idx s_2 (k_ + k2)) fun s__e4 =>
   Option.bind (idx s_2 k_2) fun s__e5 =>
   slices_CompactFuncW_int_int_J6 k2 (s_2.set k_2.toNat s__e4) (w64 (k_2 + 1)))
  else (
   slices_CompactFuncW_int_int_J6 k2 s_2 k_2))
 else (
  some (.done (s_2, k_2)))
def slices_CompactFuncW_int_int_L2 (s_ : List (List Int)) (k_ : Int) : Option (LR Int (Unit ⊕ List (List Int))) :=
 bif decide (k_ < ((s_.length : Nat) : Int)) then (
  Option.bind (idx s_ k_) fun s__e =>
  Option.bind (idx s_ (w64 (k_ - 1))) fun s__e1 =>
  Option.bind (tries_sorted_1 s__e s__e1) fun r_ =>
  bif r_ then (
   gd ((0 : Int) ≤ k_ ∧ (k_ : Int) ≤ ((s_.length : Nat) : Int)) <|
   Option.bind (loop (fun s => slices_CompactFuncW_int_int_L5 k_ s.1 s.2.1 s.2.2) (s_, k_, 1)) fun t5 =>
   slices_CompactFuncW_int_int_J4 t5.1 t5.2)
  else (
   slices_CompactFuncW_int_int_J3 k_))
 else (
  some (.done (.inl ())))
def slices_CompactFuncW_int_int (s_ : List (List Int)) (eq : Unit) : Option (List (List Int)) :=
 bif decide (((s_.length : Nat) : Int) < 2) then (
  some s_)
 else (
  Option.bind (loop (fun s => slices_CompactFuncW_int_int_L2 s_ s) 1) fun t2 =>
  match t2 with
  | .inl p => slices_CompactFuncW_int_int_J1 s_
  | .inr p => some p)
def slices_ClipW_int_int_v1 (s_ : List (List Int)) : Option (List (List Int)) :=
 some s_
def tries_sorted_J1 (out : List (List Int × Bool)) : Option (List (List Int) × Int) :=
 gd (∀ q ∈ out, q.2 = true) <|
 some ((out.map (·.1)), 0)
def tries_sorted_L2 (r_2 : List (List Int)) (out2 : List (List Int × Bool)) (x24 : Int) : Option (LR ((List (List Int × Bool)) × Int) ((List (List Int × Bool)))) :=
 bif decide (x24 < ((r_2.length - (0 : Int).toNat : Nat) : Int)) then (
  gd ((0 : Int) ≤ 0 ∧ (0 : Int) ≤ x24) <|
  Option.bind (idx out2 (0 + x24)) fun out_e =>
  Option.bind (slices_Clone_int_int out_e.1) fun r_4 =>
  Option.bind (slices_Clip_int_int r_4) fun r_5 =>
  Option.bind (idx out2 x24) fun out_e1 =>
  some (.next ((out2.set x24.toNat (r_5, true)), w64 (x24 + 1))))
 else (
  some (.done out2))
def tries_sorted (l_ : List (List Int)) : Option (List (List Int) × Int) :=
 Option.bind (slices_CloneW_int_int l_) fun r_ =>
 Option.bind (sortF (fun x y => words_Compare x y) r_) fun sorted =>
 Option.bind (slices_CompactFuncW_int_int sorted ()) fun r_1 =>
 Option.bind (slices_ClipW_int_int_v1 r_1) fun r_2 =>
 bif decide (((r_2.length : Nat) : Int) > 4096) then (
  some (([] : List (List Int)), 3))
 else (
  Option.bind (tries_steps r_2) fun r_3 =>
  bif decide (r_3 > 65536) then (
   some (([] : List (List Int)), 3))
  else (
   Option.bind (loop (fun s => tries_sorted_L2 r_2 s.1 s.2) ((r_2.map fun q => (q, false)), 0)) fun t2 =>
   tries_sorted_J1 t2))
def tries_Sort (l_ : List (List Int)) (inputs : Int) : Option (List (List Int) × Int) :=
 Option.bind (tries_loose l_ inputs) fun r_ =>
 bif r_ != 0 then (
  some (([] : List (List Int)), r_))
 else (
  Option.bind (tries_sorted l_) fun r_1 =>
  some (r_1.1, r_1.2))
def tries_collect_J1 (out : List (List Int)) : Option (List (List Int)) :=
 Option.bind (slices_ClipW_int_int_v4 out) fun r_ =>
 some r_
def tries_collect_I2 (nodes : List S_tries_Node) (out1 : List (List Int)) (x8 : S_tries_place) : Option (LR (List (List Int)) Empty) :=
 Option.bind (idx nodes x8.at_) fun node_e =>
 Option.bind (tries_leaf node_e) fun r_2 =>
 bif r_2 then (
  Option.bind (slices_Clone_int_int x8.w_) fun r_3 =>
  Option.bind (slices_Clip_int_int r_3) fun r_4 =>
  gd (out1.length + ([r_4] : List (List Int)).length ≤ 4294967296) <|
  some (.next (out1 ++ ([r_4] : List (List Int)))))
 else (
  some (.next out1))
def tries_collect (nodes : List S_tries_Node) (is : Unit) : Option (List (List Int)) :=
 Option.bind (tries_walk nodes) fun r_1 =>
 Option.bind (tries_walk_1 r_1 (yOf (fun s x => tries_collect_I2 nodes s x)) (.next ([] : List (List Int)))) fun t2 =>
 match t2 with
 | .next out1 => (
  tries_collect_J1 out1)
 | .done z => nomatch z
def tries_Reduce (l_ : List (List Int)) (inputs : Int) : Option (List (List Int) × Int) :=
 Option.bind (tries_Check l_ inputs) fun r_ =>
 bif r_ != 0 then (
  some (([] : List (List Int)), r_))
 else (
  Option.bind (tries_of l_ inputs) fun r_1 =>
  Option.bind (tries_collect r_1.nodes_ ()) fun r_2 =>
  some (r_2, 0))
def tries_Prefixes_1 (x0 : S_tries_Node) : Option Bool :=
 some true
def tries_collect_v5_J1 (out : List (List Int)) : Option (List (List Int)) :=
 Option.bind (slices_ClipW_int_int_v4 out) fun r_ =>
 some r_
def tries_collect_v5_I2 (nodes : List S_tries_Node) (out1 : List (List Int)) (x8 : S_tries_place) : Option (LR (List (List Int)) Empty) :=
 Option.bind (idx nodes x8.at_) fun node_e =>
 Option.bind (tries_Prefixes_1 node_e) fun r_2 =>
 bif r_2 then (
  Option.bind (slices_Clone_int_int x8.w_) fun r_3 =>
  Option.bind (slices_Clip_int_int r_3) fun r_4 =>
  gd (out1.length + ([r_4] : List (List Int)).length ≤ 4294967296) <|
  some (.next (out1 ++ ([r_4] : List (List Int)))))
 else (
  some (.next out1))
def tries_collect_v5 (nodes : List S_tries_Node) (is : Unit) : Option (List (List Int)) :=
 Option.bind (tries_walk nodes) fun r_1 =>
 Option.bind (tries_walk_1 r_1 (yOf (fun s x => tries_collect_v5_I2 nodes s x)) (.next ([] : List (List Int)))) fun t2 =>
 match t2 with
 | .next out1 => (
  tries_collect_v5_J1 out1)
 | .done z => nomatch z
def tries_valid (l_ : List (List Int)) : Option (List (List Int) × Int) :=
 bif decide (((l_.length : Nat) : Int) > 4096) then (
  some (([] : List (List Int)), 3))
 else (
  Option.bind (tries_steps l_) fun r_ =>
  bif decide (r_ > 65536) then (
   some (([] : List (List Int)), 3))
  else (
   some (l_, 0)))
def tries_Prefixes (l_ : List (List Int)) (inputs : Int) : Option (List (List Int) × Int) :=
 Option.bind (tries_Check l_ inputs) fun r_ =>
 bif r_ != 0 then (
  some (([] : List (List Int)), r_))
 else (
  Option.bind (tries_of l_ inputs) fun r_1 =>
  bif decide (((r_1.nodes_.length : Nat) : Int) > 4096) then (
   some (([] : List (List Int)), 3))
  else (
   Option.bind (tries_collect_v5 r_1.nodes_ ()) fun r_2 =>
   Option.bind (tries_valid r_2) fun r_3 =>
   some (r_3.1, r_3.2)))
def tries_both_J1 : Option Int :=
 some 0
def tries_both_L2 (inputs : Int) (l_ : List (List (List Int))) (x10 : Int) : Option (LR Int (Unit ⊕ Int)) :=
 bif decide (x10 < ((l_.length : Nat) : Int)) then (
  Option.bind (idx l_ x10) fun l__e =>
  Option.bind (tries_Check l__e inputs) fun r_ =>
  bif r_ != 0 then (
   some (.done (.inr r_)))
  else (
   some (.next (w64 (x10 + 1)))))
 else (
  some (.done (.inl ())))
def tries_both (inputs : Int) (l_ : List (List (List Int))) : Option Int :=
 Option.bind (loop (fun s => tries_both_L2 inputs l_ s) 0) fun t2 =>
 match t2 with
 | .inl p => tries_both_J1
 | .inr p => some p
def tries_key_J1 (b_ : List Int) : Option (List UInt8) :=
 some (u8s b_)
def tries_key_L2 (w_ : List Int) (b_1 : List Int) (x11 : Int) : Option (LR (List Int × Int) (List Int)) :=
 bif decide (x11 < ((w_.length : Nat) : Int)) then (
  Option.bind (idx w_ x11) fun w__e =>
  Option.bind (idx b_1 x11) fun b__e =>
  some (.next ((b_1.set x11.toNat (IntKind.u8.wrap (w__e))), w64 (x11 + 1))))
 else (
  some (.done b_1))
def tries_key (w_ : List Int) : Option (List UInt8) :=
 gd ((0 : Int) ≤ ((w_.length : Nat) : Int) ∧ (((w_.length : Nat) : Int) : Int) ≤ 4294967296) <|
 Option.bind (loop (fun s => tries_key_L2 w_ s.1 s.2) ((List.replicate ((w_.length : Nat) : Int).toNat (0 : Int)), 0)) fun t2 =>
 tries_key_J1 t2
def tries_Concat_J1 (out : List (List Int)) : Option (List (List Int) × Int) :=
 Option.bind (tries_sorted out) fun r_1 =>
 some (r_1.1, r_1.2)
def tries_Concat_J3 (x29 : Int) (seen1 : List ((List UInt8) × Bool)) (n_1 : Int) (out2 : List (List Int)) : Option (LR ((List ((List UInt8) × Bool)) × Int × List (List Int) × Int) (List (List Int) ⊕ (List (List Int) × Int))) :=
 some (.next (seen1, n_1, out2, w64 (x29 + 1)))
def tries_Concat_J5 (x35 : Int) (seen3 : List ((List UInt8) × Bool)) (n_3 : Int) (out4 : List (List Int)) : Option (LR ((List ((List UInt8) × Bool)) × Int × List (List Int) × Int) (((List ((List UInt8) × Bool)) × Int × List (List Int)) ⊕ (List (List Int) × Int))) :=
 bif decide (((out4.length : Nat) : Int) > 4096) then (
  some (.done (.inr (([] : List (List Int)), 3))))
 else (
  bif decide (n_3 > 65536) then (
   some (.done (.inr (([] : List (List Int)), 3))))
  else (
   some (.next (seen3, n_3, out4, w64 (x35 + 1)))))
def tries_Concat_L4 (b_ : List (List Int)) (a__e : List Int) (seen2 : List ((List UInt8) × Bool)) (n_2 : Int) (out3 : List (List Int)) (x35 : Int) : Option (LR ((List ((List UInt8) × Bool)) × Int × List (List Int) × Int) (((List ((List UInt8) × Bool)) × Int × List (List Int)) ⊕ (List (List Int) × Int))) :=
 bif decide (x35 < ((b_.length : Nat) : Int)) then (
  Option.bind (idx b_ x35) fun b__e =>
  Option.bind (slices_Clip_int_int a__e) fun r_2 =>
  gd (r_2.length + b__e.length ≤ 4294967296) <|
  bif decide ((((r_2 ++ b__e).length : Nat) : Int) > 256) then (
   some (.done (.inr (([] : List (List Int)), 3))))
  else (
   Option.bind (tries_key (r_2 ++ b__e)) fun r_3 =>
   Option.bind (some ((mget seen2 r_3).getD false)) fun val =>
   bif !val then (
    gd (out3.length + ([(r_2 ++ b__e)] : List (List Int)).length ≤ 4294967296) <|
    tries_Concat_J5 x35 (mset seen2 r_3 true) (w64 (n_2 + (((r_2 ++ b__e).length : Nat) : Int))) (out3 ++ ([(r_2 ++ b__e)] : List (List Int))))
   else (
    tries_Concat_J5 x35 seen2 n_2 out3)))
 else (
  some (.done (.inl (seen2, n_2, out3))))
def tries_Concat_L2 (a_ : List (List Int)) (b_ : List (List Int)) (seen : List ((List UInt8) × Bool)) (n_ : Int) (out1 : List (List Int)) (x29 : Int) : Option (LR ((List ((List UInt8) × Bool)) × Int × List (List Int) × Int) (List (List Int) ⊕ (List (List Int) × Int))) :=
 bif decide (x29 < ((a_.length : Nat) : Int)) then (
  Option.bind (idx a_ x29) fun a__e =>
  Option.bind (loop (fun s => tries_Concat_L4 b_ a__e s.1 s.2.1 s.2.2.1 s.2.2.2) (seen, n_, out1, 0)) fun t4 =>
  match t4 with
  | .inl p => tries_Concat_J3 x29 p.1 p.2.1 p.2.2
  | .inr p => some (.done (.inr p)))
 else (
  some (.done (.inl out1)))
def tries_Concat (a_ : List (List Int)) (b_ : List (List Int)) (inputs : Int) : Option (List (List Int) × Int) :=
 Option.bind (tries_both inputs ([a_, b_])) fun r_ =>
 bif r_ != 0 then (
  some (([] : List (List Int)), r_))
 else (
  Option.bind (loop (fun s => tries_Concat_L2 a_ b_ s.1 s.2.1 s.2.2.1 s.2.2.2) (([] : List ((List UInt8) × Bool)), 0, ([] : List (List Int)), 0)) fun t2 =>
  match t2 with
  | .inl p => tries_Concat_J1 p
  | .inr p => some p)
def tries_all_J2 (k_ : Int) (out1 : List (List Int)) (level1 : List (List Int)) (n_1 : Int) (x45 : Int) (x46 : Bool) (x58 : Bool) : Option (LR (List (List Int) × List (List Int) × Int × Int) ((List (List Int) × Int))) :=
 some (.next (out1, level1, n_1, w64 (k_ + 1)))
def tries_all_J5 (k_ : Int) (out2 : List (List Int)) (n_2 : Int) (x581 : Bool) (next : List (List Int)) : Option (LR (List (List Int) × List (List Int) × Int × Int) ((List (List Int) × Int))) :=
 tries_all_J2 k_ out2 next n_2 n_2 (decide (n_2 > 65536)) x581
def tries_all_J7 (x69 : Int) (next2 : List (List Int)) : Option (LR (List (List Int) × Int) (List (List Int))) :=
 some (.next (next2, w64 (x69 + 1)))
def tries_all_L8 (inputs : Int) (level_e : List Int) (next3 : List (List Int)) (x74 : Int) : Option (LR (List (List Int) × Int) (List (List Int))) :=
 bif decide (x74 < inputs) then (
  Option.bind (slices_Clip_int_int level_e) fun r_1 =>
  gd (r_1.length + ([x74] : List Int).length ≤ 4294967296) <|
  gd (next3.length + ([(r_1 ++ ([x74] : List Int))] : List (List Int)).length ≤ 4294967296) <|
  some (.next ((next3 ++ ([(r_1 ++ ([x74] : List Int))] : List (List Int))), w64 (x74 + 1))))
 else (
  some (.done next3))
def tries_all_L6 (inputs : Int) (level : List (List Int)) (next1 : List (List Int)) (x69 : Int) : Option (LR (List (List Int) × Int) (List (List Int))) :=
 bif decide (x69 < ((level.length : Nat) : Int)) then (
  Option.bind (idx level x69) fun level_e =>
  Option.bind (loop (fun s => tries_all_L8 inputs level_e s.1 s.2) (next1, 0)) fun t8 =>
  tries_all_J7 x69 t8)
 else (
  some (.done next1))
def tries_all_J4 (inputs : Int) (to : Int) (level : List (List Int)) (k_ : Int) (out2 : List (List Int)) (n_2 : Int) (x581 : Bool) : Option (LR (List (List Int) × List (List Int) × Int × Int) ((List (List Int) × Int))) :=
 bif k_ == to then (
  Option.bind (tries_sorted out2) fun r_ =>
  some (.done (r_.1, r_.2)))
 else (
  Option.bind (loop (fun s => tries_all_L6 inputs level s.1 s.2) (([] : List (List Int)), 0)) fun t6 =>
  tries_all_J5 k_ out2 n_2 x581 t6)
def tries_all_J3 (inputs : Int) (to : Int) (level : List (List Int)) (k_ : Int) (out2 : List (List Int)) (n_2 : Int) : Option (LR (List (List Int) × List (List Int) × Int × Int) ((List (List Int) × Int))) :=
 bif decide (((out2.length : Nat) : Int) > 4096) then (
  some (.done (([] : List (List Int)), 3)))
 else (
  bif decide (n_2 > 65536) then (
   some (.done (([] : List (List Int)), 3)))
  else (
   bif decide (k_ < to) then (
    bif decide ((w64 (((level.length : Nat) : Int) * inputs)) > 4096) then (
     some (.done (([] : List (List Int)), 3)))
    else (
     tries_all_J4 inputs to level k_ out2 n_2 (decide ((w64 (((level.length : Nat) : Int) * inputs)) > 4096))))
   else (
    tries_all_J4 inputs to level k_ out2 n_2 false)))
def tries_all_L1 (inputs : Int) (from_ : Int) (to : Int) (out : List (List Int)) (level : List (List Int)) (n_ : Int) (k_ : Int) : Option (LR (List (List Int) × List (List Int) × Int × Int) ((List (List Int) × Int))) :=
 bif decide (k_ ≥ from_) then (
  gd (out.length + level.length ≤ 4294967296) <|
  tries_all_J3 inputs to level k_ (out ++ level) (w64 (n_ + (w64 (k_ * ((level.length : Nat) : Int))))))
 else (
  tries_all_J3 inputs to level k_ out n_)
def tries_all (inputs : Int) (from_ : Int) (to : Int) : Option (List (List Int) × Int) :=
 bif decide (inputs > 16) then (
  some (([] : List (List Int)), 3))
 else (
  bif decide (inputs < 1) then (
   some (([] : List (List Int)), 1))
  else (
   bif decide (to < 0) then (
    some (([] : List (List Int)), 1))
   else (
    bif decide (to > 256) then (
     some (([] : List (List Int)), 3))
    else (
     Option.bind (loop (fun s => tries_all_L1 inputs from_ to s.1 s.2.1 s.2.2.1 s.2.2.2) (([] : List (List Int)), ([[]] : List (List Int)), 0, 0)) fun t1 =>
     some t1))))
def tries_Upto (inputs : Int) (k_ : Int) : Option (List (List Int) × Int) :=
 Option.bind (tries_all inputs 0 k_) fun r_ =>
 some (r_.1, r_.2)
def tries_Exact (inputs : Int) (k_ : Int) : Option (List (List Int) × Int) :=
 Option.bind (tries_all inputs k_ k_) fun r_ =>
 some (r_.1, r_.2)
def law12_lives : Option Bool :=
 Option.bind (law12_list ([[1, 0], [1], [0], [1]])) fun r_ =>
 Option.bind (tries_Sort r_ 2) fun r_1 =>
 Option.bind (law12_list ([[], [0], [1], [1, 0]])) fun r_2 =>
 Option.bind (tries_Reduce r_2 2) fun r_3 =>
 Option.bind (law12_list ([[1, 0]])) fun r_4 =>
 Option.bind (tries_Prefixes r_4 2) fun r_5 =>
 Option.bind (law12_list ([[], [0]])) fun r_6 =>
 Option.bind (law12_list ([[0], [1]])) fun r_7 =>
 Option.bind (tries_Concat r_6 r_7 2) fun r_8 =>
 bif r_1.2 != 0 then (
  some false)
 else (
  bif r_3.2 != 0 then (
   some false)
  else (
   bif r_5.2 != 0 then (
    some false)
   else (
    bif r_8.2 != 0 then (
     some false)
    else (
     Option.bind (law12_list ([[0], [1], [1, 0]])) fun r_9 =>
     Option.bind (law12_same r_1.1 r_9) fun r_10 =>
     bif !r_10 then (
      some false)
     else (
      Option.bind (law12_list ([[0], [1, 0]])) fun r_11 =>
      Option.bind (law12_same r_3.1 r_11) fun r_12 =>
      bif !r_12 then (
       some false)
      else (
       Option.bind (law12_list ([[], [1], [1, 0]])) fun r_13 =>
       Option.bind (law12_same r_5.1 r_13) fun r_14 =>
       bif !r_14 then (
        some false)
       else (
        Option.bind (law12_list ([[0], [1], [0, 0], [0, 1]])) fun r_15 =>
        Option.bind (law12_same r_8.1 r_15) fun r_16 =>
        bif !r_16 then (
         some false)
        else (
         Option.bind (tries_Upto 2 1) fun r_17 =>
         Option.bind (tries_Exact 2 2) fun r_18 =>
         Option.bind (tries_Upto 2 12) fun r_19 =>
         Option.bind (law12_list ([[0], [1, 0]])) fun r_20 =>
         Option.bind (tries_Of r_20 2) fun r_21 =>
         Option.bind (tries_Count r_21.1) fun r_22 =>
         bif r_17.2 != 0 then (
          some false)
         else (
          bif r_18.2 != 0 then (
           some false)
          else (
           bif r_19.2 != 3 then (
            some false)
           else (
            bif r_21.2 != 0 then (
             some false)
            else (
             bif r_22.2 != 0 then (
              some false)
             else (
              bif r_22.1 != 2 then (
               some false)
              else (
               Option.bind (law12_list ([[], [0], [1]])) fun r_23 =>
               Option.bind (law12_same r_17.1 r_23) fun r_24 =>
               bif !r_24 then (
                some false)
               else (
                Option.bind (law12_list ([[0, 0], [0, 1], [1, 0], [1, 1]])) fun r_25 =>
                Option.bind (law12_same r_18.1 r_25) fun r_26 =>
                bif !r_26 then (
                 some false)
                else (
                 Option.bind (ref12_Equal r_21.1 (S_tries_Trie.mk 2 ([(S_tries_Node.mk ([1, 2]) false), (S_tries_Node.mk ([(-1), (-1)]) true), (S_tries_Node.mk ([3, (-1)]) false), (S_tries_Node.mk ([(-1), (-1)]) true)]))) fun r_27 =>
                 bif !r_27 then (
                  some false)
                 else (
                  Option.bind (law12_list ([[1], [0]])) fun r_28 =>
                  Option.bind (tries_Check r_28 2) fun r_29 =>
                  bif r_29 == 1 then (
                   Option.bind (law12_list ([[0], [2]])) fun r_30 =>
                   Option.bind (tries_Check r_30 2) fun r_31 =>
                   bif r_31 == 1 then (
                    Option.bind (tries_Check [] 0) fun r_32 =>
                    bif r_32 == 1 then (
                     Option.bind (tries_Check [] 17) fun r_33 =>
                     some (r_33 == 3))
                    else (
                     some false))
                   else (
                    some false))
                  else (
                   some false))))))))))))))))))
def law12_TriesTrie (x_ : S_law12_L) : Option Bool :=
 Option.bind (law12_L_Of x_) fun r_ =>
 gd ((0 : Int) ≤ (mn ((r_.length : Nat) : Int) 20) ∧ ((mn ((r_.length : Nat) : Int) 20) : Int) ≤ ((r_.length : Nat) : Int)) <|
 Option.bind (law12_L_Alphabet x_) fun r_1 =>
 Option.bind (tries_Of (r_.take (mn ((r_.length : Nat) : Int) 20).toNat) r_1) fun r_2 =>
 bif r_2.2 != 0 then (
  some false)
 else (
  Option.bind (ref12_Trie (r_.take (mn ((r_.length : Nat) : Int) 20).toNat) r_1) fun r_3 =>
  Option.bind (ref12_Equal r_2.1 r_3) fun r_4 =>
  bif !r_4 then (
   some false)
  else (
   bif ((r_2.1.Nodes.length : Nat) : Int) != ((r_2.1.Nodes.length : Nat) : Int) then (
    some false)
   else (
    Option.bind (tries_Words r_2.1) fun r_5 =>
    Option.bind (tries_Count r_2.1) fun r_6 =>
    bif r_5.2 == 0 then (
     bif r_6.2 == 0 then (
      Option.bind (law12_same r_5.1 (r_.take (mn ((r_.length : Nat) : Int) 20).toNat)) fun r_7 =>
      bif r_7 then (
       Option.bind (ref12_Reduce (r_.take (mn ((r_.length : Nat) : Int) 20).toNat)) fun r_8 =>
       bif r_6.1 == ((r_8.length : Nat) : Int) then (
        Option.bind (law12_lives) fun r_9 =>
        some r_9)
       else (
        some false))
      else (
       some false))
     else (
      some false))
    else (
     some false))))
abbrev F0_ := eSl 1 false (eI .u8)
abbrev F1_ := eSl 1 true (eI .i64)
abbrev F2_ := eOs 1 true (eI .i64)
abbrev F3_ := eOs 1 false (eI .i64)
abbrev F4_ := eSl 1 false (eI .i64)
abbrev F5_ := eSl 1 true F1_
abbrev F6_ := eSl 1 false F0_
abbrev F7_ := eSl 1 false F1_
abbrev F8_ := eOs 1 true F4_
abbrev F9_ := eOs 1 false F4_
abbrev F10_ := eSl 1 false F4_
abbrev F11_ := e_tries_Node F2_ eB
abbrev F12_ := e_tries_Node F1_ eB
abbrev F13_ := e_tries_Node F4_ eB
abbrev F14_ := e_tries_Node F3_ eB
abbrev F15_ := e_tries_place (eI .i64) F1_
abbrev F16_ := e_tries_place (eI .i64) F4_
abbrev F17_ := eOs 2 false F11_
abbrev F18_ := eSl 2 true F13_
abbrev F19_ := eSl 2 false F13_
abbrev F20_ := eOs 2 false F14_
abbrev F21_ := e_law12_L (eI .u8) F6_
abbrev F22_ := eSp F19_
abbrev F23_ := e_tries_Trie (eI .i64) F18_
abbrev F24_ := e_tries_Trie (eI .i64) F19_
abbrev F25_ := e_tries_builder (eI .i64) F17_
abbrev F26_ := e_tries_builder (eI .i64) F20_
abbrev F27_ := e_tries_builder (eI .i64) F19_
abbrev F28_ := eBx F25_
abbrev F29_ := eBx F26_
def rpN {α : Type _} (n : Nat) (a : α) (l : List α) : List α := Nat.rec l (fun _ r => a :: r) n
abbrev aLn (n : Nat) : H := .a (.atom (.int .i64 ((n : Nat) : Int)))
abbrev bT : H := .b true
abbrev bF : H := .b false
abbrev oT : Ob := ob (Eq.refl true)
abbrev oF : Ob := ob (Eq.refl false)
end Go.Own

namespace Go.Proofs
open Go.Shelf
def Try.so77_ren : Go.Shelf.Ren := ⟨fun | 6 => 77 | 15 => 90 | 14 => 89 | 28 => 104 | 29 => 105 | 20 => 96 | 21 => 97 | 22 => 98 | 23 => 99 | 24 => 100 | 25 => 101 | 26 => 102 | 27 => 103 | 46 => 107 | 47 => 108 | 48 => 109 | 49 => 110 | 50 => 111 | 57 => 112 | n => n, fun | 22 => 22 | 24 => 52 | 25 => 82 | 3 => 3 | 39 => 111 | 0 => 0 | 53 => 123 | 55 => 125 | 4 => 4 | 46 => 117 | 45 => 116 | 50 => 106 | 5 => 5 | 9 => 9 | 66 => 126 | 70 => 130 | 76 => 132 | 77 => 133 | n => n, fun | n => n⟩
theorem Try.so77 : Go.Proofs.SlLaysF0.n6 Try.prog Try.so77_ren := {
 mixed := by kernel_rfl
 f6 := ⟨Try.f77.name, by decide, Try.func77.trans (congrArg some (by kernel_rfl))⟩
 f14 := ⟨Try.f89.name, by decide, Try.func89.trans (congrArg some (by kernel_rfl))⟩
 f15 := Try.func90.trans (congrArg some (by kernel_rfl))
 f20 := ⟨Try.f96.name, by decide, Try.func96.trans (congrArg some (by kernel_rfl))⟩
 f21 := ⟨Try.f97.name, by decide, Try.func97.trans (congrArg some (by kernel_rfl))⟩
 f22 := ⟨Try.f98.name, by decide, Try.func98.trans (congrArg some (by kernel_rfl))⟩
 f23 := ⟨Try.f99.name, by decide, Try.func99.trans (congrArg some (by kernel_rfl))⟩
 f24 := ⟨Try.f100.name, by decide, Try.func100.trans (congrArg some (by kernel_rfl))⟩
 f25 := ⟨Try.f101.name, by decide, Try.func101.trans (congrArg some (by kernel_rfl))⟩
 f26 := ⟨Try.f102.name, by decide, Try.func102.trans (congrArg some (by kernel_rfl))⟩
 f27 := ⟨Try.f103.name, by decide, Try.func103.trans (congrArg some (by kernel_rfl))⟩
 f28 := Try.func104.trans (congrArg some (by kernel_rfl))
 f29 := Try.func105.trans (congrArg some (by kernel_rfl))
 f46 := ⟨Try.f107.name, by decide, Try.func107.trans (congrArg some (by kernel_rfl))⟩
 f47 := Try.func108.trans (congrArg some (by kernel_rfl))
 f48 := Try.func109.trans (congrArg some (by kernel_rfl))
 f49 := ⟨Try.f110.name, by decide, Try.func110.trans (congrArg some (by kernel_rfl))⟩
 f50 := ⟨Try.f111.name, by decide, Try.func111.trans (congrArg some (by kernel_rfl))⟩
 f57 := ⟨Try.f112.name, by decide, Try.func112.trans (congrArg some (by kernel_rfl))⟩
 t0 := Try.underlying0
 a0 := Try.isAgg0
 z0 := Try.sizeOf0
 v0 := Try.zeroValue0
 t3 := Try.underlying3
 a3 := Try.isAgg3
 z3 := Try.sizeOf3
 v3 := Try.zeroValue3
 t4 := Try.underlying4
 a4 := Try.isAgg4
 z4 := Try.sizeOf4
 v4 := Try.zeroValue4
 t5 := Try.underlying5
 a5 := Try.isAgg5
 z5 := Try.sizeOf5
 v5 := Try.zeroValue5
 t9 := Try.underlying9
 a9 := Try.isAgg9
 z9 := Try.sizeOf9
 v9 := Try.zeroValue9
 t22 := Try.underlying22
 a22 := Try.isAgg22
 z22 := Try.sizeOf22
 v22 := Try.zeroValue22
 t25 := Try.underlying82
 a25 := Try.isAgg82
 z25 := Try.sizeOf82
 v25 := Try.zeroValue82
 t39 := Try.underlying111
 a39 := Try.isAgg111
 z39 := Try.sizeOf111
 v39 := Try.zeroValue111
 t45 := Try.underlying116
 a45 := Try.isAgg116
 z45 := Try.sizeOf116
 v45 := Try.zeroValue116
 t46 := Try.underlying117
 a46 := Try.isAgg117
 z46 := Try.sizeOf117
 v46 := Try.zeroValue117
 t50 := Try.underlying106
 a50 := Try.isAgg106
 z50 := Try.sizeOf106
 v50 := Try.zeroValue106
 t53 := Try.underlying123
 a53 := Try.isAgg123
 z53 := Try.sizeOf123
 v53 := Try.zeroValue123
 t55 := Try.underlying125
 a55 := Try.isAgg125
 z55 := Try.sizeOf125
 v55 := Try.zeroValue125
 t66 := Try.underlying126
 a66 := Try.isAgg126
 z66 := Try.sizeOf126
 v66 := Try.zeroValue126
 t70 := Try.underlying130
 a70 := Try.isAgg130
 z70 := Try.sizeOf130
 v70 := Try.zeroValue130
 t76 := Try.underlying132
 a76 := Try.isAgg132
 z76 := Try.sizeOf132
 v76 := Try.zeroValue132
 t77 := Try.underlying133
 a77 := Try.isAgg133
 z77 := Try.sizeOf133
 v77 := Try.zeroValue133 }
end Go.Proofs
