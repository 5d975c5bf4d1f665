/- The types that the code names, and that the program has them so. Printed by a program of the prover's. -/
import Derived.Test.YtdnenbcldibnoaaOwnF
import Derived.Test.YtdnenbcldibnoaaProg
import Derived.Test.YtdnenbcldibnoaaExTy
namespace Go.Own
open Go.Proofs

def intV : Value → Bool
  | .int _ _ => true
  | _ => false
theorem fitZ_ints : ∀ {z vs us : List Value} {r : Bool}, z.all intV = true → z.length = vs.length → eqVals vs us = some r → Go.Ex.fitZ z vs = true ∧ Go.Ex.eqVals vs us = some r
  | [], [], us, r, _, _, h => by
    cases us with
    | nil => simp only [eqVals, Option.some.injEq] at h; subst h; exact ⟨rfl, rfl⟩
    | cons u us => simp [eqVals] at h
  | a :: z, v :: vs, us, r, hz, hl, h => by
    have q : ∃ k x u' k' y, v = .int k x ∧ us = .int k' y :: u' ∧ k = k' := by
      cases us with
      | nil => cases v <;> simp [eqVals] at h
      | cons u us =>
        cases v <;> cases u <;> simp [eqVals] at h
        exact ⟨_, _, _, _, _, rfl, rfl, h.1⟩
    obtain ⟨k, x, u', k', y, rfl, rfl, hk⟩ := q
    simp only [eqVals, hk, if_true, Option.map_eq_some_iff] at h
    obtain ⟨r', e1, rfl⟩ := h
    simp only [List.all_cons, Bool.and_eq_true] at hz
    obtain ⟨q1, q2⟩ := fitZ_ints hz.2 (by simpa using hl) e1
    refine ⟨?_, by simp [Go.Ex.eqVals, hk, q2]⟩
    cases a <;> first | (simp [intV] at hz; done) | simpa [Go.Ex.fitZ] using q1
  | [], _ :: _, _, _, _, hl, _ => by simp at hl
  | _ :: _, [], _, _, _, hl, _ => by simp at hl
theorem eqOk_ex {P : Program} {t n : Nat} {i : Go.Ex.EI} (h : Go.Ex.EqOk P t i) {z : List Value} (hz : i.zero = some z) (hi : z.all intV = true) (hs : i.size = n) (hn : z.length = n) : EqOk P t n where
  guard := h.guard
  run := fun vs us r w hv hu he => by
    obtain ⟨q1, q2⟩ := fitZ_ints hi (by rw [hn, hv]) he
    exact h.run vs us r w (by rw [hs]; exact hv) (by rw [hs]; exact hu) (by simpa only [Go.Ex.fitE, hz] using q1) q2

theorem conc_atom {S : Still} {h : Array Obj} {v : Value} (hv : v.oneCell' = true) : Conc S h (.atom v) [v] [] := by simp only [Conc, Rep]; exact ⟨⟨trivial, hv⟩, trivial⟩
theorem conc_nil {S : Still} {h : Array Obj} (sz : Nat) : Conc S h (.osl sz true []) [.slice none 0 0] [] := by
  simp only [Conc]
  exact ⟨none, 0, rfl, fun _ => rfl, Nat.le_refl _, Nat.zero_le _, by simp, .inl ⟨trivial, rfl, rfl, trivial⟩⟩
theorem conc_agg {S : Still} {h : Array Obj} {fs : List A} {cs : List Value} (q : Concs S h fs cs []) : Conc S h (.agg fs) cs [] := by simpa only [Conc] using q
theorem concs_nil {S : Still} {h : Array Obj} : Concs S h [] [] [] := by simp [Concs]
theorem concs_app {S : Still} {h : Array Obj} {a : A} {fs : List A} {c1 c2 : List Value} (q1 : Conc S h a c1 []) (q2 : Concs S h fs c2 []) : Concs S h (a :: fs) (c1 ++ c2) [] := by simp only [Concs]; exact ⟨c1, c2, [], [], rfl, rfl, q1, q2⟩

def ti1 : TI := ⟨.other, 1, 8, none, false⟩
theorem ti1_ok : TIok Try.prog 1 ti1 := ⟨⟨Try.t1, by kernel_rfl, rfl, rfl, fun z h => by cases h⟩, ⟨_, Try.underlying1, rfl⟩, by intro h; cases h⟩
def ti2 : TI := ⟨.int .i64, 1, 8, some (.atom (.int .i64 0)), false⟩
theorem ti2_ok : TIok Try.prog 2 ti2 := ⟨⟨Try.t2, by kernel_rfl, rfl, rfl, fun z h => by cases h; exact ⟨_, rfl, rfl, fun S h => conc_atom rfl⟩⟩, Try.underlying2, by intro h; cases h⟩
def ti3 : TI := ⟨.int .i64, 1, 8, some (.atom (.int .i64 0)), false⟩
theorem ti3_ok : TIok Try.prog 3 ti3 := ⟨⟨Try.t3, by kernel_rfl, rfl, rfl, fun z h => by cases h; exact ⟨_, rfl, rfl, fun S h => conc_atom rfl⟩⟩, Try.underlying3, by intro h; cases h⟩
def ti4 : TI := ⟨.bool, 1, 1, some (.atom (.bool false)), false⟩
theorem ti4_ok : TIok Try.prog 4 ti4 := ⟨⟨Try.t4, by kernel_rfl, rfl, rfl, fun z h => by cases h; exact ⟨_, rfl, rfl, fun S h => conc_atom rfl⟩⟩, Try.underlying4, by intro h; cases h⟩
def ti5 : TI := ⟨.int .u8, 1, 1, some (.atom (.int .u8 0)), false⟩
theorem ti5_ok : TIok Try.prog 5 ti5 := ⟨⟨Try.t5, by kernel_rfl, rfl, rfl, fun z h => by cases h; exact ⟨_, rfl, rfl, fun S h => conc_atom rfl⟩⟩, Try.underlying5, by intro h; cases h⟩
def ti22 : TI := ⟨.slice 102, 1, 24, some (.osl 1 true []), false⟩
theorem ti22_ok : TIok Try.prog 22 ti22 := ⟨⟨Try.t22, by kernel_rfl, rfl, rfl, fun z h => by cases h; exact ⟨_, rfl, rfl, fun S h => conc_nil _⟩⟩, Try.underlying22, by intro h; cases h⟩
def ti24 : TI := ⟨.struct [(0, 1), (1, 1), (2, 1), (3, 1), (4, 1)], 5, 32, some (.agg [.atom (.int .u8 0), .atom (.int .u8 0), .atom (.int .u8 0), .atom (.bool false), .osl 1 true []]), false⟩
theorem ti24_ok : TIok Try.prog 24 ti24 := ⟨⟨Try.t24, by kernel_rfl, rfl, rfl, fun z h => by cases h; exact ⟨_, rfl, rfl, fun S h => conc_agg (concs_app (conc_atom rfl) (concs_app (conc_atom rfl) (concs_app (conc_atom rfl) (concs_app (conc_atom rfl) (concs_app (conc_nil _) (concs_nil))))))⟩⟩, ⟨_, Try.underlying24, by kernel_rfl, by
    intro f hf
    simp only [List.mem_cons, List.not_mem_nil, or_false] at hf
    rcases hf with rfl | rfl | rfl | rfl | rfl
    · exact ⟨Try.t5, by kernel_rfl⟩
    · exact ⟨Try.t5, by kernel_rfl⟩
    · exact ⟨Try.t5, by kernel_rfl⟩
    · exact ⟨Try.t4, by kernel_rfl⟩
    · exact ⟨Try.t22, by kernel_rfl⟩⟩, by intro h; cases h⟩
def ti25 : TI := ⟨.slice 5, 1, 24, some (.osl 1 true []), false⟩
theorem ti25_ok : TIok Try.prog 25 ti25 := ⟨⟨Try.t25, by kernel_rfl, rfl, rfl, fun z h => by cases h; exact ⟨_, rfl, rfl, fun S h => conc_nil _⟩⟩, Try.underlying25, by intro h; cases h⟩
def ti26 : TI := ⟨.slice 103, 1, 24, some (.osl 4 true []), false⟩
theorem ti26_ok : TIok Try.prog 26 ti26 := ⟨⟨Try.t26, by kernel_rfl, rfl, rfl, fun z h => by cases h; exact ⟨_, rfl, rfl, fun S h => conc_nil _⟩⟩, Try.underlying26, by intro h; cases h⟩
def ti28 : TI := ⟨.struct [(0, 1), (1, 1)], 2, 48, some (.agg [.osl 1 true [], .osl 4 true []]), false⟩
theorem ti28_ok : TIok Try.prog 28 ti28 := ⟨⟨Try.t28, by kernel_rfl, rfl, rfl, fun z h => by cases h; exact ⟨_, rfl, rfl, fun S h => conc_agg (concs_app (conc_nil _) (concs_app (conc_nil _) (concs_nil)))⟩⟩, ⟨_, Try.underlying28, by kernel_rfl, by
    intro f hf
    simp only [List.mem_cons, List.not_mem_nil, or_false] at hf
    rcases hf with rfl | rfl
    · exact ⟨Try.t25, by kernel_rfl⟩
    · exact ⟨Try.t26, by kernel_rfl⟩⟩, by intro h; cases h⟩
def ti29 : TI := ⟨.slice 25, 1, 24, some (.osl 1 true []), false⟩
theorem ti29_ok : TIok Try.prog 29 ti29 := ⟨⟨Try.t29, by kernel_rfl, rfl, rfl, fun z h => by cases h; exact ⟨_, rfl, rfl, fun S h => conc_nil _⟩⟩, Try.underlying29, by intro h; cases h⟩
def ti31 : TI := ⟨.struct [(0, 1), (1, 1)], 2, 32, some (.agg [.atom (.int .u8 0), .osl 1 true []]), false⟩
theorem ti31_ok : TIok Try.prog 31 ti31 := ⟨⟨Try.t31, by kernel_rfl, rfl, rfl, fun z h => by cases h; exact ⟨_, rfl, rfl, fun S h => conc_agg (concs_app (conc_atom rfl) (concs_app (conc_nil _) (concs_nil)))⟩⟩, ⟨_, Try.underlying31, by kernel_rfl, by
    intro f hf
    simp only [List.mem_cons, List.not_mem_nil, or_false] at hf
    rcases hf with rfl | rfl
    · exact ⟨Try.t5, by kernel_rfl⟩
    · exact ⟨Try.t29, by kernel_rfl⟩⟩, by intro h; cases h⟩
def ti32 : TI := ⟨.slice 98, 1, 24, some (.osl 1 true []), false⟩
theorem ti32_ok : TIok Try.prog 32 ti32 := ⟨⟨Try.t32, by kernel_rfl, rfl, rfl, fun z h => by cases h; exact ⟨_, rfl, rfl, fun S h => conc_nil _⟩⟩, Try.underlying32, by intro h; cases h⟩
def ti34 : TI := ⟨.struct [(0, 1), (1, 1), (2, 1)], 3, 40, some (.agg [.atom (.int .i64 0), .atom (.int .i64 0), .osl 1 true []]), false⟩
theorem ti34_ok : TIok Try.prog 34 ti34 := ⟨⟨Try.t34, by kernel_rfl, rfl, rfl, fun z h => by cases h; exact ⟨_, rfl, rfl, fun S h => conc_agg (concs_app (conc_atom rfl) (concs_app (conc_atom rfl) (concs_app (conc_nil _) (concs_nil))))⟩⟩, ⟨_, Try.underlying34, by kernel_rfl, by
    intro f hf
    simp only [List.mem_cons, List.not_mem_nil, or_false] at hf
    rcases hf with rfl | rfl | rfl
    · exact ⟨Try.t3, by kernel_rfl⟩
    · exact ⟨Try.t3, by kernel_rfl⟩
    · exact ⟨Try.t32, by kernel_rfl⟩⟩, by intro h; cases h⟩
def ti37 : TI := ⟨.slice 45, 1, 24, some (.osl 1 true []), false⟩
theorem ti37_ok : TIok Try.prog 37 ti37 := ⟨⟨Try.t37, by kernel_rfl, rfl, rfl, fun z h => by cases h; exact ⟨_, rfl, rfl, fun S h => conc_nil _⟩⟩, Try.underlying37, by intro h; cases h⟩
def ti40 : TI := ⟨.int .i64, 1, 8, some (.atom (.int .i64 0)), false⟩
theorem ti40_ok : TIok Try.prog 40 ti40 := ⟨⟨Try.t40, by kernel_rfl, rfl, rfl, fun z h => by cases h; exact ⟨_, rfl, rfl, fun S h => conc_atom rfl⟩⟩, Try.underlying40, by intro h; cases h⟩
def ti45 : TI := ⟨.slice 3, 1, 24, some (.osl 1 true []), false⟩
theorem ti45_ok : TIok Try.prog 45 ti45 := ⟨⟨Try.t45, by kernel_rfl, rfl, rfl, fun z h => by cases h; exact ⟨_, rfl, rfl, fun S h => conc_nil _⟩⟩, Try.underlying45, by intro h; cases h⟩
def ti67 : TI := ⟨.struct [(0, 1), (1, 1)], 2, 16, some (.agg [.atom (.int .i64 0), .atom (.int .i64 0)]), true⟩
theorem ti67_ok : TIok Try.prog 67 ti67 := ⟨⟨Try.t67, by kernel_rfl, rfl, rfl, fun z h => by cases h; exact ⟨_, rfl, rfl, fun S h => conc_agg (concs_app (conc_atom rfl) (concs_app (conc_atom rfl) (concs_nil)))⟩⟩, ⟨_, Try.underlying67, by kernel_rfl, by
    intro f hf
    simp only [List.mem_cons, List.not_mem_nil, or_false] at hf
    rcases hf with rfl | rfl
    · exact ⟨Try.t3, by kernel_rfl⟩
    · exact ⟨Try.t3, by kernel_rfl⟩⟩, fun _ => eqOk_ex (Go.Ex.i67_ok.eqn rfl) rfl rfl rfl rfl⟩
def ti98 : TI := ⟨.slice 67, 1, 24, some (.osl 2 true []), false⟩
theorem ti98_ok : TIok Try.prog 98 ti98 := ⟨⟨Try.t98, by kernel_rfl, rfl, rfl, fun z h => by cases h; exact ⟨_, rfl, rfl, fun S h => conc_nil _⟩⟩, Try.underlying98, by intro h; cases h⟩
def ti102 : TI := ⟨.int .u16, 1, 2, some (.atom (.int .u16 0)), false⟩
theorem ti102_ok : TIok Try.prog 102 ti102 := ⟨⟨Try.t102, by kernel_rfl, rfl, rfl, fun z h => by cases h; exact ⟨_, rfl, rfl, fun S h => conc_atom rfl⟩⟩, Try.underlying102, by intro h; cases h⟩
def ti103 : TI := ⟨.array 4 5, 4, 4, some (.agg [.atom (.int .u8 0), .atom (.int .u8 0), .atom (.int .u8 0), .atom (.int .u8 0)]), true⟩
theorem ti103_ok : TIok Try.prog 103 ti103 := ⟨⟨Try.t103, by kernel_rfl, rfl, rfl, fun z h => by cases h; exact ⟨_, rfl, rfl, fun S h => conc_agg (concs_app (conc_atom rfl) (concs_app (conc_atom rfl) (concs_app (conc_atom rfl) (concs_app (conc_atom rfl) (concs_nil)))))⟩⟩, Try.underlying103, fun _ => eqOk_ex (Go.Ex.i103_ok.eqn rfl) rfl rfl rfl rfl⟩
def ti106 : TI := ⟨.other, 1, 8, none, false⟩
theorem ti106_ok : TIok Try.prog 106 ti106 := ⟨⟨Try.t106, by kernel_rfl, rfl, rfl, fun z h => by cases h⟩, ⟨_, Try.underlying106, rfl⟩, by intro h; cases h⟩
def ti134 : TI := ⟨.slice 34, 1, 24, some (.osl 3 true []), false⟩
theorem ti134_ok : TIok Try.prog 134 ti134 := ⟨⟨Try.t134, by kernel_rfl, rfl, rfl, fun z h => by cases h; exact ⟨_, rfl, rfl, fun S h => conc_nil _⟩⟩, Try.underlying134, by intro h; cases h⟩
def ti151 : TI := ⟨.other, 1, 8, none, false⟩
theorem ti151_ok : TIok Try.prog 151 ti151 := ⟨⟨Try.t151, by kernel_rfl, rfl, rfl, fun z h => by cases h⟩, ⟨_, Try.underlying151, rfl⟩, by intro h; cases h⟩
def ti159 : TI := ⟨.other, 1, 8, none, false⟩
theorem ti159_ok : TIok Try.prog 159 ti159 := ⟨⟨Try.t159, by kernel_rfl, rfl, rfl, fun z h => by cases h⟩, ⟨_, Try.underlying159, rfl⟩, by intro h; cases h⟩
def ti185 : TI := ⟨.other, 1, 8, none, false⟩
theorem ti185_ok : TIok Try.prog 185 ti185 := ⟨⟨Try.t185, by kernel_rfl, rfl, rfl, fun z h => by cases h⟩, ⟨_, Try.underlying185, rfl⟩, by intro h; cases h⟩
def tiL : List (Nat × TI) := [(1, ti1), (2, ti2), (3, ti3), (4, ti4), (5, ti5), (22, ti22), (24, ti24), (25, ti25), (26, ti26), (28, ti28), (29, ti29), (31, ti31), (32, ti32), (34, ti34), (37, ti37), (40, ti40), (45, ti45), (67, ti67), (98, ti98), (102, ti102), (103, ti103), (106, ti106), (134, ti134), (151, ti151), (159, ti159), (185, ti185)]
def TTab : TT := fun t => (tiL.find? fun p => p.1 == t).map (·.2)

def AllOk (P : Program) : List (Nat × TI) → Prop
  | [] => True
  | p :: l => TIok P p.1 p.2 ∧ AllOk P l
theorem AllOk.mem {P : Program} : ∀ {l : List (Nat × TI)}, AllOk P l → ∀ p ∈ l, TIok P p.1 p.2
  | p :: _, h, q, hq => by
    rcases List.mem_cons.1 hq with rfl | hq
    · exact h.1
    · exact AllOk.mem h.2 q hq
  | [], _, _, hq => by cases hq

theorem tiL_ok : AllOk Try.prog tiL := ⟨ti1_ok, ti2_ok, ti3_ok, ti4_ok, ti5_ok, ti22_ok, ti24_ok, ti25_ok, ti26_ok, ti28_ok, ti29_ok, ti31_ok, ti32_ok, ti34_ok, ti37_ok, ti40_ok, ti45_ok, ti67_ok, ti98_ok, ti102_ok, ti103_ok, ti106_ok, ti134_ok, ti151_ok, ti159_ok, ti185_ok, trivial⟩
theorem TTab_ok : TTok Try.prog TTab := by
  intro t i h
  unfold TTab at h
  rw [Option.map_eq_some_iff] at h
  obtain ⟨p, h1, rfl⟩ := h
  have h2 := List.find?_some h1
  have h3 := tiL_ok.mem p (List.mem_of_find?_eq_some h1)
  rw [beq_iff_eq.1 h2] at h3
  exact h3

theorem TT_1 : TTab 1 = some ⟨.other, 1, 8, none, false⟩ := rfl
theorem TT_2 : TTab 2 = some ⟨.int .i64, 1, 8, some (.atom (.int .i64 0)), false⟩ := rfl
theorem TT_3 : TTab 3 = some ⟨.int .i64, 1, 8, some (.atom (.int .i64 0)), false⟩ := rfl
theorem TT_4 : TTab 4 = some ⟨.bool, 1, 1, some (.atom (.bool false)), false⟩ := rfl
theorem TT_5 : TTab 5 = some ⟨.int .u8, 1, 1, some (.atom (.int .u8 0)), false⟩ := rfl
theorem TT_22 : TTab 22 = some ⟨.slice 102, 1, 24, some (.osl 1 true []), false⟩ := rfl
theorem TT_24 : TTab 24 = some ⟨.struct [(0, 1), (1, 1), (2, 1), (3, 1), (4, 1)], 5, 32, some (.agg [.atom (.int .u8 0), .atom (.int .u8 0), .atom (.int .u8 0), .atom (.bool false), .osl 1 true []]), false⟩ := rfl
theorem TT_25 : TTab 25 = some ⟨.slice 5, 1, 24, some (.osl 1 true []), false⟩ := rfl
theorem TT_26 : TTab 26 = some ⟨.slice 103, 1, 24, some (.osl 4 true []), false⟩ := rfl
theorem TT_28 : TTab 28 = some ⟨.struct [(0, 1), (1, 1)], 2, 48, some (.agg [.osl 1 true [], .osl 4 true []]), false⟩ := rfl
theorem TT_29 : TTab 29 = some ⟨.slice 25, 1, 24, some (.osl 1 true []), false⟩ := rfl
theorem TT_31 : TTab 31 = some ⟨.struct [(0, 1), (1, 1)], 2, 32, some (.agg [.atom (.int .u8 0), .osl 1 true []]), false⟩ := rfl
theorem TT_32 : TTab 32 = some ⟨.slice 98, 1, 24, some (.osl 1 true []), false⟩ := rfl
theorem TT_34 : TTab 34 = some ⟨.struct [(0, 1), (1, 1), (2, 1)], 3, 40, some (.agg [.atom (.int .i64 0), .atom (.int .i64 0), .osl 1 true []]), false⟩ := rfl
theorem TT_37 : TTab 37 = some ⟨.slice 45, 1, 24, some (.osl 1 true []), false⟩ := rfl
theorem TT_40 : TTab 40 = some ⟨.int .i64, 1, 8, some (.atom (.int .i64 0)), false⟩ := rfl
theorem TT_45 : TTab 45 = some ⟨.slice 3, 1, 24, some (.osl 1 true []), false⟩ := rfl
theorem TT_67 : TTab 67 = some ⟨.struct [(0, 1), (1, 1)], 2, 16, some (.agg [.atom (.int .i64 0), .atom (.int .i64 0)]), true⟩ := rfl
theorem TT_98 : TTab 98 = some ⟨.slice 67, 1, 24, some (.osl 2 true []), false⟩ := rfl
theorem TT_102 : TTab 102 = some ⟨.int .u16, 1, 2, some (.atom (.int .u16 0)), false⟩ := rfl
theorem TT_103 : TTab 103 = some ⟨.array 4 5, 4, 4, some (.agg [.atom (.int .u8 0), .atom (.int .u8 0), .atom (.int .u8 0), .atom (.int .u8 0)]), true⟩ := rfl
theorem TT_106 : TTab 106 = some ⟨.other, 1, 8, none, false⟩ := rfl
theorem TT_134 : TTab 134 = some ⟨.slice 34, 1, 24, some (.osl 3 true []), false⟩ := rfl
theorem TT_151 : TTab 151 = some ⟨.other, 1, 8, none, false⟩ := rfl
theorem TT_159 : TTab 159 = some ⟨.other, 1, 8, none, false⟩ := rfl
theorem TT_185 : TTab 185 = some ⟨.other, 1, 8, none, false⟩ := rfl
attribute [go_sem] TT_1 TT_2 TT_3 TT_4 TT_5 TT_22 TT_24 TT_25 TT_26 TT_28 TT_29 TT_31 TT_32 TT_34 TT_37 TT_40 TT_45 TT_67 TT_98 TT_102 TT_103 TT_106 TT_134 TT_151 TT_159 TT_185

end Go.Own
