/- Arguments read: what they are, told in data. -/
import Derived.Test.YtdnenbcldibnoaaLawC
import Derived.OpenShut
import Derived.ChangeShapes
import Derived.Test.YtdnenbcldibnoaaProg
namespace Go.Own

/-- All cells that there are. -/
def allS (w : World) : Still := fun b o => cellAt w.heap b o

theorem cell_at {w : World} {a : Addr} {v : Value} (h : w.cell? a = some v) : a.spot = none ∧ cellAt w.heap a.block a.off = some v := by
  unfold World.cell? at h
  unfold cellAt
  split at h
  · rename_i c ty fr he
    rw [he]
    split at h
    · cases h
    · rename_i hs
      exact ⟨by simpa using hs, h⟩
  · cases h

section
variable {H : Type} {enc : TypeId × Value → H} {P : Program} {w : World} {base : Nat} {spare : Nat → Bool} {held : Bool}

theorem cells_lie {a : Addr} {n : Nat} {cs : List Value} (h : w.cells? base a n = some cs) (hn : 0 < n) : a.spot = none ∧ cs.length = n ∧ Lies (allS w) a.block a.off cs := by
  obtain ⟨_, h2, h3⟩ := World.cells?_some h
  have h0 : a.spot = none := by
    have h4 := h3 0 hn
    cases hc : cs[0]? with
    | none => rw [List.getElem?_eq_none_iff] at hc; omega
    | some v =>
      rw [hc] at h4
      have := (cell_at h4).1
      simpa [Addr.add] using this
  refine ⟨h0, h2, fun j v hj => ?_⟩
  have hlt := (List.getElem?_eq_some_iff.1 hj).1
  have h4 := h3 j (by omega)
  rw [hj] at h4
  have q := (cell_at h4).2
  unfold Addr.add at q
  split at q
  · rename_i e; subst e; exact q
  · exact q

theorem reps_snoc {S : Still} : ∀ {bs : List A} {cs : List Value} {a : A} {c : List Value}, Reps S bs cs → Rep S a c → Reps S (bs ++ [a]) (cs ++ c)
  | [], cs, a, c, h1, h2 => by
    simp only [Reps] at h1
    subst h1
    simp only [List.nil_append, Reps]
    exact ⟨c, [], by simp, h2, rfl⟩
  | x :: bs, cs, a, c, h1, h2 => by
    simp only [Reps] at h1
    obtain ⟨c1, c2, rfl, r1, r2⟩ := h1
    simp only [List.cons_append, Reps]
    exact ⟨c1, c2 ++ c, by simp, r1, reps_snoc r2 h2⟩

theorem lies_app {S : Still} {b o : Nat} {c1 c2 : List Value} (h1 : Lies S b o c1) (h2 : Lies S b (o + c1.length) c2) : Lies S b o (c1 ++ c2) := by
  intro j v hj
  rcases Nat.lt_or_ge j c1.length with q | q
  · rw [List.getElem?_append_left q] at hj
    exact h1 j v hj
  · rw [List.getElem?_append_right q] at hj
    have := h2 _ _ hj
    rwa [show o + c1.length + (j - c1.length) = o + j by omega] at this

theorem slice_rep {α : Type} {t e sz : Nat} (f : α → A) (ok : α → Prop) (ht : P.underlying t = some (.slice e)) (hsz : P.cellsOf e = sz) (h0 : 0 < sz) (hf : ∀ a, (f a).size = sz)
    (hel : ∀ n cs x, DataW.trod enc P w base spare held n e cs = some x → ∃ a, ok a ∧ Rep (allS w) (f a) cs)
    {fuel : Nat} {cs : List Value} {x : DataW H × List MemPlace} (h : DataW.trod enc P w base spare held fuel t cs = some x) : ∃ l : List α, (∀ a ∈ l, ok a) ∧ Rep (allS w) (.sl sz false (l.map f)) cs := by
  rcases DataW.trod_slice ht h with ⟨rfl, _⟩ | ⟨a, len, cap, elems, rest, n, _, rfl, _, _, hlc, _, hlen, hall, _, _⟩
  · refine ⟨[], by simp, ?_⟩
    simp only [Rep, List.map_nil, List.length_nil]
    exact ⟨none, 0, rfl, by simp, Nat.le_refl _, by simp, .inl trivial⟩
  · have key : ∀ k, k ≤ len → ∃ (l : List α) (cells : List Value), l.length = k ∧ (∀ a ∈ l, ok a) ∧ Reps (allS w) (l.map f) cells ∧ cells.length = k * sz ∧ (0 < k → a.spot = none) ∧ Lies (allS w) a.block a.off cells := by
      intro k
      induction k with
      | zero => intro _; exact ⟨[], [], rfl, by simp, by simp [Reps], by simp, by simp, fun j v h => by simp at h⟩
      | succ k ih =>
        intro hk
        obtain ⟨l, cells, q1, q2, q3, q4, q5, q6⟩ := ih (by omega)
        have hk' := hall k (by omega)
        have hsome : elems[k]? = some elems[k] := List.getElem?_eq_getElem (by omega)
        rw [hsome, Option.bind_eq_some_iff, hsz] at hk'
        obtain ⟨c, hc, htr⟩ := hk'
        obtain ⟨y, hy, hr⟩ := hel _ _ _ htr
        obtain ⟨g1, g2, g3⟩ := cells_lie hc h0
        refine ⟨l ++ [y], cells ++ c, by simp [q1], ?_, ?_, ?_, ?_, ?_⟩
        · intro z hz
          rcases List.mem_append.1 hz with q | q
          · exact q2 z q
          · simp only [List.mem_cons, List.not_mem_nil, or_false] at q; subst q; exact hy
        · rw [List.map_append]; exact reps_snoc q3 hr
        · rw [List.length_append, q4, g2, Nat.succ_mul]
        · intro _
          rcases Nat.eq_zero_or_pos k with rfl | hk0
          · simpa [Addr.add] using g1
          · exact q5 hk0
        · refine lies_app q6 ?_
          rw [q4]
          unfold Addr.add at g3
          split at g3
          · rename_i e0
            rw [e0, Nat.add_zero]
            exact g3
          · exact g3
    obtain ⟨l, cells, q1, q2, q3, q4, q5, q6⟩ := key len (Nat.le_refl _)
    refine ⟨l, q2, ?_⟩
    simp only [Rep, List.length_map]
    refine ⟨some a, cap, by rw [q1], by simp, by omega, ?_, ?_⟩
    · intro y hy
      obtain ⟨z, _, rfl⟩ := List.mem_map.1 hy
      exact hf z
    · rcases Nat.eq_zero_or_pos len with rfl | hl
      · left; rw [List.length_eq_zero_iff.1 q1]; rfl
      · right
        refine ⟨a.block, a.off, cells, ?_, q3, q6⟩
        have := q5 hl
        obtain ⟨b, o, s⟩ := a
        simp only at this
        subst this
        rfl

theorem int_rep {t : Nat} {k : IntKind} {lo hi : Int} (ht : P.underlying t = some (.int k)) (hlo : k.min = lo) (hhi : k.max = hi) {fuel : Nat} {cs : List Value} {x : DataW H × List MemPlace} (h : DataW.trod enc P w base spare held fuel t cs = some x) :
    ∃ n : Int, (lo ≤ n ∧ n ≤ hi) ∧ cs = [.int k n] ∧ Rep (allS w) (.atom (.int k n)) cs := by
  obtain ⟨n, rfl, _, hw⟩ := DataW.trod_int ht h
  simp only [Lit.wf, Bool.and_eq_true, decide_eq_true_eq, hlo, hhi] at hw
  exact ⟨n, hw, rfl, by simp only [Rep]; exact ⟨trivial, rfl⟩⟩
theorem bool_rep {t : Nat} (ht : P.underlying t = some .bool) {fuel : Nat} {cs : List Value} {x : DataW H × List MemPlace} (h : DataW.trod enc P w base spare held fuel t cs = some x) :
    ∃ b : Bool, Rep (allS w) (.atom (.bool b)) cs := by
  obtain ⟨b, rfl, _⟩ := DataW.trod_bool ht h
  exact ⟨b, by simp only [Rep]; exact ⟨trivial, rfl⟩⟩

/-- The fields of a struct, one after the other. -/
def FieldsRep (enc : TypeId × Value → H) (P : Program) (w : World) (base : Nat) (spare : Nat → Bool) (held : Bool) (cs : List Value) : List Field → Nat → Prop
  | [], o => cs.drop o = []
  | f :: fs, o => f.offset = o ∧ (∃ n x, DataW.trod enc P w base spare held n f.type ((cs.drop o).take (P.cellsOf f.type)) = some x) ∧ FieldsRep enc P w base spare held cs fs (o + P.cellsOf f.type)

theorem struct_fields {t : Nat} {fs : List Field} (ht : P.underlying t = some (.struct ⟨fs⟩)) {fuel : Nat} {cs : List Value} {x : DataW H × List MemPlace} (h : DataW.trod enc P w base spare held fuel t cs = some x) :
    cs.length = P.cellsOf t ∧ ∀ (i : Nat) (f : Field), fs[i]? = some f → ∃ n y, DataW.trod enc P w base spare held n f.type ((cs.drop f.offset).take (P.cellsOf f.type)) = some y := by
  obtain ⟨xs, n, _, _, hl, hxl, hall⟩ := DataW.trod_struct ht h
  refine ⟨hl, fun i f hf => ?_⟩
  have hlt := (List.getElem?_eq_some_iff.1 hf).1
  have := hall i f (by simpa using hf)
  rw [List.getElem?_eq_getElem (by rw [hxl]; simpa using hlt)] at this
  exact ⟨n, _, this⟩

end

theorem reps_take {S : Still} {a : A} {bs : List A} {cs : List Value} {n : Nat} (h1 : Rep S a (cs.take n)) (h2 : Reps S bs (cs.drop n)) : Reps S (a :: bs) cs := by
  simp only [Reps]
  exact ⟨cs.take n, cs.drop n, (List.take_append_drop n cs).symm, h1, h2⟩

end Go.Own

namespace Go.Own
open Go.Proofs

section
variable {H : Type} {enc : TypeId × Value → H} {w : World} {base : Nat} {spare : Nat → Bool} {held : Bool}

theorem read_u8 {fuel : Nat} {cs : List Value} {x : DataW H × List MemPlace} (h : DataW.trod enc Try.prog w base spare held fuel 5 cs = some x) : ∃ n : Int, (0 ≤ n ∧ n ≤ 255) ∧ Rep (allS w) (.atom (.int .u8 n)) cs := by
  obtain ⟨n, h1, _, h2⟩ := int_rep Try.underlying5 (lo := 0) (hi := 255) rfl rfl h
  exact ⟨n, h1, h2⟩
theorem read_u16 {fuel : Nat} {cs : List Value} {x : DataW H × List MemPlace} (h : DataW.trod enc Try.prog w base spare held fuel 102 cs = some x) : ∃ n : Int, (0 ≤ n ∧ n ≤ 65535) ∧ Rep (allS w) (.atom (.int .u16 n)) cs := by
  obtain ⟨n, h1, _, h2⟩ := int_rep Try.underlying102 (lo := 0) (hi := 65535) rfl rfl h
  exact ⟨n, h1, h2⟩
theorem cells5 : Try.prog.cellsOf 5 = 1 := by kernel_rfl
theorem cells4 : Try.prog.cellsOf 4 = 1 := by kernel_rfl
theorem cells102 : Try.prog.cellsOf 102 = 1 := by kernel_rfl
theorem cells22 : Try.prog.cellsOf 22 = 1 := by kernel_rfl
theorem cells24 : Try.prog.cellsOf 24 = 5 := by kernel_rfl
theorem cells25 : Try.prog.cellsOf 25 = 1 := by kernel_rfl
theorem cells26 : Try.prog.cellsOf 26 = 1 := by kernel_rfl
theorem cells28 : Try.prog.cellsOf 28 = 2 := by kernel_rfl
theorem cells29 : Try.prog.cellsOf 29 = 1 := by kernel_rfl
theorem cells31 : Try.prog.cellsOf 31 = 2 := by kernel_rfl
theorem cells103 : Try.prog.cellsOf 103 = 4 := by kernel_rfl

theorem read_u16s {fuel : Nat} {cs : List Value} {x : DataW H × List MemPlace} (h : DataW.trod enc Try.prog w base spare held fuel 22 cs = some x) : ∃ l : List Int, (∀ a ∈ l, 0 ≤ a ∧ a ≤ 65535) ∧ Rep (allS w) (.sl 1 false (l.map fun e => .atom (.int .u16 e))) cs :=
  slice_rep (fun e => A.atom (.int .u16 e)) (fun a => 0 ≤ a ∧ a ≤ 65535) Try.underlying22 cells102 (by omega) (fun _ => rfl) (fun _ _ _ q => read_u16 q) h
theorem read_u8s {fuel : Nat} {cs : List Value} {x : DataW H × List MemPlace} (h : DataW.trod enc Try.prog w base spare held fuel 25 cs = some x) : ∃ l : List Int, (∀ a ∈ l, 0 ≤ a ∧ a ≤ 255) ∧ Rep (allS w) (.sl 1 false (l.map fun e => .atom (.int .u8 e))) cs :=
  slice_rep (fun e => A.atom (.int .u8 e)) (fun a => 0 ≤ a ∧ a ≤ 255) Try.underlying25 cells5 (by omega) (fun _ => rfl) (fun _ _ _ q => read_u8 q) h
theorem read_words {fuel : Nat} {cs : List Value} {x : DataW H × List MemPlace} (h : DataW.trod enc Try.prog w base spare held fuel 29 cs = some x) : ∃ l : List (List Int), (∀ a ∈ l, ∀ c ∈ a, 0 ≤ c ∧ c ≤ 255) ∧ Rep (allS w) (.sl 1 false (l.map encB)) cs :=
  slice_rep encB (fun a => ∀ c ∈ a, 0 ≤ c ∧ c ≤ 255) Try.underlying29 cells25 (by omega) (fun _ => rfl) (fun _ _ _ q => read_u8s q) h
theorem read_four {fuel : Nat} {cs : List Value} {x : DataW H × List MemPlace} (h : DataW.trod enc Try.prog w base spare held fuel 103 cs = some x) :
    ∃ c : Int × Int × Int × Int, (0 ≤ c.1 ∧ c.1 ≤ 255 ∧ 0 ≤ c.2.1 ∧ c.2.1 ≤ 255 ∧ 0 ≤ c.2.2.1 ∧ c.2.2.1 ≤ 255 ∧ 0 ≤ c.2.2.2 ∧ c.2.2.2 ≤ 255) ∧ Rep (allS w) (encC c) cs := by
  obtain ⟨xs, m, _, _, hl, hx, hall⟩ := DataW.trod_array Try.underlying103 h
  rw [cells103] at hl
  rw [cells5] at hall
  have get : ∀ i, i < 4 → ∃ n : Int, (0 ≤ n ∧ n ≤ 255) ∧ Rep (allS w) (.atom (.int .u8 n)) ((cs.drop i).take 1) := by
    intro i hi
    have q := hall i hi
    rw [List.getElem?_eq_getElem (by omega), Nat.mul_one] at q
    exact read_u8 q
  obtain ⟨a, ha, ra⟩ := get 0 (by omega)
  obtain ⟨b, hb, rb⟩ := get 1 (by omega)
  obtain ⟨c, hc, rc⟩ := get 2 (by omega)
  obtain ⟨d, hd, rd⟩ := get 3 (by omega)
  refine ⟨(a, b, c, d), ⟨ha.1, ha.2, hb.1, hb.2, hc.1, hc.2, hd.1, hd.2⟩, ?_⟩
  simp only [encC, Rep]
  refine reps_take (n := 1) (by simpa using ra) (reps_take (n := 1) (by simpa using rb) (reps_take (n := 1) (by simpa [List.drop_drop] using rc) (reps_take (n := 1) (by simpa [List.drop_drop] using rd) ?_)))
  simp only [List.drop_drop, Reps]
  exact List.drop_eq_nil_of_le (by omega)
theorem read_fours {fuel : Nat} {cs : List Value} {x : DataW H × List MemPlace} (h : DataW.trod enc Try.prog w base spare held fuel 26 cs = some x) :
    ∃ l : List (Int × Int × Int × Int), (∀ c ∈ l, 0 ≤ c.1 ∧ c.1 ≤ 255 ∧ 0 ≤ c.2.1 ∧ c.2.1 ≤ 255 ∧ 0 ≤ c.2.2.1 ∧ c.2.2.1 ≤ 255 ∧ 0 ≤ c.2.2.2 ∧ c.2.2.2 ≤ 255) ∧ Rep (allS w) (.sl 4 false (l.map encC)) cs :=
  slice_rep encC _ Try.underlying26 cells103 (by omega) (fun _ => rfl) (fun _ _ _ q => read_four q) h

theorem read_M {fuel : Nat} {cs : List Value} {x : DataW H × List MemPlace} (h : DataW.trod enc Try.prog w base spare held fuel 24 cs = some x) : ∃ m : MD, m.Ok ∧ Rep (allS w) (encMD m) cs := by
  obtain ⟨hl, hf⟩ := struct_fields Try.underlying24 h
  rw [cells24] at hl
  obtain ⟨_, _, q0⟩ := hf 0 _ rfl
  obtain ⟨_, _, q1⟩ := hf 1 _ rfl
  obtain ⟨_, _, q2⟩ := hf 2 _ rfl
  obtain ⟨_, _, q3⟩ := hf 3 _ rfl
  obtain ⟨_, _, q4⟩ := hf 4 _ rfl
  simp only [cells5, cells4, cells22] at q0 q1 q2 q3 q4
  obtain ⟨a, ha, ra⟩ := read_u8 q0
  obtain ⟨b, hb, rb⟩ := read_u8 q1
  obtain ⟨c, hc, rc⟩ := read_u8 q2
  obtain ⟨d, rd⟩ := bool_rep Try.underlying4 q3
  obtain ⟨e, he, re⟩ := read_u16s q4
  refine ⟨⟨a, b, c, d, e⟩, ⟨ha.1, ha.2, hb.1, hb.2, hc.1, hc.2, he⟩, ?_⟩
  simp only [encMD, Rep]
  refine reps_take (n := 1) (by simpa using ra) (reps_take (n := 1) (by simpa using rb) (reps_take (n := 1) (by simpa [List.drop_drop] using rc) (reps_take (n := 1) (by simpa [List.drop_drop] using rd) (reps_take (n := 1) (by simpa [List.drop_drop] using re) ?_))))
  simp only [List.drop_drop, Reps]
  exact List.drop_eq_nil_of_le (by omega)
theorem read_T {fuel : Nat} {cs : List Value} {x : DataW H × List MemPlace} (h : DataW.trod enc Try.prog w base spare held fuel 28 cs = some x) : ∃ m : TD, m.Ok ∧ Rep (allS w) (encTD m) cs := by
  obtain ⟨hl, hf⟩ := struct_fields Try.underlying28 h
  rw [cells28] at hl
  obtain ⟨_, _, q0⟩ := hf 0 _ rfl
  obtain ⟨_, _, q1⟩ := hf 1 _ rfl
  simp only [cells25, cells26] at q0 q1
  obtain ⟨a, ha, ra⟩ := read_u8s q0
  obtain ⟨b, hb, rb⟩ := read_fours q1
  refine ⟨⟨a, b⟩, ⟨ha, hb⟩, ?_⟩
  simp only [encTD, Rep]
  refine reps_take (n := 1) (by simpa [Rep] using ra) (reps_take (n := 1) (by simpa [Rep] using rb) ?_)
  simp only [List.drop_drop, Reps]
  exact List.drop_eq_nil_of_le (by omega)
theorem read_L {fuel : Nat} {cs : List Value} {x : DataW H × List MemPlace} (h : DataW.trod enc Try.prog w base spare held fuel 31 cs = some x) : ∃ m : LD, m.Ok ∧ Rep (allS w) (encLD m) cs := by
  obtain ⟨hl, hf⟩ := struct_fields Try.underlying31 h
  rw [cells31] at hl
  obtain ⟨_, _, q0⟩ := hf 0 _ rfl
  obtain ⟨_, _, q1⟩ := hf 1 _ rfl
  simp only [cells5, cells29] at q0 q1
  obtain ⟨a, ha, ra⟩ := read_u8 q0
  obtain ⟨b, hb, rb⟩ := read_words q1
  refine ⟨⟨a, b⟩, ⟨ha.1, ha.2, hb⟩, ?_⟩
  simp only [encLD, Rep]
  refine reps_take (n := 1) (by simpa [Rep] using ra) (reps_take (n := 1) (by simpa [Rep] using rb) ?_)
  simp only [List.drop_drop, Reps]
  exact List.drop_eq_nil_of_le (by omega)
end
end Go.Own
