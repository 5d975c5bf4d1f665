/- The list of the law is valid: plain Lean. -/
import Derived.Test.YtdnenbcldibnoaaLawC
namespace Go.Own

theorem sum_le {b : Nat} : ∀ (l : List (List Int)), (∀ w ∈ l, w.length ≤ b) → (l.map List.length).sum ≤ l.length * b
  | [], _ => by simp
  | w :: l, h => by
    have h1 := h w List.mem_cons_self
    have h2 := sum_le l fun x hx => h x (List.mem_cons_of_mem _ hx)
    simp only [List.map_cons, List.sum_cons, List.length_cons, Nat.succ_mul]
    omega

theorem rawF_mem {z : LD} (hz : z.Ok) {u : List Int} (h : u ∈ rawF z) : u.length ≤ 12 ∧ ∀ c ∈ u, 0 ≤ c := by
  obtain ⟨v, hv, rfl⟩ := List.mem_map.1 h
  refine ⟨by simp [rawW]; omega, fun c hc => ?_⟩
  obtain ⟨d, hd, rfl⟩ := List.mem_map.1 hc
  have := hz.ws v (List.mem_of_mem_take hv) d (List.mem_of_mem_take hd)
  exact (tmod_lt this.1 (by have := hz.alpha; omega)).1

theorem rawF_length (z : LD) : (rawF z).length ≤ 40 := by simp [rawF]; omega

theorem within_ok {z : LD} (hz : z.Ok) {n : Int} (h1 : 1 ≤ n) (h2 : n ≤ 16) : LOk n (withinF (sortF (rawF z)) n) := by
  have hlen : (withinF (sortF (rawF z)) n).length ≤ 40 := by
    have q1 := sortF_length ((sortF (rawF z)).map fun w => w.map fun c => c.tmod n)
    have q2 := sortF_length (rawF z)
    have q3 := rawF_length z
    unfold withinF
    simp only [List.length_map] at q1
    omega
  have hmem : ∀ w ∈ withinF (sortF (rawF z)) n, ∃ u ∈ rawF z, w = u.map fun c => c.tmod n := by
    intro w hw
    obtain ⟨u, hu, rfl⟩ := List.mem_map.1 (sortF_mem hw)
    exact ⟨u, sortF_mem hu, rfl⟩
  have hshort : ∀ w ∈ withinF (sortF (rawF z)) n, w.length ≤ 12 := by
    intro w hw
    obtain ⟨u, hu, rfl⟩ := hmem w hw
    simpa using (rawF_mem hz hu).1
  refine ⟨h1, h2, by omega, ?_, fun w hw => by have := hshort w hw; omega, sortF_asc _, ?_⟩
  · intro w hw
    obtain ⟨u, hu, rfl⟩ := hmem w hw
    intro i hi
    obtain ⟨c, hc, rfl⟩ := List.mem_map.1 hi
    exact tmod_lt ((rawF_mem hz hu).2 c hc) (by omega)
  · have := sum_le _ hshort
    have : (withinF (sortF (rawF z)) n).length * 12 ≤ 40 * 12 := Nat.mul_le_mul_right _ hlen
    omega

end Go.Own

namespace Go.Own
def spLives : Spec where
  α := Unit
  k := 20
  raw := false
  gives := []
  enc := fun _ => []
  pre := fun _ => True
  f := fun _ => .atom (.bool true)
  inj := fun _ _ _ _ _ => rfl
theorem spLives_run {ctr : Ctr} (hh : ctr.Has spLives)   : ctr.run 20 [] = some (.atom (.bool true)) := hh.run () trivial
theorem spLives_at {ctr : Ctr} (h : ctr.Has spLives) : ctr.gives 20 = [] ∧ ctr.raw 20 = false ∧ ctr.lend 20 = none := ⟨h.gives, h.raw, h.lend⟩
def spLaw : Spec where
  α := MD × TD × LD
  k := 3
  raw := false
  gives := []
  enc := fun ⟨x, y, z⟩ => [encMD x, encTD y, encLD z]
  pre := fun ⟨x, y, z⟩ => (x.Ok) ∧ (y.Ok) ∧ (z.Ok)
  f := fun ⟨x, y, z⟩ => .atom (.bool true)
  inj := by
    rintro ⟨a0, a1, a2⟩ ⟨b0, b1, b2⟩ h _ _
    simp only [List.cons.injEq, and_true] at h
    obtain ⟨h0, h1, h2⟩ := h
    have e0 := encMD_inj _ _ h0
    have e1 := encTD_inj _ _ h1
    have e2 := encLD_inj _ _ h2
    subst e0 e1 e2
    rfl
theorem spLaw_run {ctr : Ctr} (hh : ctr.Has spLaw) {x : MD} {y : TD} {z : LD} (hx : x.Ok) (hy : y.Ok) (hz : z.Ok) : ctr.run 3 [encMD x, encTD y, encLD z] = some (.atom (.bool true)) := hh.run (x, y, z) ⟨hx, hy, hz⟩
theorem spLaw_at {ctr : Ctr} (h : ctr.Has spLaw) : ctr.gives 3 = [] ∧ ctr.raw 3 = false ∧ ctr.lend 3 = none := ⟨h.gives, h.raw, h.lend⟩

end Go.Own
