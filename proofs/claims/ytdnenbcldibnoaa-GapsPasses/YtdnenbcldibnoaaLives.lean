/- lives() as a contract. -/
import Derived.Test.YtdnenbcldibnoaaLawD
import Derived.Test.YtdnenbcldibnoaaExLives
namespace Go.Own
open Go.Proofs

theorem callOk_lives {P : Program} {k : Nat} (hf : ∃ fn, P.funcs[k]? = some fn ∧ (fn.name == "runtime.NumGoroutine") = false ∧ fn.body.isNone = false)
    (h : ∀ w : World, Calls P k #[] w (fun e w' => e = .returned (.bool true) ∧ Go.Ex.Kept (fun B => w.heap.size ≤ B) w w')) : CallOk P k [] (.atom (.bool true)) := by
  refine ⟨hf, fun S w vs F h1 h2 h3 => ?_⟩
  have hv : vs = [] ∧ F = [] := by
    cases vs with
    | nil => simp only [Hass] at h2; exact ⟨rfl, h2⟩
    | cons v vs => exact h2.elim
  obtain ⟨rfl, rfl⟩ := hv
  refine Calls.mono (h w) ?_
  rintro e w' ⟨rfl, hk⟩
  refine ⟨_, S, [], rfl, ⟨hk.os, hk.tape, hk.output, hk.size, fun k q => hk.block k fun q2 => q (.inl q2)⟩, fun _ _ _ q => q, fun _ _ _ _ => rfl, ?_, .inl ⟨?_, rfl⟩, by simp, by simp⟩
  · intro b o v hb
    have q := h1 _ _ _ hb
    have hlt : b < w.heap.size := by
      unfold cellAt at q
      split at q
      · rename_i he
        exact (Array.getElem?_eq_some_iff.1 he).1
      · cases q
    unfold cellAt at q ⊢
    rw [hk.block b (by omega)]
    exact q
  · simp only [RepV, Rep1, Rep]
    exact ⟨_, ⟨rfl, rfl⟩, rfl⟩

theorem wLives : spLives.Ok Try.prog := by
  intro x _
  exact callOk_lives ⟨_, Try.func20, by decide, rfl⟩ Go.Ex.lives20_calls

end Go.Own
