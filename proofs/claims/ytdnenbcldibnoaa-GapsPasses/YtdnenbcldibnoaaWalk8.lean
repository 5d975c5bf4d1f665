/- Walks. Printed by a program of the prover's. -/
import Derived.Test.YtdnenbcldibnoaaLawD
import Derived.Test.YtdnenbcldibnoaaOwnTT
namespace Go.Own
open Go.Proofs
set_option linter.unusedSimpArgs false
set_option linter.unusedVariables false

set_option maxHeartbeats 1000000 in
theorem wLaw {ctr : Ctr} (hC : CtrOk Try.prog ctr) (hm : Try.prog.follows .mixedOrders = true) (hMOf : ctr.Has spMOf) (hTOf : ctr.Has spTOf) (hLOf : ctr.Has spLOf) (hWithin : ctr.Has spWithin) (hPasses : ctr.Has spPasses) (hRPasses : ctr.Has spRPasses) (hFatal : ctr.Has spFatal) (hRFatal : ctr.Has spRFatal) (hInts : ctr.Has spInts) (hLives : ctr.Has spLives) : spLaw.Ok Try.prog := by
  rintro ⟨x, y, z⟩ ⟨hx, hy, hz⟩
  show CallOk _ 3 [encMD x, encTD y, encLD z] (.atom (.bool true))
  have hx : x.Ok := hx
  have hy : y.Ok := hy
  have hz : z.Ok := hz
  have hv := mOf_valid hx
  have h62 : (mOf x).rows.length ≤ 62 := by have := hx.n; simp [mOf]; omega
  have ho := tOf_valid hy hv h62
  have hi : (mOf x).inp = (tOf y (mOf x)).inp := rfl
  have hl := within_ok hz hv.i1 hv.i2
  have h40 : (sortF (rawF z)).length ≤ 4000 := by have q1 := sortF_length (rawF z); have q2 := rawF_length z; omega
  have h12 : ∀ w ∈ sortF (rawF z), w.length ≤ 4096 := fun w hw => by have := (rawF_mem hz (sortF_mem hw)).1; omega
  have hfl : (fatF (mOf x) (tOf y (mOf x)) (withinF (sortF (rawF z)) (mOf x).inp) 0).length ≤ 4096 := by have q := fatF_length (mOf x) (tOf y (mOf x)) (withinF (sortF (rawF z)) (mOf x).inp) 0; have := hl.len; omega
  obtain ⟨m, hm0⟩ : ∃ m, m = mOf x := ⟨_, rfl⟩
  obtain ⟨o, ho0⟩ : ∃ o, o = tOf y (mOf x) := ⟨_, rfl⟩
  obtain ⟨l, hl0⟩ : ∃ l, l = withinF (sortF (rawF z)) (mOf x).inp := ⟨_, rfl⟩
  have eM : encM (mOf x) = encM m := by rw [hm0]
  rw [← hl0] at hl hfl
  rw [← ho0] at ho hfl hi
  have hoM : tOf y m = o := by rw [hm0, ho0]
  have hlM : withinF (sortF (rawF z)) m.inp = l := by rw [hm0, hl0]
  rw [← hm0] at hv h62 hi hl hfl
  refine callOk_w (tt := TTab) (rs := [(6, none)]) (n := ⟨76, none⟩) TTab_ok Try.func3 rfl rfl rfl rfl (by show _ ≤ 76; simp) fun E hE => ?_
  simp (maxSteps := 2000000) [go_sem, encM, encR, encE, encW, encL, ownW, ownL, encLD, encB, ownS, appendOwnA, encMD, encTD, encC, lives_encW]
  refine AWP.reg TTab_ok hC [3, 4, 5] fun K hK => ?_
  simp (maxSteps := 2000000) [go_sem, encM, encR, encE, encW, encL, ownW, ownL, encLD, encB, ownS, appendOwnA, encMD, encTD, encC, lives_encW]
  with_reducible refine hK _ ?_
  clear hK K
  have qMOf := spMOf_run hMOf hx
  try simp only [encM, encR, encE, encW, encL, ownW, ownL, encLD, encB, ownS, appendOwnA, encMD, encTD, encC, ← hm0] at qMOf
  refine AWP.reg TTab_ok hC [4, 5, 7] fun K hK => ?_
  simp (maxSteps := 2000000) [go_sem, encM, encR, encE, encW, encL, ownW, ownL, encLD, encB, ownS, appendOwnA, encMD, encTD, encC, lives_encW, qMOf, (spMOf_at hMOf).1, (spMOf_at hMOf).2.1, (spMOf_at hMOf).2.2]
  with_reducible refine hK _ ?_
  clear hK K
  have qTOf := spTOf_run hTOf hy hv h62
  try simp only [encM, encR, encE, encW, encL, ownW, ownL, encLD, encB, ownS, appendOwnA, encMD, encTD, encC, hoM] at qTOf
  refine AWP.reg TTab_ok hC [5, 7, 8] fun K hK => ?_
  simp (maxSteps := 2000000) [go_sem, encM, encR, encE, encW, encL, ownW, ownL, encLD, encB, ownS, appendOwnA, encMD, encTD, encC, lives_encW, qTOf, (spTOf_at hTOf).1, (spTOf_at hTOf).2.1, (spTOf_at hTOf).2.2]
  with_reducible refine hK _ ?_
  clear hK K
  have qLOf := spLOf_run hLOf hz
  try simp only [encM, encR, encE, encW, encL, ownW, ownL, encLD, encB, ownS, appendOwnA, encMD, encTD, encC] at qLOf
  have qWithin := spWithin_run hWithin (l := sortF (rawF z)) (n := m.inp) h40 h12 hv.i1
  try simp only [encM, encR, encE, encW, encL, ownW, ownL, encLD, encB, ownS, appendOwnA, encMD, encTD, encC, hlM] at qWithin
  refine AWP.draw TTab_ok hC hm [7, 8, 9] fun K hK => ?_
  simp (maxSteps := 2000000) [go_sem, encM, encR, encE, encW, encL, ownW, ownL, encLD, encB, ownS, appendOwnA, encMD, encTD, encC, lives_encW, qLOf, (spLOf_at hLOf).1, (spLOf_at hLOf).2.1, (spLOf_at hLOf).2.2, qWithin, (spWithin_at hWithin).1, (spWithin_at hWithin).2.1, (spWithin_at hWithin).2.2]
  refine ⟨by decide +kernel, ?_⟩
  with_reducible refine hK _ ?_
  clear hK K
  have qPasses := spPasses_run hPasses hv ho hi hl
  try simp only [encM, encR, encE, encW, encL, ownW, ownL, encLD, encB, ownS, appendOwnA, encMD, encTD, encC] at qPasses
  refine AWP.reg TTab_ok hC [7, 8, 9, 10, 11, 12] fun K hK => ?_
  simp (maxSteps := 2000000) [go_sem, encM, encR, encE, encW, encL, ownW, ownL, encLD, encB, ownS, appendOwnA, encMD, encTD, encC, lives_encW, qPasses, (spPasses_at hPasses).1, (spPasses_at hPasses).2.1, (spPasses_at hPasses).2.2]
  with_reducible refine hK _ ?_
  clear hK K
  have qRPasses := spRPasses_run hRPasses hv ho hi hl
  try simp only [encM, encR, encE, encW, encL, ownW, ownL, encLD, encB, ownS, appendOwnA, encMD, encTD, encC] at qRPasses
  refine AWP.reg TTab_ok hC [7, 8, 9, 10, 11, 12, 13, 14] fun K hK => ?_
  simp (maxSteps := 2000000) [go_sem, encM, encR, encE, encW, encL, ownW, ownL, encLD, encB, ownS, appendOwnA, encMD, encTD, encC, lives_encW, qRPasses, (spRPasses_at hRPasses).1, (spRPasses_at hRPasses).2.1, (spRPasses_at hRPasses).2.2]
  with_reducible refine hK _ ?_
  clear hK K
  have qFatal := spFatal_run hFatal hv ho hi hl
  try simp only [encM, encR, encE, encW, encL, ownW, ownL, encLD, encB, ownS, appendOwnA, encMD, encTD, encC] at qFatal
  refine AWP.reg TTab_ok hC [7, 8, 9, 10, 11, 12, 13, 14, 15, 16] fun K hK => ?_
  simp (maxSteps := 2000000) [go_sem, encM, encR, encE, encW, encL, ownW, ownL, encLD, encB, ownS, appendOwnA, encMD, encTD, encC, lives_encW, qFatal, (spFatal_at hFatal).1, (spFatal_at hFatal).2.1, (spFatal_at hFatal).2.2]
  with_reducible refine hK _ ?_
  clear hK K
  have qRFatal := spRFatal_run hRFatal hv ho hi hl
  try simp only [encM, encR, encE, encW, encL, ownW, ownL, encLD, encB, ownS, appendOwnA, encMD, encTD, encC] at qRFatal
  have qInts := spInts_run hInts (a := fatF m o l 0) (b := fatF m o l 0) hfl rfl
  try simp only [encM, encR, encE, encW, encL, ownW, ownL, encLD, encB, ownS, appendOwnA, encMD, encTD, encC] at qInts
  have qLives := spLives_run hLives 
  try simp only [encM, encR, encE, encW, encL, ownW, ownL, encLD, encB, ownS, appendOwnA, encMD, encTD, encC] at qLives
  refine AWP.reg TTab_ok hC [6] fun K hK => ?_
  simp (maxSteps := 2000000) [go_sem, encM, encR, encE, encW, encL, ownW, ownL, encLD, encB, ownS, appendOwnA, encMD, encTD, encC, lives_encW, qRFatal, (spRFatal_at hRFatal).1, (spRFatal_at hRFatal).2.1, (spRFatal_at hRFatal).2.2, qInts, (spInts_at hInts).1, (spInts_at hInts).2.1, (spInts_at hInts).2.2, qLives, (spLives_at hLives).1, (spLives_at hLives).2.1, (spLives_at hLives).2.2]
  with_reducible refine hK _ ?_
  clear hK K
  refine AWP.ret (hE _ ?_)
  simp (maxSteps := 2000000) [go_sem, encM, encR, encE, encW, encL, ownW, ownL, encLD, encB, ownS, appendOwnA, encMD, encTD, encC, lives_encW]


end Go.Own
