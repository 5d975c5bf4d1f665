/- Walks. Printed by a program of the prover's. -/
import Derived.Test.YtdnenbcldibnoaaLawA
import Derived.Test.YtdnenbcldibnoaaOwnTT
namespace Go.Own
open Go.Proofs
set_option linter.unusedSimpArgs false
set_option linter.unusedVariables false

set_option maxHeartbeats 1000000 in
theorem wNext {ctr : Ctr} (hC : CtrOk Try.prog ctr) (hm : Try.prog.follows .mixedOrders = true)  : spNext.Ok Try.prog := by
  rintro ⟨m, s, i⟩ ⟨hv, hs, hi1, hi2⟩
  dsimp only at hv hs hi1 hi2
  show CallOk _ 75 [encM m, .atom (.int .i64 s), .atom (.int .i64 i)] (encE (nx m s i))
  refine callOk_w (tt := TTab) (rs := [(6, some 67)]) (n := ⟨18, none⟩) TTab_ok Try.func75 rfl rfl rfl rfl (by show _ ≤ 18; simp) fun E hE => ?_
  simp (maxSteps := 2000000) [go_sem, encM, encR, encE]
  refine AWP.reg TTab_ok hC [1, 2, 3, 6] fun K hK => ?_
  simp (maxSteps := 2000000) [go_sem, encM, encR, encE]
  with_reducible refine hK _ ?_
  clear hK K
  refine AWP.next fun K1 hK1 => ?_
  refine AWP.reg TTab_ok hC [1, 2, 3, 6, 8] fun K hK => ?_
  simp (maxSteps := 2000000) [go_sem, encM, encR, encE]
  with_reducible refine hK _ ?_
  clear hK K
  refine AWP.condW fun T F hT hF => ?_
  simp (maxSteps := 2000000) [go_sem, encM, encR, encE]
  refine ⟨fun c1 => hT ?_, fun c1 => hF ?_⟩
  · clear hT hF T F
    have hs1 : s = -1 := by rcases hs with h | h <;> omega
    subst hs1
    refine AWP.reg TTab_ok hC [6] fun K hK => ?_
    simp (maxSteps := 2000000) [go_sem, encM, encR, encE]
    with_reducible refine hK _ ?_
    clear hK K
    refine AWP.ret (hE _ ?_)
    simp [go_sem, encE, nx_none]
  · clear hT hF T F
    obtain ⟨k, j, r, rfl, rfl, hr, he⟩ := hv.at hs (by omega) ⟨hi1, hi2⟩
    refine AWP.skip (hK1 _ ?_)
    clear hK1
    refine AWP.reg TTab_ok hC [6] fun K hK => ?_
    simp (maxSteps := 2000000) [go_sem, encM, encR, encE, hr, he]
    with_reducible refine hK _ ?_
    clear hK K
    refine AWP.ret (hE _ ?_)
    simp [go_sem, encE]

set_option maxHeartbeats 1000000 in
theorem wStep {ctr : Ctr} (hC : CtrOk Try.prog ctr) (hm : Try.prog.follows .mixedOrders = true)  : spStep.Ok Try.prog := by
  rintro ⟨m, o, w⟩ ⟨hv, ho, hw1, hw2, hl⟩
  show CallOk _ 52 [encM m, encM o, encW w] (.atom (.int .i64 (stepF m o 0 0 w 0)))
  dsimp only at hv ho hw1 hw2 hl
  refine callOk_w (tt := TTab) (rs := [(6, none)]) (n := ⟨53, none⟩) TTab_ok Try.func52 rfl rfl rfl rfl (by show _ ≤ 53; simp) fun E hE => ?_
  simp (maxSteps := 2000000) [go_sem, encM, encR, encE, encW]
  refine AWP.reg TTab_ok hC [2, 3, 4] fun K hK => ?_
  simp (maxSteps := 2000000) [go_sem, encM, encR, encE, encW]
  with_reducible refine hK _ ?_
  clear hK K
  refine AWP.reg TTab_ok hC [2, 3, 4, 7, 8] fun K hK => ?_
  simp (maxSteps := 2000000) [go_sem, encM, encR, encE, encW]
  with_reducible refine hK _ ?_
  clear hK K
  refine AWP.next fun K1 hK1 => ?_
  refine AWP.reg TTab_ok hC [2, 3, 4, 7, 8, 13, 14, 15] fun K hK => ?_
  simp (maxSteps := 2000000) [go_sem, encM, encR, encE, encW]
  with_reducible refine hK _ ?_
  clear hK K
  refine AWP.block ?_
  refine AWP.loopX (X := Nat × Int × Int) [2, 3, 4, 7, 8, 13, 14, 15] (fun x => x.1 ≤ w.length ∧ StOk m x.2.1 ∧ StOk o x.2.2 ∧ stepF m o x.2.1 x.2.2 (w.drop x.1) x.1 = stepF m o 0 0 w 0) (fun x => w.length - x.1) (fun x => ofL [(2, .d (encW w)), (3, .own (.box (encM m))), (4, .own (.box (encM o))), (7, .d (.atom (.int .i64 x.2.1))), (8, .d (.atom (.int .i64 x.2.2))), (13, .d (encW w)), (14, .d (.atom (.int .i64 w.length))), (15, .d (.atom (.int .i64 x.1)))]) ((0, 0, 0)) ?_ ?_ ?_
  · have := hv.r1; have := ho.r1; exact ⟨Nat.zero_le _, .inr (by dsimp only; omega), .inr (by dsimp only; omega), rfl⟩
  · simp (maxSteps := 2000000) [go_sem, encM, encR, encE, encW]
  intro x hx J2 hJ2
  obtain ⟨k, s, t⟩ := x
  dsimp only at hx ⊢
  obtain ⟨hk, hs, ht, hf⟩ := hx
  refine AWP.reg TTab_ok hC [2, 3, 4, 7, 8, 13, 14, 15, 16] fun K hK => ?_
  simp (maxSteps := 2000000) [go_sem, encM, encR, encE, encW]
  with_reducible refine hK _ ?_
  clear hK K
  refine AWP.next fun K3 hK3 => ?_
  refine AWP.condW fun T F hT hF => ?_
  simp (maxSteps := 2000000) [go_sem, encM, encR, encE, encW]
  refine ⟨fun c3 => hT ?_, fun c3 => hF ?_⟩
  · clear hT hF T F
    have hk2 : k < w.length := by omega
    obtain ⟨i, hi⟩ : ∃ i, w[k]? = some i := ⟨_, List.getElem?_eq_getElem hk2⟩
    have hmi := hw1 i (List.mem_of_getElem? hi)
    have hoi := hw2 i (List.mem_of_getElem? hi)
    have hd : w.drop k = i :: w.drop (k + 1) := by rw [List.drop_eq_getElem_cons hk2]; simp [List.getElem?_eq_getElem hk2] at hi; rw [hi]
    rw [hd] at hf
    simp only [stepF] at hf
    refine AWP.skip (hK3 _ ?_)
    clear hK3
    refine AWP.next fun K5 hK5 => ?_
    refine AWP.block ?_
    refine AWP.reg TTab_ok hC [2, 3, 4, 7, 8, 9, 10, 13, 14, 15] fun K hK => ?_
    simp (maxSteps := 2000000) [go_sem, encM, encR, encE, encW, hi]
    with_reducible refine hK _ ?_
    clear hK K
    refine AWP.reg TTab_ok hC [2, 3, 4, 7, 8, 9, 10, 11, 13, 14, 15] fun K hK => ?_
    simp (maxSteps := 2000000) [go_sem, encM, encR, encE, encW]
    with_reducible refine hK _ ?_
    clear hK K
    refine AWP.reg TTab_ok hC [2, 3, 4, 7, 8, 9, 10, 11, 12, 13, 14, 15] fun K hK => ?_
    simp (maxSteps := 2000000) [go_sem, encM, encR, encE, encW]
    with_reducible refine hK _ ?_
    clear hK K
    refine AWP.nextJ (X := Unit) [2, 3, 4, 8, 9, 10, 11, 12, 13, 14, 15] (fun z => True) (fun z => ofL [(2, .d (encW w)), (3, .own (.box (encM m))), (4, .own (.box (encM o))), (8, .d (.atom (.int .i64 t))), (9, .d (.atom (.int .i64 k))), (10, .d (.atom (.int .i64 i))), (11, .own (.box (encE (nx m s i)))), (12, .own (.box (.agg [.atom (.int .i64 (-1)), .atom (.int .i64 (-1))]))), (13, .d (encW w)), (14, .d (.atom (.int .i64 w.length))), (15, .d (.atom (.int .i64 k)))]) ?_ ?_
    · intro z hz
      refine AWP.nextJ (X := Unit) [2, 3, 4, 9, 11, 12, 13, 14, 15] (fun z => True) (fun z => ofL [(2, .d (encW w)), (3, .own (.box (encM m))), (4, .own (.box (encM o))), (9, .d (.atom (.int .i64 k))), (11, .own (.box (encE (nx m s i)))), (12, .own (.box (encE (nx o t i)))), (13, .d (encW w)), (14, .d (.atom (.int .i64 w.length))), (15, .d (.atom (.int .i64 k)))]) ?_ ?_
      · intro z hz
        refine AWP.next fun K8 hK8 => ?_
        refine AWP.reg TTab_ok hC [2, 3, 4, 9, 11, 12, 13, 14, 15, 46] fun K hK => ?_
        simp (maxSteps := 2000000) [go_sem, encM, encR, encE, encW]
        with_reducible refine hK _ ?_
        clear hK K
        refine AWP.condW fun T F hT hF => ?_
        simp (maxSteps := 2000000) [go_sem, encM, encR, encE, encW]
        refine ⟨fun c11 => hT ?_, fun c11 => hF ?_⟩
        · clear hT hF T F
          refine AWP.reg TTab_ok hC [6] fun K hK => ?_
          simp (maxSteps := 2000000) [go_sem, encM, encR, encE, encW]
          with_reducible refine hK _ ?_
          clear hK K
          refine AWP.ret (hE _ ?_)
          simp [go_sem]
          rw [← hf, if_pos (by simpa using c11)]
        · clear hT hF T F
          refine AWP.skip (hK8 _ ?_)
          clear hK8
          refine AWP.drawEnd TTab_ok hC hm fun K hK => ?_
          simp (maxSteps := 2000000) [go_sem, encM, encR, encE, encW]
          refine ⟨by decide +kernel, ?_⟩
          with_reducible refine hK _ ?_
          clear hK K
          refine hK5 _ ?_
          clear hK5
          refine AWP.regEnd TTab_ok hC fun K hK => ?_
          simp (maxSteps := 2000000) [go_sem, encM, encR, encE, encW]
          with_reducible refine hK _ ?_
          clear hK K
          refine hJ2 _ (k + 1, (nx m s i).1, (nx o t i).1) ?_ ?_ ?_
          · exact ⟨by dsimp only; omega, (hv.nxOk hs hmi).st, (ho.nxOk ht hoi).st, by rw [← hf, if_neg (by simpa using c11)]⟩
          · dsimp only; omega
          simp (maxSteps := 2000000) [go_sem, encM, encR, encE, encW]
          rw [IntWalk.i64_in _ (by omega)]
      intro K7 hK7
      refine AWP.reg TTab_ok hC [2, 3, 4, 8, 9, 10, 11, 12, 13, 14, 15, 33] fun K hK => ?_
      simp (maxSteps := 2000000) [go_sem, encM, encR, encE, encW]
      with_reducible refine hK _ ?_
      clear hK K
      refine AWP.condW fun T F hT hF => ?_
      simp (maxSteps := 2000000) [go_sem, encM, encR, encE, encW]
      refine ⟨fun c9 => hT ?_, fun c9 => hF ?_⟩
      · clear hT hF T F
        obtain ⟨r2, ht0, hi0, hr2, he2⟩ := ho.at' ht c9 hoi
        refine AWP.regEnd TTab_ok hC fun K hK => ?_
        simp (maxSteps := 2000000) [go_sem, encM, encR, encE, encW, hr2, he2, ht0, hi0]
        with_reducible refine hK _ ?_
        clear hK K
        refine hK7 () _ ?_ ?_
        · trivial
        simp (maxSteps := 2000000) [go_sem, encM, encR, encE, encW, c9, nx_none]
      · clear hT hF T F
        refine AWP.skip (hK7 () _ ?_ ?_)
        · trivial
        simp (maxSteps := 2000000) [go_sem, encM, encR, encE, encW, c9, nx_none]
    intro K6 hK6
    refine AWP.reg TTab_ok hC [2, 3, 4, 7, 8, 9, 10, 11, 12, 13, 14, 15, 23] fun K hK => ?_
    simp (maxSteps := 2000000) [go_sem, encM, encR, encE, encW]
    with_reducible refine hK _ ?_
    clear hK K
    refine AWP.condW fun T F hT hF => ?_
    simp (maxSteps := 2000000) [go_sem, encM, encR, encE, encW]
    refine ⟨fun c7 => hT ?_, fun c7 => hF ?_⟩
    · clear hT hF T F
      obtain ⟨r1, hs0, hi0, hr1, he1⟩ := hv.at' hs c7 hmi
      refine AWP.regEnd TTab_ok hC fun K hK => ?_
      simp (maxSteps := 2000000) [go_sem, encM, encR, encE, encW, hr1, he1, hs0, hi0]
      with_reducible refine hK _ ?_
      clear hK K
      refine hK6 () _ ?_ ?_
      · trivial
      simp (maxSteps := 2000000) [go_sem, encM, encR, encE, encW, c7, nx_none]
    · clear hT hF T F
      refine AWP.skip (hK6 () _ ?_ ?_)
      · trivial
      simp (maxSteps := 2000000) [go_sem, encM, encR, encE, encW, c7, nx_none]
  · clear hT hF T F
    refine AWP.exit (hK1 _ ?_)
    clear hK1
    refine AWP.reg TTab_ok hC [6] fun K hK => ?_
    simp (maxSteps := 2000000) [go_sem, encM, encR, encE, encW]
    with_reducible refine hK _ ?_
    clear hK K
    refine AWP.ret (hE _ ?_)
    simp [go_sem]
    have hkk : k = w.length := by omega
    subst hkk
    simpa [stepF] using hf


end Go.Own
