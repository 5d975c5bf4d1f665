/- Walks. Printed by a program of the prover's. -/
import Derived.Test.YtdnenbcldibnoaaLawC
import Derived.Test.YtdnenbcldibnoaaOwnTT
namespace Go.Own
open Go.Proofs
set_option linter.unusedSimpArgs false
set_option linter.unusedVariables false

set_option maxHeartbeats 1000000 in
theorem wMOf {ctr : Ctr} (hC : CtrOk Try.prog ctr) (hm : Try.prog.follows .mixedOrders = true)  : spMOf.Ok Try.prog := by
  intro (x : MD)
  rintro h
  show CallOk _ 11 [encMD x] (encM (mOf x))
  have h : x.Ok := h
  obtain ⟨n1, n2, n3⟩ := h.n
  obtain ⟨i1, i2, i3⟩ := h.i
  obtain ⟨o1, o2, o3⟩ := h.o
  have gs0 := tmod_lt h.s0 (show (0 : Int) < 6 by omega)
  have gi0 := tmod_lt h.i0 (show (0 : Int) < 3 by omega)
  have go0 := tmod_lt h.o0 (show (0 : Int) < 3 by omega)
  have gs1 : IntKind.i64.wrap (x.st.tmod 6) = x.st.tmod 6 := IntWalk.i64_in _ (by omega)
  have gs2 : IntKind.i64.wrap (1 + x.st.tmod 6) = (mN x : Int) := by rw [IntWalk.i64_in _ (by omega)]; omega
  have gi1 : IntKind.i64.wrap (x.inp.tmod 3) = x.inp.tmod 3 := IntWalk.i64_in _ (by omega)
  have gi2 : IntKind.i64.wrap (1 + x.inp.tmod 3) = (mI x : Int) := by rw [IntWalk.i64_in _ (by omega)]; omega
  have go1 : IntKind.i64.wrap (x.out.tmod 3) = x.out.tmod 3 := IntWalk.i64_in _ (by omega)
  have go2 : IntKind.i64.wrap (1 + x.out.tmod 3) = (mO x : Int) := by rw [IntWalk.i64_in _ (by omega)]; omega
  have nz : ¬ mN x = 0 := by omega
  have oz : ¬ mO x = 0 := by omega
  have nz2 : ¬ (mN x : Int) = 0 := by omega
  have oz2 : ¬ (mO x : Int) = 0 := by omega
  refine CallOk.loose (r := .agg [.atom (.int .i64 (mI x)), .atom (.int .i64 (mO x)), .sl 1 (mOf x).rows.isEmpty (A.shuts ((mOf x).rows.map ownRT))]) ?_ (by simp only [A.loose, A.looses, shut_ownRT_loose, encM]; rfl)
  refine callOk_w (tt := TTab) (rs := [(2, some 34)]) (n := ⟨87, none⟩) TTab_ok Try.func11 rfl rfl rfl rfl (by show _ ≤ 87; simp) fun E hE => ?_
  simp (maxSteps := 2000000) [go_sem, encM, encR, encE, encW, encL, ownW, ownL, encLD, encB, ownS, appendOwnA, encMD, encTD, encC]
  refine AWP.reg TTab_ok hC [1, 2] fun K hK => ?_
  simp (maxSteps := 2000000) [go_sem, encM, encR, encE, encW, encL, ownW, ownL, encLD, encB, ownS, appendOwnA, encMD, encTD, encC]
  with_reducible refine hK _ ?_
  clear hK K
  refine AWP.reg TTab_ok hC [1, 2, 3] fun K hK => ?_
  simp (maxSteps := 2000000) [go_sem, encM, encR, encE, encW, encL, ownW, ownL, encLD, encB, ownS, appendOwnA, encMD, encTD, encC, gs1, gs2]
  with_reducible refine hK _ ?_
  clear hK K
  refine AWP.reg TTab_ok hC [1, 2, 3, 4] fun K hK => ?_
  simp (maxSteps := 2000000) [go_sem, encM, encR, encE, encW, encL, ownW, ownL, encLD, encB, ownS, appendOwnA, encMD, encTD, encC, gi1, gi2, go1, go2]
  with_reducible refine hK _ ?_
  clear hK K
  refine AWP.next fun K1 hK1 => ?_
  refine AWP.reg TTab_ok hC [1, 2, 3, 4, 5] fun K hK => ?_
  simp (maxSteps := 2000000) [go_sem, encM, encR, encE, encW, encL, ownW, ownL, encLD, encB, ownS, appendOwnA, encMD, encTD, encC]
  with_reducible refine hK _ ?_
  clear hK K
  refine AWP.block ?_
  refine AWP.loopX (X := Nat × List (List (Int × Int))) [1, 2, 3, 4, 5] (fun y => y.1 ≤ mN x ∧ y.2 = (List.range y.1).map (mRow x)) (fun y => mN x - y.1) (fun y => ofL [(1, .own (.box (encMD x))), (2, .own (.box (.agg [.atom (.int .i64 0), .atom (.int .i64 0), .osl 1 true []]))), (3, .d (.atom (.int .i64 (mN x)))), (4, .own (.box (.agg [.atom (.int .i64 (mI x)), .atom (.int .i64 (mO x)), .osl 1 y.2.isEmpty (y.2.map ownRT)]))), (5, .d (.atom (.int .i64 y.1)))]) ((0, [])) ?_ ?_ ?_
  · exact ⟨Nat.zero_le _, rfl⟩
  · simp (maxSteps := 2000000) [go_sem, encM, encR, encE, encW, encL, ownW, ownL, encLD, encB, ownS, appendOwnA, encMD, encTD, encC]
  intro y hx J2 hJ2
  obtain ⟨s, rs⟩ := y
  dsimp only at hx ⊢
  obtain ⟨h1, hrs⟩ := hx
  have hrl : rs.length ≤ 4294967295 := by rw [hrs]; simp; omega
  refine AWP.next fun K3 hK3 => ?_
  refine AWP.reg TTab_ok hC [1, 2, 3, 4, 5, 28] fun K hK => ?_
  simp (maxSteps := 2000000) [go_sem, encM, encR, encE, encW, encL, ownW, ownL, encLD, encB, ownS, appendOwnA, encMD, encTD, encC]
  with_reducible refine hK _ ?_
  clear hK K
  refine AWP.condW fun T F hT hF => ?_
  simp (maxSteps := 2000000) [go_sem, encM, encR, encE, encW, encL, ownW, ownL, encLD, encB, ownS, appendOwnA, encMD, encTD, encC]
  refine ⟨fun c4 => hT ?_, fun c4 => hF ?_⟩
  · clear hT hF T F
    refine AWP.skip (hK3 _ ?_)
    clear hK3
    refine AWP.next fun K5 hK5 => ?_
    refine AWP.block ?_
    refine AWP.reg TTab_ok hC [1, 2, 3, 4, 5, 6] fun K hK => ?_
    simp (maxSteps := 2000000) [go_sem, encM, encR, encE, encW, encL, ownW, ownL, encLD, encB, ownS, appendOwnA, encMD, encTD, encC]
    with_reducible refine hK _ ?_
    clear hK K
    refine AWP.next fun K6 hK6 => ?_
    refine AWP.reg TTab_ok hC [1, 2, 3, 4, 5, 6, 7] fun K hK => ?_
    simp (maxSteps := 2000000) [go_sem, encM, encR, encE, encW, encL, ownW, ownL, encLD, encB, ownS, appendOwnA, encMD, encTD, encC]
    with_reducible refine hK _ ?_
    clear hK K
    refine AWP.block ?_
    refine AWP.loopX (X := Nat × List (Int × Int)) [1, 2, 3, 4, 5, 6, 7] (fun y => y.1 ≤ mI x ∧ y.2 = (List.range y.1).map (mE x s)) (fun y => mI x - y.1) (fun y => ofL [(1, .own (.box (encMD x))), (2, .own (.box (.agg [.atom (.int .i64 0), .atom (.int .i64 0), .osl 1 true []]))), (3, .d (.atom (.int .i64 (mN x)))), (4, .own (.box (.agg [.atom (.int .i64 (mI x)), .atom (.int .i64 (mO x)), .osl 1 rs.isEmpty (rs.map ownRT)]))), (5, .d (.atom (.int .i64 s))), (6, .own (.osl 2 y.2.isEmpty (y.2.map encE))), (7, .d (.atom (.int .i64 y.1)))]) ((0, [])) ?_ ?_ ?_
    · exact ⟨Nat.zero_le _, rfl⟩
    · simp (maxSteps := 2000000) [go_sem, encM, encR, encE, encW, encL, ownW, ownL, encLD, encB, ownS, appendOwnA, encMD, encTD, encC]
    intro y hx J7 hJ7
    obtain ⟨i, row⟩ := y
    dsimp only at hx ⊢
    obtain ⟨k1, hrow⟩ := hx
    have hwl : row.length ≤ 4294967295 := by rw [hrow]; simp; omega
    obtain ⟨kk, hkk⟩ : ∃ kk, kk = s * mI x + i := ⟨_, rfl⟩
    have hmul : s * mI x ≤ 6 * 3 := Nat.mul_le_mul (by omega) (by omega)
    have eM : ((s : Int) * (mI x : Int)) = ((s * mI x : Nat) : Int) := by simp
    have gk0 : IntKind.i64.wrap ((s * mI x : Nat) : Int) = ((s * mI x : Nat) : Int) := IntWalk.i64_in _ (by omega)
    have gk : IntKind.i64.wrap (IntKind.i64.wrap ((s : Int) * (mI x : Int)) + (i : Int)) = (kk : Int) := by rw [eM, gk0, IntWalk.i64_in _ (by omega)]; omega
    refine AWP.next fun K8 hK8 => ?_
    refine AWP.reg TTab_ok hC [1, 2, 3, 4, 5, 6, 7, 34] fun K hK => ?_
    simp (maxSteps := 2000000) [go_sem, encM, encR, encE, encW, encL, ownW, ownL, encLD, encB, ownS, appendOwnA, encMD, encTD, encC]
    with_reducible refine hK _ ?_
    clear hK K
    refine AWP.condW fun T F hT hF => ?_
    simp (maxSteps := 2000000) [go_sem, encM, encR, encE, encW, encL, ownW, ownL, encLD, encB, ownS, appendOwnA, encMD, encTD, encC]
    refine ⟨fun c8 => hT ?_, fun c8 => hF ?_⟩
    · clear hT hF T F
      have hvb := h.v kk
      refine AWP.skip (hK8 _ ?_)
      clear hK8
      refine AWP.nextJ (X := Unit) [1, 2, 3, 4, 5, 6, 7] (fun z => True) (fun z => ofL [(1, .own (.box (encMD x))), (2, .own (.box (.agg [.atom (.int .i64 0), .atom (.int .i64 0), .osl 1 true []]))), (3, .d (.atom (.int .i64 (mN x)))), (4, .own (.box (.agg [.atom (.int .i64 (mI x)), .atom (.int .i64 (mO x)), .osl 1 rs.isEmpty (rs.map ownRT)]))), (5, .d (.atom (.int .i64 s))), (6, .own (.osl 2 (row ++ [mE x s i]).isEmpty ((row ++ [mE x s i]).map encE))), (7, .d (.atom (.int .i64 i)))]) ?_ ?_
      · intro z hz
        refine AWP.regEnd TTab_ok hC fun K hK => ?_
        simp (maxSteps := 2000000) [go_sem, encM, encR, encE, encW, encL, ownW, ownL, encLD, encB, ownS, appendOwnA, encMD, encTD, encC]
        with_reducible refine hK _ ?_
        clear hK K
        refine hJ7 _ (i + 1, row ++ [mE x s i]) ?_ ?_ ?_
        · exact ⟨by dsimp only; omega, by dsimp only; rw [hrow, List.range_succ]; simp⟩
        · dsimp only; omega
        simp (maxSteps := 2000000) [go_sem, encM, encR, encE, encW, encL, ownW, ownL, encLD, encB, ownS, appendOwnA, encMD, encTD, encC]
        rw [IntWalk.i64_in _ (by omega)]
      intro K10 hK10
      refine AWP.block ?_
      refine AWP.reg TTab_ok hC [1, 2, 3, 4, 5, 6, 7, 8] fun K hK => ?_
      simp (maxSteps := 2000000) [go_sem, encM, encR, encE, encW, encL, ownW, ownL, encLD, encB, ownS, appendOwnA, encMD, encTD, encC]
      with_reducible refine hK _ ?_
      clear hK K
      refine AWP.nextJ (X := Unit) [1, 2, 3, 4, 5, 6, 7, 8] (fun z => True) (fun z => ofL [(1, .own (.box (encMD x))), (2, .own (.box (.agg [.atom (.int .i64 0), .atom (.int .i64 0), .osl 1 true []]))), (3, .d (.atom (.int .i64 (mN x)))), (4, .own (.box (.agg [.atom (.int .i64 (mI x)), .atom (.int .i64 (mO x)), .osl 1 rs.isEmpty (rs.map ownRT)]))), (5, .d (.atom (.int .i64 s))), (6, .own (.osl 2 row.isEmpty (row.map encE))), (7, .d (.atom (.int .i64 i))), (8, .d (.atom (.int .i64 (mV x kk))))]) ?_ ?_
      · intro z hz
        have hcase : x.part = false ∨ (x.part = true ∧ (mV x kk).tmod 4 = 3) ∨ (x.part = true ∧ ¬ (mV x kk).tmod 4 = 3) := by cases x.part <;> simp <;> omega
        rcases hcase with hp | ⟨hp, h3⟩ | ⟨hp, h3⟩
        · have hme : mE x s i = (((mV x kk).tdiv 4).tmod (mN x), (((mV x kk).tdiv 4).tdiv (mN x)).tmod (mO x)) := by unfold mE mE'; rw [← hkk, if_neg (by simp [hp])]
          refine AWP.reg TTab_ok hC [1, 2, 3, 4, 5, 6, 7, 8, 60] fun K hK => ?_
          simp (maxSteps := 2000000) [go_sem, encM, encR, encE, encW, encL, ownW, ownL, encLD, encB, ownS, appendOwnA, encMD, encTD, encC, hp]
          with_reducible refine hK _ ?_
          clear hK K
          refine AWP.condW fun T F hT hF => ?_
          simp (maxSteps := 2000000) [go_sem, encM, encR, encE, encW, encL, ownW, ownL, encLD, encB, ownS, appendOwnA, encMD, encTD, encC]
          refine hF ?_
          clear hT hF T F
          have q1 : 0 ≤ (mV x kk).tdiv 4 := Int.tdiv_nonneg hvb.1 (by omega)
          have q2 : (mV x kk).tdiv 4 ≤ 65535 := by have := Int.tdiv_le_self 4 hvb.1; omega
          have q3 : 0 ≤ ((mV x kk).tdiv 4).tdiv (mN x) := Int.tdiv_nonneg q1 (by omega)
          have q4 : ((mV x kk).tdiv 4).tdiv (mN x) ≤ 65535 := by have := Int.tdiv_le_self (mN x) q1; omega
          have q5 : IntKind.i64.wrap ((mV x kk).tdiv 4) = (mV x kk).tdiv 4 := IntWalk.i64_in _ (by omega)
          have q6 : IntKind.i64.wrap (((mV x kk).tdiv 4).tdiv (mN x)) = ((mV x kk).tdiv 4).tdiv (mN x) := IntWalk.i64_in _ (by omega)
          refine AWP.drawEnd TTab_ok hC hm fun K hK => ?_
          simp (maxSteps := 2000000) [go_sem, encM, encR, encE, encW, encL, ownW, ownL, encLD, encB, ownS, appendOwnA, encMD, encTD, encC, q5, q6, nz, oz, nz2, oz2, hwl]
          refine ⟨by decide +kernel, ?_⟩
          with_reducible refine hK _ ?_
          clear hK K
          refine hK10 () _ ?_ ?_
          · trivial
          simp (maxSteps := 2000000) [go_sem, encM, encR, encE, encW, encL, ownW, ownL, encLD, encB, ownS, appendOwnA, encMD, encTD, encC, hme, hp]
        · have hme : mE x s i = (-1, -1) := by unfold mE mE'; rw [← hkk, if_pos ⟨hp, h3⟩]
          refine AWP.reg TTab_ok hC [1, 2, 3, 4, 5, 6, 7, 8, 60] fun K hK => ?_
          simp (maxSteps := 2000000) [go_sem, encM, encR, encE, encW, encL, ownW, ownL, encLD, encB, ownS, appendOwnA, encMD, encTD, encC, hp, h3]
          with_reducible refine hK _ ?_
          clear hK K
          refine AWP.condW fun T F hT hF => ?_
          simp (maxSteps := 2000000) [go_sem, encM, encR, encE, encW, encL, ownW, ownL, encLD, encB, ownS, appendOwnA, encMD, encTD, encC]
          refine hT ?_
          clear hT hF T F
          refine AWP.regEnd TTab_ok hC fun K hK => ?_
          simp (maxSteps := 2000000) [go_sem, encM, encR, encE, encW, encL, ownW, ownL, encLD, encB, ownS, appendOwnA, encMD, encTD, encC, hwl]
          with_reducible refine hK _ ?_
          clear hK K
          refine hK10 () _ ?_ ?_
          · trivial
          simp (maxSteps := 2000000) [go_sem, encM, encR, encE, encW, encL, ownW, ownL, encLD, encB, ownS, appendOwnA, encMD, encTD, encC, hme, hp]
        · have hme : mE x s i = (((mV x kk).tdiv 4).tmod (mN x), (((mV x kk).tdiv 4).tdiv (mN x)).tmod (mO x)) := by unfold mE mE'; rw [← hkk, if_neg (fun q => h3 q.2)]
          have h4 : ((mV x kk).tmod 4 == 3) = false := by simp [h3]
          refine AWP.reg TTab_ok hC [1, 2, 3, 4, 5, 6, 7, 8, 60] fun K hK => ?_
          simp (maxSteps := 2000000) [go_sem, encM, encR, encE, encW, encL, ownW, ownL, encLD, encB, ownS, appendOwnA, encMD, encTD, encC, hp, h3, h4]
          with_reducible refine hK _ ?_
          clear hK K
          refine AWP.condW fun T F hT hF => ?_
          simp (maxSteps := 2000000) [go_sem, encM, encR, encE, encW, encL, ownW, ownL, encLD, encB, ownS, appendOwnA, encMD, encTD, encC]
          refine hF ?_
          clear hT hF T F
          have q1 : 0 ≤ (mV x kk).tdiv 4 := Int.tdiv_nonneg hvb.1 (by omega)
          have q2 : (mV x kk).tdiv 4 ≤ 65535 := by have := Int.tdiv_le_self 4 hvb.1; omega
          have q3 : 0 ≤ ((mV x kk).tdiv 4).tdiv (mN x) := Int.tdiv_nonneg q1 (by omega)
          have q4 : ((mV x kk).tdiv 4).tdiv (mN x) ≤ 65535 := by have := Int.tdiv_le_self (mN x) q1; omega
          have q5 : IntKind.i64.wrap ((mV x kk).tdiv 4) = (mV x kk).tdiv 4 := IntWalk.i64_in _ (by omega)
          have q6 : IntKind.i64.wrap (((mV x kk).tdiv 4).tdiv (mN x)) = ((mV x kk).tdiv 4).tdiv (mN x) := IntWalk.i64_in _ (by omega)
          refine AWP.drawEnd TTab_ok hC hm fun K hK => ?_
          simp (maxSteps := 2000000) [go_sem, encM, encR, encE, encW, encL, ownW, ownL, encLD, encB, ownS, appendOwnA, encMD, encTD, encC, q5, q6, nz, oz, nz2, oz2, hwl]
          refine ⟨by decide +kernel, ?_⟩
          with_reducible refine hK _ ?_
          clear hK K
          refine hK10 () _ ?_ ?_
          · trivial
          simp (maxSteps := 2000000) [go_sem, encM, encR, encE, encW, encL, ownW, ownL, encLD, encB, ownS, appendOwnA, encMD, encTD, encC, hme, hp]
      intro K11 hK11
      refine AWP.reg TTab_ok hC [1, 2, 3, 4, 5, 6, 7, 8, 9] fun K hK => ?_
      simp (maxSteps := 2000000) [go_sem, encM, encR, encE, encW, encL, ownW, ownL, encLD, encB, ownS, appendOwnA, encMD, encTD, encC, gk]
      with_reducible refine hK _ ?_
      clear hK K
      refine AWP.reg TTab_ok hC [1, 2, 3, 4, 5, 6, 7, 8, 9, 47] fun K hK => ?_
      simp (maxSteps := 2000000) [go_sem, encM, encR, encE, encW, encL, ownW, ownL, encLD, encB, ownS, appendOwnA, encMD, encTD, encC]
      with_reducible refine hK _ ?_
      clear hK K
      refine AWP.condW fun T F hT hF => ?_
      simp (maxSteps := 2000000) [go_sem, encM, encR, encE, encW, encL, ownW, ownL, encLD, encB, ownS, appendOwnA, encMD, encTD, encC]
      refine ⟨fun c12 => hT ?_, fun c12 => hF ?_⟩
      · clear hT hF T F
        obtain ⟨v, hv⟩ := some_at (show kk < x.es.length by omega)
        have hmv : mV x kk = v := by unfold mV; rw [List.getD_eq_getElem?_getD, hv]; rfl
        have hvw : IntKind.i64.wrap v = v := IntWalk.i64_in _ (by omega)
        refine AWP.regEnd TTab_ok hC fun K hK => ?_
        simp (maxSteps := 2000000) [go_sem, encM, encR, encE, encW, encL, ownW, ownL, encLD, encB, ownS, appendOwnA, encMD, encTD, encC, hv, hvw]
        with_reducible refine hK _ ?_
        clear hK K
        refine hK11 () _ ?_ ?_
        · trivial
        simp (maxSteps := 2000000) [go_sem, encM, encR, encE, encW, encL, ownW, ownL, encLD, encB, ownS, appendOwnA, encMD, encTD, encC, hmv]
      · clear hT hF T F
        have hmv : mV x kk = 0 := by unfold mV; rw [List.getD_eq_getElem?_getD, List.getElem?_eq_none (by omega)]; rfl
        refine AWP.skip (hK11 () _ ?_ ?_)
        · trivial
        simp (maxSteps := 2000000) [go_sem, encM, encR, encE, encW, encL, ownW, ownL, encLD, encB, ownS, appendOwnA, encMD, encTD, encC, hmv]
    · clear hT hF T F
      have hfin2 : row = mRow x s := by rw [hrow, show i = mI x by omega]; rfl
      subst hfin2
      refine AWP.exit (hK6 _ ?_)
      clear hK6
      refine AWP.regEnd TTab_ok hC fun K hK => ?_
      simp (maxSteps := 2000000) [go_sem, encM, encR, encE, encW, encL, ownW, ownL, encLD, encB, ownS, appendOwnA, encMD, encTD, encC, hrl]
      with_reducible refine hK _ ?_
      clear hK K
      refine hK5 _ ?_
      clear hK5
      refine AWP.regEnd TTab_ok hC fun K hK => ?_
      simp (maxSteps := 2000000) [go_sem, encM, encR, encE, encW, encL, ownW, ownL, encLD, encB, ownS, appendOwnA, encMD, encTD, encC]
      with_reducible refine hK _ ?_
      clear hK K
      refine hJ2 _ (s + 1, rs ++ [mRow x s]) ?_ ?_ ?_
      · exact ⟨by dsimp only; omega, by dsimp only; rw [hrs, List.range_succ]; simp⟩
      · dsimp only; omega
      simp (maxSteps := 2000000) [go_sem, encM, encR, encE, encW, encL, ownW, ownL, encLD, encB, ownS, appendOwnA, encMD, encTD, encC, ownRT]
      rw [IntWalk.i64_in _ (by omega)]
  · clear hT hF T F
    have hfin : rs = (mOf x).rows := by rw [hrs, show s = mN x by omega]; rfl
    refine AWP.exit (hK1 _ ?_)
    clear hK1
    refine AWP.reg TTab_ok hC [2] fun K hK => ?_
    simp (maxSteps := 2000000) [go_sem, encM, encR, encE, encW, encL, ownW, ownL, encLD, encB, ownS, appendOwnA, encMD, encTD, encC]
    with_reducible refine hK _ ?_
    clear hK K
    refine AWP.ret (hE _ ?_)
    simp (maxSteps := 2000000) [go_sem, hfin]


end Go.Own
