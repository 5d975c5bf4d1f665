/- Walks. Printed by a program of the prover's. -/
import Derived.Test.YtdnenbcldibnoaaLawB
import Derived.Test.YtdnenbcldibnoaaOwnTT
namespace Go.Own
open Go.Proofs
set_option linter.unusedSimpArgs false
set_option linter.unusedVariables false

set_option maxHeartbeats 1000000 in
theorem wAlpha {ctr : Ctr} (hC : CtrOk Try.prog ctr) (hm : Try.prog.follows .mixedOrders = true)  : spAlpha.Ok Try.prog := by
  intro (x : LD)
  rintro h
  show CallOk _ 84 [encLD x] (.atom (.int .i64 (alpha x)))
  have h : x.Ok := h
  have h3 := tmod_lt h.n0 (show (0 : Int) < 3 by omega)
  have g1 : IntKind.i64.wrap (x.n.tmod 3) = x.n.tmod 3 := IntWalk.i64_in _ (by omega)
  have g2 : IntKind.i64.wrap (1 + x.n.tmod 3) = 1 + x.n.tmod 3 := IntWalk.i64_in _ (by omega)
  refine callOk_w (tt := TTab) (rs := [(2, none)]) (n := ⟨8, none⟩) TTab_ok Try.func84 rfl rfl rfl rfl (by show _ ≤ 8; simp) fun E hE => ?_
  simp (maxSteps := 2000000) [go_sem, encM, encR, encE, encW, encL, ownW, ownL, encLD, encB, ownS, appendOwnA]
  refine AWP.reg TTab_ok hC [1] fun K hK => ?_
  simp (maxSteps := 2000000) [go_sem, encM, encR, encE, encW, encL, ownW, ownL, encLD, encB, ownS, appendOwnA]
  with_reducible refine hK _ ?_
  clear hK K
  refine AWP.reg TTab_ok hC [2] fun K hK => ?_
  simp (maxSteps := 2000000) [go_sem, encM, encR, encE, encW, encL, ownW, ownL, encLD, encB, ownS, appendOwnA, g1, g2]
  with_reducible refine hK _ ?_
  clear hK K
  refine AWP.ret (hE _ ?_)
  simp [go_sem, alpha]

set_option maxHeartbeats 1000000 in
theorem wLOf {ctr : Ctr} (hC : CtrOk Try.prog ctr) (hm : Try.prog.follows .mixedOrders = true) (hRaw : ctr.Has spRaw) (hSort : ctr.Has spSort) : spLOf.Ok Try.prog := by
  intro (x : LD)
  rintro h
  show CallOk _ 14 [encLD x] (ownS (sortF (rawF x)))
  have h : x.Ok := h
  have h40 : (rawF x).length ≤ 40 := by simp [rawF]; omega
  have h12 : ∀ w ∈ rawF x, w.length ≤ 4096 := by
    intro w hw
    simp only [rawF, List.mem_map] at hw
    obtain ⟨u, _, rfl⟩ := hw
    simp [rawW]; omega
  refine callOk_w (tt := TTab) (rs := [(2, none)]) (n := ⟨6, none⟩) TTab_ok Try.func14 rfl rfl rfl rfl (by show _ ≤ 6; simp) fun E hE => ?_
  simp (maxSteps := 2000000) [go_sem, encM, encR, encE, encW, encL, ownW, ownL, encLD, encB, ownS, appendOwnA]
  refine AWP.reg TTab_ok hC [1] fun K hK => ?_
  simp (maxSteps := 2000000) [go_sem, encM, encR, encE, encW, encL, ownW, ownL, encLD, encB, ownS, appendOwnA]
  with_reducible refine hK _ ?_
  clear hK K
  have qRaw := spRaw_run hRaw h
  try simp only [encM, encR, encE, encW, encL, ownW, ownL, encLD, encB, ownS, appendOwnA] at qRaw
  have qSort := spSort_run hSort (by omega) h12
  try simp only [encM, encR, encE, encW, encL, ownW, ownL, encLD, encB, ownS, appendOwnA] at qSort
  refine AWP.reg TTab_ok hC [2] fun K hK => ?_
  simp (maxSteps := 2000000) [go_sem, encM, encR, encE, encW, encL, ownW, ownL, encLD, encB, ownS, appendOwnA, qRaw, (spRaw_at hRaw).1, (spRaw_at hRaw).2.1, (spRaw_at hRaw).2.2, qSort, (spSort_at hSort).1, (spSort_at hSort).2.1, (spSort_at hSort).2.2]
  with_reducible refine hK _ ?_
  clear hK K
  refine AWP.ret (hE _ ?_)
  simp (maxSteps := 2000000) [go_sem, encM, encR, encE, encW, encL, ownW, ownL, encLD, encB, ownS, appendOwnA]

set_option maxHeartbeats 1000000 in
theorem wSort {ctr : Ctr} (hC : CtrOk Try.prog ctr) (hm : Try.prog.follows .mixedOrders = true) (hPut : ctr.Has spPut) : spSort.Ok Try.prog := by
  intro (l : List (List Int))
  rintro ⟨hl, hs⟩
  show CallOk _ 49 [encL l] (ownS (sortF l))
  have hl : l.length ≤ 4000 := hl
  have hs : ∀ x ∈ l, x.length ≤ 4096 := hs
  refine CallOk.loose (r := .osl 1 (l.length == 0) ((sortF l).map encW)) ?_ (by simp only [ownS, loose_osl, looses_encW])
  refine callOk_w (tt := TTab) (rs := [(2, none)]) (n := ⟨18, none⟩) TTab_ok Try.func49 rfl rfl rfl rfl (by show _ ≤ 18; simp) fun E hE => ?_
  simp (maxSteps := 2000000) [go_sem, encM, encR, encE, encW, encL, ownW, ownL, encLD, encB, ownS, appendOwnA]
  refine AWP.reg TTab_ok hC [0] fun K hK => ?_
  simp (maxSteps := 2000000) [go_sem, encM, encR, encE, encW, encL, ownW, ownL, encLD, encB, ownS, appendOwnA]
  with_reducible refine hK _ ?_
  clear hK K
  refine AWP.reg TTab_ok hC [0, 3] fun K hK => ?_
  simp (maxSteps := 2000000) [go_sem, encM, encR, encE, encW, encL, ownW, ownL, encLD, encB, ownS, appendOwnA]
  with_reducible refine hK _ ?_
  clear hK K
  refine AWP.next fun K1 hK1 => ?_
  refine AWP.reg TTab_ok hC [0, 3, 4] fun K hK => ?_
  simp (maxSteps := 2000000) [go_sem, encM, encR, encE, encW, encL, ownW, ownL, encLD, encB, ownS, appendOwnA]
  with_reducible refine hK _ ?_
  clear hK K
  refine AWP.block ?_
  refine AWP.loopX (X := Nat) [0, 3, 4] (fun i => i ≤ l.length) (fun i => l.length - i) (fun i => ofL [(0, .d (encL l)), (3, .own (.osl 1 (i == 0) ((sortF (l.take i)).map encW))), (4, .d (.atom (.int .i64 i)))]) (0) ?_ ?_ ?_
  · exact Nat.zero_le _
  · simp (maxSteps := 2000000) [go_sem, encM, encR, encE, encW, encL, ownW, ownL, encLD, encB, ownS, appendOwnA, sortF]
  intro i hx J2 hJ2
  refine AWP.next fun K3 hK3 => ?_
  refine AWP.reg TTab_ok hC [0, 3, 4, 8] fun K hK => ?_
  simp (maxSteps := 2000000) [go_sem, encM, encR, encE, encW, encL, ownW, ownL, encLD, encB, ownS, appendOwnA]
  with_reducible refine hK _ ?_
  clear hK K
  refine AWP.condW fun T F hT hF => ?_
  simp (maxSteps := 2000000) [go_sem, encM, encR, encE, encW, encL, ownW, ownL, encLD, encB, ownS, appendOwnA]
  refine ⟨fun c3 => hT ?_, fun c3 => hF ?_⟩
  · clear hT hF T F
    obtain ⟨u, hu⟩ := some_at (show i < l.length by omega)
    have hmem : ∀ y ∈ sortF (l.take i), y ∈ l := fun y hy => List.mem_of_mem_take (sortF_mem hy)
    have hlen := sortF_length (l.take i)
    have hlt : (l.take i).length = i := by simp; omega
    have htk : sortF (l.take (i + 1)) = putF (sortF (l.take i)) u := by rw [← sortF_snoc, List.take_add_one, hu]; rfl
    refine AWP.skip (hK3 _ ?_)
    clear hK3
    refine AWP.next fun K5 hK5 => ?_
    refine AWP.block ?_
    have qPut := spPut_run hPut (l := sortF (l.take i)) (w := u) (sortF_asc _) (by omega) (hs u (List.mem_of_getElem? hu)) (fun y hy => hs y (hmem y hy))
    try simp only [encM, encR, encE, encW, encL, ownW, ownL, encLD, encB, ownS, appendOwnA] at qPut
    refine AWP.regEnd TTab_ok hC fun K hK => ?_
    simp (maxSteps := 2000000) [go_sem, encM, encR, encE, encW, encL, ownW, ownL, encLD, encB, ownS, appendOwnA, hu, qPut, (spPut_at hPut).1, (spPut_at hPut).2.1, (spPut_at hPut).2.2]
    with_reducible refine hK _ ?_
    clear hK K
    refine hK5 _ ?_
    clear hK5
    refine AWP.regEnd TTab_ok hC fun K hK => ?_
    simp (maxSteps := 2000000) [go_sem, encM, encR, encE, encW, encL, ownW, ownL, encLD, encB, ownS, appendOwnA]
    with_reducible refine hK _ ?_
    clear hK K
    refine hJ2 _ (i + 1) ?_ ?_ ?_
    · omega
    · omega
    simp (maxSteps := 2000000) [go_sem, encM, encR, encE, encW, encL, ownW, ownL, encLD, encB, ownS, appendOwnA, htk]
    rw [IntWalk.i64_in _ (by omega)]
  · clear hT hF T F
    refine AWP.exit (hK1 _ ?_)
    clear hK1
    refine AWP.reg TTab_ok hC [2] fun K hK => ?_
    simp (maxSteps := 2000000) [go_sem, encM, encR, encE, encW, encL, ownW, ownL, encLD, encB, ownS, appendOwnA]
    with_reducible refine hK _ ?_
    clear hK K
    refine AWP.ret (hE _ ?_)
    have hil : i = l.length := by omega
    subst hil
    simp [go_sem]

set_option maxHeartbeats 1000000 in
theorem wPut {ctr : Ctr} (hC : CtrOk Try.prog ctr) (hm : Try.prog.follows .mixedOrders = true) (hRCmp : ctr.Has spRCmp) : spPut.Ok Try.prog := by
  rintro ⟨l, w⟩ ⟨ha, hl, hw, hs⟩
  show CallOk _ 83 [ownS l, encW w] (ownS (putF l w))
  have ha : Asc l := ha
  have hl : l.length ≤ 4000 := hl
  have hw : w.length ≤ 4096 := hw
  have hs : ∀ x ∈ l, x.length ≤ 4096 := hs
  have hp := putP_le l w
  have hl10 : l.length ≤ 4294967295 := by omega
  have hw10 : w.length ≤ 4294967296 := by omega
  have hwl : IntKind.i64.wrap (l.length : Int) = l.length := IntWalk.i64_in _ (by omega)
  refine CallOk.loose (r := .osl 1 false (A.shuts (putE l w))) (CallOk.shutE (es := putE l w) ?_ (putE_lives l w)) (putE_eq l w)
  refine callOk_w (tt := TTab) (rs := [(4, none)]) (n := ⟨68, none⟩) TTab_ok Try.func83 rfl rfl rfl rfl (by show _ ≤ 68; simp) fun E hE => ?_
  simp (maxSteps := 2000000) [go_sem, encM, encR, encE, encW, encL, ownW, ownL, encLD, encB, ownS, appendOwnA]
  refine AWP.reg TTab_ok hC [0, 1] fun K hK => ?_
  simp (maxSteps := 2000000) [go_sem, encM, encR, encE, encW, encL, ownW, ownL, encLD, encB, ownS, appendOwnA]
  with_reducible refine hK _ ?_
  clear hK K
  refine AWP.reg TTab_ok hC [0, 1, 5] fun K hK => ?_
  simp (maxSteps := 2000000) [go_sem, encM, encR, encE, encW, encL, ownW, ownL, encLD, encB, ownS, appendOwnA]
  with_reducible refine hK _ ?_
  clear hK K
  refine AWP.reg TTab_ok hC [0, 1, 5, 6] fun K hK => ?_
  simp (maxSteps := 2000000) [go_sem, encM, encR, encE, encW, encL, ownW, ownL, encLD, encB, ownS, appendOwnA]
  with_reducible refine hK _ ?_
  clear hK K
  refine AWP.next fun K1 hK1 => ?_
  refine AWP.block ?_
  refine AWP.loopX (X := Nat × Nat) [0, 1, 5, 6] (fun x => x.1 ≤ x.2 ∧ x.2 ≤ l.length ∧ (∀ j y, j < x.1 → l[j]? = some y → wcmp y w < 0) ∧ (∀ j y, x.2 ≤ j → l[j]? = some y → ¬ wcmp y w < 0)) (fun x => x.2 - x.1) (fun x => ofL [(0, .own (ownS l)), (1, .d (encW w)), (5, .d (.atom (.int .i64 x.1))), (6, .d (.atom (.int .i64 x.2)))]) ((0, l.length)) ?_ ?_ ?_
  · exact ⟨Nat.zero_le _, Nat.le_refl _, fun j y h => by omega, fun j y h e => by have := (List.getElem?_eq_some_iff.1 e).1; omega⟩
  · simp (maxSteps := 2000000) [go_sem, encM, encR, encE, encW, encL, ownW, ownL, encLD, encB, ownS, appendOwnA]
  intro x hx J2 hJ2
  obtain ⟨lo, hi⟩ := x
  dsimp only at hx ⊢
  obtain ⟨h1, h2, h3, h4⟩ := hx
  refine AWP.next fun K3 hK3 => ?_
  refine AWP.reg TTab_ok hC [0, 1, 5, 6, 13] fun K hK => ?_
  simp (maxSteps := 2000000) [go_sem, encM, encR, encE, encW, encL, ownW, ownL, encLD, encB, ownS, appendOwnA]
  with_reducible refine hK _ ?_
  clear hK K
  refine AWP.condW fun T F hT hF => ?_
  simp (maxSteps := 2000000) [go_sem, encM, encR, encE, encW, encL, ownW, ownL, encLD, encB, ownS, appendOwnA]
  refine ⟨fun c3 => hT ?_, fun c3 => hF ?_⟩
  · clear hT hF T F
    obtain ⟨mm, hmm⟩ : ∃ mm, mm = (lo + hi) / 2 := ⟨_, rfl⟩
    obtain ⟨u, hu⟩ := some_at (show mm < l.length by omega)
    have hu2 : ∀ h, l[mm]'h = u := fun h => by rw [List.getElem?_eq_getElem h] at hu; exact Option.some.inj hu
    have hm2 : mm < l.length := by omega
    have w1 : IntKind.i64.wrap ((lo : Int) + hi) = (lo : Int) + hi := IntWalk.i64_in _ (by omega)
    have hmid : IntKind.i64.wrap ((IntKind.i64.wrap ((lo : Int) + hi)).tdiv 2) = (mm : Int) := by rw [w1, Int.tdiv_eq_ediv_of_nonneg (by omega), IntWalk.i64_in _ (by omega)]; omega
    have hmid1 : IntKind.i64.wrap ((mm : Int) + 1) = (mm : Int) + 1 := IntWalk.i64_in _ (by omega)
    refine AWP.skip (hK3 _ ?_)
    clear hK3
    refine AWP.block ?_
    refine AWP.reg TTab_ok hC [0, 1, 5, 6, 7] fun K hK => ?_
    simp (maxSteps := 2000000) [go_sem, encM, encR, encE, encW, encL, ownW, ownL, encLD, encB, ownS, appendOwnA, hmid]
    with_reducible refine hK _ ?_
    clear hK K
    have qRCmp := spRCmp_run hRCmp (a := u) (b := w) (hs u (List.mem_of_getElem? hu)) hw
    try simp only [encM, encR, encE, encW, encL, ownW, ownL, encLD, encB, ownS, appendOwnA] at qRCmp
    refine AWP.reg TTab_ok hC [0, 1, 5, 6, 7, 24] fun K hK => ?_
    simp (maxSteps := 2000000) [go_sem, encM, encR, encE, encW, encL, ownW, ownL, encLD, encB, ownS, appendOwnA, hm2, hu, hu2, qRCmp, (spRCmp_at hRCmp).1, (spRCmp_at hRCmp).2.1, (spRCmp_at hRCmp).2.2]
    with_reducible refine hK _ ?_
    clear hK K
    refine AWP.condW fun T F hT hF => ?_
    simp (maxSteps := 2000000) [go_sem, encM, encR, encE, encW, encL, ownW, ownL, encLD, encB, ownS, appendOwnA]
    refine ⟨fun c5 => hT ?_, fun c5 => hF ?_⟩
    · clear hT hF T F
      refine AWP.regEnd TTab_ok hC fun K hK => ?_
      simp (maxSteps := 2000000) [go_sem, encM, encR, encE, encW, encL, ownW, ownL, encLD, encB, ownS, appendOwnA]
      with_reducible refine hK _ ?_
      clear hK K
      refine hJ2 _ (mm + 1, hi) ?_ ?_ ?_
      · refine ⟨by dsimp only; omega, h2, ?_, h4⟩
        intro j y hj hy
        rcases Nat.lt_or_ge j (mm) with q | q
        · exact wcmp_trans (ha.lt' q hy hu) c5
        · rw [show j = mm by dsimp only at hj; omega, hu] at hy; rw [← Option.some.inj hy]; exact c5
      · dsimp only; omega
      simp (maxSteps := 2000000) [go_sem, encM, encR, encE, encW, encL, ownW, ownL, encLD, encB, ownS, appendOwnA, hmid1]
    · clear hT hF T F
      refine AWP.regEnd TTab_ok hC fun K hK => ?_
      simp (maxSteps := 2000000) [go_sem, encM, encR, encE, encW, encL, ownW, ownL, encLD, encB, ownS, appendOwnA]
      with_reducible refine hK _ ?_
      clear hK K
      refine hJ2 _ (lo, mm) ?_ ?_ ?_
      · refine ⟨by dsimp only; omega, by dsimp only; omega, h3, ?_⟩
        intro j y hj hy hlt
        rcases Nat.lt_or_ge (mm) j with q | q
        · have := wcmp_trans (ha.lt' q hu hy) hlt; omega
        · rw [show j = mm by dsimp only at hj; omega, hu] at hy; rw [← Option.some.inj hy] at hlt; omega
      · dsimp only; omega
      simp (maxSteps := 2000000) [go_sem, encM, encR, encE, encW, encL, ownW, ownL, encLD, encB, ownS, appendOwnA]
  · clear hT hF T F
    have hpe : putP l w = lo := putP_eq (by omega) h3 (fun x hx => h4 lo x (by omega) hx)
    refine AWP.exit (hK1 _ ?_)
    clear hK1
    refine AWP.nextJ (X := Unit) [0, 1, 5] (fun z => l[lo]? ≠ some w) (fun z => ofL [(0, .own (ownS l)), (1, .d (encW w)), (5, .d (.atom (.int .i64 lo)))]) ?_ ?_
    · intro z hz
      refine AWP.reg TTab_ok hC [0, 1, 5] fun K hK => ?_
      simp (maxSteps := 2000000) [go_sem, encM, encR, encE, encW, encL, ownW, ownL, encLD, encB, ownS, appendOwnA, hl10]
      with_reducible refine hK _ ?_
      clear hK K
      refine AWP.next fun K7 hK7 => ?_
      refine AWP.reg TTab_ok hC [0, 1, 5, 8] fun K hK => ?_
      simp (maxSteps := 2000000) [go_sem, encM, encR, encE, encW, encL, ownW, ownL, encLD, encB, ownS, appendOwnA]
      with_reducible refine hK _ ?_
      clear hK K
      refine AWP.block ?_
      refine AWP.loopX (X := Nat × List A) [0, 1, 5, 8] (fun x => lo ≤ x.1 ∧ x.1 ≤ l.length ∧ ∃ g : A, g.size = 1 ∧ x.2 = (l.map encW).take x.1 ++ g :: (l.map encW).drop x.1) (fun x => x.1) (fun x => ofL [(0, .own (.osl 1 false x.2)), (1, .d (encW w)), (5, .d (.atom (.int .i64 lo))), (8, .d (.atom (.int .i64 x.1)))]) ((l.length, l.map encW ++ [.osl 1 true []])) ?_ ?_ ?_
      · exact ⟨by omega, Nat.le_refl _, .osl 1 true [], rfl, by rw [List.take_of_length_le (by simp), List.drop_eq_nil_of_le (by simp)]⟩
      · simp (maxSteps := 2000000) [go_sem, encM, encR, encE, encW, encL, ownW, ownL, encLD, encB, ownS, appendOwnA, hwl]
      intro x hx J8 hJ8
      obtain ⟨i, E2⟩ := x
      dsimp only at hx ⊢
      obtain ⟨k1, k2, g, hg, hE2⟩ := hx
      have kl : (l.map encW).length = l.length := by simp
      have kE : i < E2.length := by rw [hE2]; simp; omega
      have kg : E2[i]? = some g := by rw [hE2]; exact set_at (by simp; omega)
      have kg2 : ∀ h, E2[i]'h = g := fun h => by rw [List.getElem?_eq_getElem h] at kg; exact Option.some.inj kg
      refine AWP.next fun K9 hK9 => ?_
      refine AWP.reg TTab_ok hC [0, 1, 5, 8, 50] fun K hK => ?_
      simp (maxSteps := 2000000) [go_sem, encM, encR, encE, encW, encL, ownW, ownL, encLD, encB, ownS, appendOwnA]
      with_reducible refine hK _ ?_
      clear hK K
      refine AWP.condW fun T F hT hF => ?_
      simp (maxSteps := 2000000) [go_sem, encM, encR, encE, encW, encL, ownW, ownL, encLD, encB, ownS, appendOwnA]
      refine ⟨fun c12 => hT ?_, fun c12 => hF ?_⟩
      · clear hT hF T F
        obtain ⟨a, hal⟩ := some_at (show i - 1 < l.length by omega)
        have kE1 : i - 1 < E2.length := by omega
        have ka : E2[i - 1]? = some (encW a) := by rw [hE2, List.getElem?_append_left (by simp; omega), List.getElem?_take_of_lt (by omega)]; simp [hal]
        simp only [encW] at ka
        have ka2 : ∀ h, E2[i - 1]'h = .sl 1 false (a.map fun x => .atom (.int .i64 x)) := fun h => by rw [List.getElem?_eq_getElem h] at ka; exact Option.some.inj ka
        have hw1 : IntKind.i64.wrap ((i : Int) - 1) = ((i - 1 : Nat) : Int) := by rw [IntWalk.i64_in _ (by omega)]; omega
        refine AWP.skip (hK9 _ ?_)
        clear hK9
        refine AWP.next fun K11 hK11 => ?_
        refine AWP.block ?_
        refine AWP.regEnd TTab_ok hC fun K hK => ?_
        simp (maxSteps := 2000000) [go_sem, encM, encR, encE, encW, encL, ownW, ownL, encLD, encB, ownS, appendOwnA, kE, kg, kg2, kE1, ka, ka2, hw1, hg]
        with_reducible refine hK _ ?_
        clear hK K
        refine hK11 _ ?_
        clear hK11
        refine AWP.regEnd TTab_ok hC fun K hK => ?_
        simp (maxSteps := 2000000) [go_sem, encM, encR, encE, encW, encL, ownW, ownL, encLD, encB, ownS, appendOwnA, hw1]
        with_reducible refine hK _ ?_
        clear hK K
        refine hJ8 _ (i - 1, E2.set i (encW a)) ?_ ?_ ?_
        · refine ⟨by dsimp only; omega, by dsimp only; omega, encW a, rfl, ?_⟩
          dsimp only
          rw [hE2]
          exact shift_at (by omega) (by simp; omega) (by simp [hal])
        · dsimp only; omega
        simp (maxSteps := 2000000) [go_sem, encM, encR, encE, encW, encL, ownW, ownL, encLD, encB, ownS, appendOwnA]
      · clear hT hF T F
        have hil : i = lo := by omega
        subst hil
        refine AWP.exit (hK7 _ ?_)
        clear hK7
        refine AWP.reg TTab_ok hC [0] fun K hK => ?_
        simp (maxSteps := 2000000) [go_sem, encM, encR, encE, encW, encL, ownW, ownL, encLD, encB, ownS, appendOwnA, kE, kg, kg2, hg, hw10]
        with_reducible refine hK _ ?_
        clear hK K
        refine AWP.reg TTab_ok hC [4] fun K hK => ?_
        simp (maxSteps := 2000000) [go_sem, encM, encR, encE, encW, encL, ownW, ownL, encLD, encB, ownS, appendOwnA]
        with_reducible refine hK _ ?_
        clear hK K
        refine AWP.ret (hE _ ?_)
        simp (maxSteps := 2000000) [go_sem, putE, hpe, hz]
        rw [hE2]
        exact put_at (by simp; omega)
    intro K6 hK6
    have hcase : l[lo]? = some w ∨ l.length ≤ lo ∨ ∃ u, l[lo]? = some u ∧ u ≠ w := by
      rcases Nat.lt_or_ge lo l.length with q | q
      · obtain ⟨u, hu⟩ := some_at q
        by_cases e : u = w
        · left; rw [hu, e]
        · exact .inr (.inr ⟨u, hu, e⟩)
      · exact .inr (.inl q)
    rcases hcase with h1 | h1 | ⟨u, h1, h2⟩
    · have g1 : lo < l.length := (List.getElem?_eq_some_iff.1 h1).1
      have g2 : ∀ h, l[lo]'h = w := fun h => by rw [List.getElem?_eq_getElem h] at h1; exact Option.some.inj h1
      have g3 : wcmp w w = 0 := wcmp_zero.2 rfl
      have qRCmpa := spRCmp_run hRCmp (a := w) (b := w) hw hw
      try simp only [encM, encR, encE, encW, encL, ownW, ownL, encLD, encB, ownS, appendOwnA] at qRCmpa
      refine AWP.reg TTab_ok hC [0, 1, 5, 40] fun K hK => ?_
      simp (maxSteps := 2000000) [go_sem, encM, encR, encE, encW, encL, ownW, ownL, encLD, encB, ownS, appendOwnA, g1, h1, g2, g3, qRCmpa, (spRCmp_at hRCmp).1, (spRCmp_at hRCmp).2.1, (spRCmp_at hRCmp).2.2]
      with_reducible refine hK _ ?_
      clear hK K
      refine AWP.condW fun T F hT hF => ?_
      simp (maxSteps := 2000000) [go_sem, encM, encR, encE, encW, encL, ownW, ownL, encLD, encB, ownS, appendOwnA]
      refine hT ?_
      clear hT hF T F
      refine AWP.reg TTab_ok hC [4] fun K hK => ?_
      simp (maxSteps := 2000000) [go_sem, encM, encR, encE, encW, encL, ownW, ownL, encLD, encB, ownS, appendOwnA]
      with_reducible refine hK _ ?_
      clear hK K
      refine AWP.ret (hE _ ?_)
      simp (maxSteps := 2000000) [go_sem, putE, hpe, h1]
    · have g1 : ¬ lo < l.length := by omega
      have hnf : l[lo]? ≠ some w := by rw [List.getElem?_eq_none h1]; simp
      refine AWP.reg TTab_ok hC [0, 1, 5, 40] fun K hK => ?_
      simp (maxSteps := 2000000) [go_sem, encM, encR, encE, encW, encL, ownW, ownL, encLD, encB, ownS, appendOwnA, g1]
      with_reducible refine hK _ ?_
      clear hK K
      refine AWP.condW fun T F hT hF => ?_
      simp (maxSteps := 2000000) [go_sem, encM, encR, encE, encW, encL, ownW, ownL, encLD, encB, ownS, appendOwnA]
      refine hF ?_
      clear hT hF T F
      refine AWP.skip (hK6 () _ ?_ ?_)
      · exact hnf
      simp (maxSteps := 2000000) [go_sem, encM, encR, encE, encW, encL, ownW, ownL, encLD, encB, ownS, appendOwnA]
    · have g1 : lo < l.length := (List.getElem?_eq_some_iff.1 h1).1
      have g2 : ∀ h, l[lo]'h = u := fun h => by rw [List.getElem?_eq_getElem h] at h1; exact Option.some.inj h1
      have g3 : ¬ wcmp u w = 0 := fun e => h2 (wcmp_zero.1 e)
      have g4 : (wcmp u w == 0) = false := by simp [g3]
      have hnf : l[lo]? ≠ some w := by rw [h1]; intro e; exact h2 (Option.some.inj e)
      have qRCmpb := spRCmp_run hRCmp (a := u) (b := w) (hs u (List.mem_of_getElem? h1)) hw
      try simp only [encM, encR, encE, encW, encL, ownW, ownL, encLD, encB, ownS, appendOwnA] at qRCmpb
      refine AWP.reg TTab_ok hC [0, 1, 5, 40] fun K hK => ?_
      simp (maxSteps := 2000000) [go_sem, encM, encR, encE, encW, encL, ownW, ownL, encLD, encB, ownS, appendOwnA, g1, h1, g2, g3, g4, qRCmpb, (spRCmp_at hRCmp).1, (spRCmp_at hRCmp).2.1, (spRCmp_at hRCmp).2.2]
      with_reducible refine hK _ ?_
      clear hK K
      refine AWP.condW fun T F hT hF => ?_
      simp (maxSteps := 2000000) [go_sem, encM, encR, encE, encW, encL, ownW, ownL, encLD, encB, ownS, appendOwnA]
      refine hF ?_
      clear hT hF T F
      refine AWP.skip (hK6 () _ ?_ ?_)
      · exact hnf
      simp (maxSteps := 2000000) [go_sem, encM, encR, encE, encW, encL, ownW, ownL, encLD, encB, ownS, appendOwnA]

set_option maxHeartbeats 1000000 in
theorem wRaw {ctr : Ctr} (hC : CtrOk Try.prog ctr) (hm : Try.prog.follows .mixedOrders = true) (hAlpha : ctr.Has spAlpha) : spRaw.Ok Try.prog := by
  intro (x : LD)
  rintro h
  show CallOk _ 50 [encLD x] (ownL (rawF x))
  have h : x.Ok := h
  have hal := h.alpha
  have hne : ¬ alpha x = 0 := by omega
  refine CallOk.loose (r := .osl 1 (rawF x).isEmpty ((rawF x).map ownT)) ?_ (by simp only [ownL, loose_osl, looses_ownT])
  refine callOk_w (tt := TTab) (rs := [(2, none)]) (n := ⟨53, none⟩) TTab_ok Try.func50 rfl rfl rfl rfl (by show _ ≤ 53; simp) fun E hE => ?_
  simp (maxSteps := 2000000) [go_sem, encM, encR, encE, encW, encL, ownW, ownL, encLD, encB, ownS, appendOwnA]
  refine AWP.reg TTab_ok hC [1] fun K hK => ?_
  simp (maxSteps := 2000000) [go_sem, encM, encR, encE, encW, encL, ownW, ownL, encLD, encB, ownS, appendOwnA]
  with_reducible refine hK _ ?_
  clear hK K
  refine AWP.reg TTab_ok hC [1, 3] fun K hK => ?_
  simp (maxSteps := 2000000) [go_sem, encM, encR, encE, encW, encL, ownW, ownL, encLD, encB, ownS, appendOwnA]
  with_reducible refine hK _ ?_
  clear hK K
  refine AWP.next fun K1 hK1 => ?_
  refine AWP.reg TTab_ok hC [1, 3, 4] fun K hK => ?_
  simp (maxSteps := 2000000) [go_sem, encM, encR, encE, encW, encL, ownW, ownL, encLD, encB, ownS, appendOwnA]
  with_reducible refine hK _ ?_
  clear hK K
  refine AWP.block ?_
  refine AWP.loopX (X := Nat × List (List Int)) [1, 3, 4] (fun y => y.1 ≤ x.ws.length ∧ y.1 ≤ 40 ∧ y.2 = (x.ws.take y.1).map (rawW x)) (fun y => 40 - y.1) (fun y => ofL [(1, .own (.box (encLD x))), (3, .own (.osl 1 y.2.isEmpty (y.2.map ownT))), (4, .d (.atom (.int .i64 y.1)))]) ((0, [])) ?_ ?_ ?_
  · exact ⟨Nat.zero_le _, Nat.zero_le _, rfl⟩
  · simp (maxSteps := 2000000) [go_sem, encM, encR, encE, encW, encL, ownW, ownL, encLD, encB, ownS, appendOwnA]
  intro y hx J2 hJ2
  obtain ⟨i, acc⟩ := y
  dsimp only at hx ⊢
  obtain ⟨h1, h2, hacc⟩ := hx
  have hil : acc.length ≤ 40 := by rw [hacc]; simp; omega
  have hil2 : acc.length ≤ 4294967295 := by omega
  refine AWP.next fun K3 hK3 => ?_
  have hcase : (i < x.ws.length ∧ i < 40) ∨ ¬ i < x.ws.length ∨ (i < x.ws.length ∧ ¬ i < 40) := by omega
  rcases hcase with ⟨g1, g2⟩ | g1 | ⟨g1, g2⟩
  · have g3 : (i : Int) < 40 := by omega
    obtain ⟨u, hu⟩ := some_at g1
    have hub := h.ws u (List.mem_of_getElem? hu)
    refine AWP.reg TTab_ok hC [1, 3, 4, 15] fun K hK => ?_
    simp (maxSteps := 2000000) [go_sem, encM, encR, encE, encW, encL, ownW, ownL, encLD, encB, ownS, appendOwnA, g1, g2, g3]
    with_reducible refine hK _ ?_
    clear hK K
    refine AWP.condW fun T F hT hF => ?_
    simp (maxSteps := 2000000) [go_sem, encM, encR, encE, encW, encL, ownW, ownL, encLD, encB, ownS, appendOwnA]
    refine hT ?_
    clear hT hF T F
    refine AWP.skip (hK3 _ ?_)
    clear hK3
    refine AWP.next fun K5 hK5 => ?_
    refine AWP.block ?_
    refine AWP.reg TTab_ok hC [1, 3, 4, 5] fun K hK => ?_
    simp (maxSteps := 2000000) [go_sem, encM, encR, encE, encW, encL, ownW, ownL, encLD, encB, ownS, appendOwnA]
    with_reducible refine hK _ ?_
    clear hK K
    refine AWP.next fun K6 hK6 => ?_
    refine AWP.reg TTab_ok hC [1, 3, 4, 5, 6] fun K hK => ?_
    simp (maxSteps := 2000000) [go_sem, encM, encR, encE, encW, encL, ownW, ownL, encLD, encB, ownS, appendOwnA]
    with_reducible refine hK _ ?_
    clear hK K
    refine AWP.block ?_
    refine AWP.loopX (X := Nat × List Int) [1, 3, 4, 5, 6] (fun y => y.1 ≤ u.length ∧ y.1 ≤ 12 ∧ y.2 = (u.take y.1).map fun c => c.tmod (alpha x)) (fun y => 12 - y.1) (fun y => ofL [(1, .own (.box (encLD x))), (3, .own (.osl 1 acc.isEmpty (acc.map ownT))), (4, .d (.atom (.int .i64 i))), (5, .own (.osl 1 y.2.isEmpty (y.2.map fun x => .atom (.int .i64 x)))), (6, .d (.atom (.int .i64 y.1)))]) ((0, [])) ?_ ?_ ?_
    · exact ⟨Nat.zero_le _, Nat.zero_le _, rfl⟩
    · simp (maxSteps := 2000000) [go_sem, encM, encR, encE, encW, encL, ownW, ownL, encLD, encB, ownS, appendOwnA]
    intro y hx J7 hJ7
    obtain ⟨k, a2⟩ := y
    dsimp only at hx ⊢
    obtain ⟨k1, k2, ha2⟩ := hx
    have hkl : a2.length ≤ 12 := by rw [ha2]; simp; omega
    have hkl2 : a2.length ≤ 4294967295 := by omega
    refine AWP.next fun K8 hK8 => ?_
    have hcas2 : (k < u.length ∧ k < 12) ∨ ¬ k < u.length ∨ (k < u.length ∧ ¬ k < 12) := by omega
    rcases hcas2 with ⟨e1, e2⟩ | e1 | ⟨e1, e2⟩
    · have e3 : (k : Int) < 12 := by omega
      obtain ⟨c, hc⟩ := some_at e1
      have hcb := hub c (List.mem_of_getElem? hc)
      have hcw : IntKind.i64.wrap c = c := IntWalk.i64_in _ (by omega)
      refine AWP.reg TTab_ok hC [1, 3, 4, 5, 6, 30] fun K hK => ?_
      simp (maxSteps := 2000000) [go_sem, encM, encR, encE, encW, encL, ownW, ownL, encLD, encB, ownS, appendOwnA, hu, e1, e2, e3]
      with_reducible refine hK _ ?_
      clear hK K
      refine AWP.condW fun T F hT hF => ?_
      simp (maxSteps := 2000000) [go_sem, encM, encR, encE, encW, encL, ownW, ownL, encLD, encB, ownS, appendOwnA]
      refine hT ?_
      clear hT hF T F
      refine AWP.skip (hK8 _ ?_)
      clear hK8
      refine AWP.next fun K10 hK10 => ?_
      refine AWP.block ?_
      have qAlpha := spAlpha_run hAlpha h
      try simp only [encM, encR, encE, encW, encL, ownW, ownL, encLD, encB, ownS, appendOwnA] at qAlpha
      refine AWP.drawEnd TTab_ok hC hm fun K hK => ?_
      simp (maxSteps := 2000000) [go_sem, encM, encR, encE, encW, encL, ownW, ownL, encLD, encB, ownS, appendOwnA, hu, hc, hcw, hne, hkl2, qAlpha, (spAlpha_at hAlpha).1, (spAlpha_at hAlpha).2.1, (spAlpha_at hAlpha).2.2]
      refine ⟨by decide +kernel, ?_⟩
      with_reducible refine hK _ ?_
      clear hK K
      refine hK10 _ ?_
      clear hK10
      refine AWP.regEnd TTab_ok hC fun K hK => ?_
      simp (maxSteps := 2000000) [go_sem, encM, encR, encE, encW, encL, ownW, ownL, encLD, encB, ownS, appendOwnA]
      with_reducible refine hK _ ?_
      clear hK K
      refine hJ7 _ (k + 1, a2 ++ [c.tmod (alpha x)]) ?_ ?_ ?_
      · exact ⟨by dsimp only; omega, by dsimp only; omega, by dsimp only; rw [ha2, List.take_add_one, hc]; simp⟩
      · dsimp only; omega
      simp (maxSteps := 2000000) [go_sem, encM, encR, encE, encW, encL, ownW, ownL, encLD, encB, ownS, appendOwnA]
      rw [IntWalk.i64_in _ (by omega)]
    · have hfin2 : a2 = rawW x u := by rw [ha2, rawW, List.take_of_length_le (by omega), List.take_of_length_le (by omega)]
      subst hfin2
      refine AWP.reg TTab_ok hC [1, 3, 4, 5, 6, 30] fun K hK => ?_
      simp (maxSteps := 2000000) [go_sem, encM, encR, encE, encW, encL, ownW, ownL, encLD, encB, ownS, appendOwnA, hu, e1]
      with_reducible refine hK _ ?_
      clear hK K
      refine AWP.condW fun T F hT hF => ?_
      simp (maxSteps := 2000000) [go_sem, encM, encR, encE, encW, encL, ownW, ownL, encLD, encB, ownS, appendOwnA]
      refine hF ?_
      clear hT hF T F
      refine AWP.exit (hK6 _ ?_)
      clear hK6
      refine AWP.regEnd TTab_ok hC fun K hK => ?_
      simp (maxSteps := 2000000) [go_sem, encM, encR, encE, encW, encL, ownW, ownL, encLD, encB, ownS, appendOwnA, hil2]
      with_reducible refine hK _ ?_
      clear hK K
      refine hK5 _ ?_
      clear hK5
      refine AWP.regEnd TTab_ok hC fun K hK => ?_
      simp (maxSteps := 2000000) [go_sem, encM, encR, encE, encW, encL, ownW, ownL, encLD, encB, ownS, appendOwnA]
      with_reducible refine hK _ ?_
      clear hK K
      refine hJ2 _ (i + 1, acc ++ [rawW x u]) ?_ ?_ ?_
      · exact ⟨by dsimp only; omega, by dsimp only; omega, by dsimp only; rw [hacc, List.take_add_one, hu]; simp⟩
      · dsimp only; omega
      simp (maxSteps := 2000000) [go_sem, encM, encR, encE, encW, encL, ownW, ownL, encLD, encB, ownS, appendOwnA, ownT]
      rw [IntWalk.i64_in _ (by omega)]
    · have e3 : ¬ (k : Int) < 12 := by omega
      have hfin2 : a2 = rawW x u := by rw [ha2, rawW, show k = 12 by omega]
      subst hfin2
      refine AWP.reg TTab_ok hC [1, 3, 4, 5, 6, 30] fun K hK => ?_
      simp (maxSteps := 2000000) [go_sem, encM, encR, encE, encW, encL, ownW, ownL, encLD, encB, ownS, appendOwnA, hu, e1, e2, e3]
      with_reducible refine hK _ ?_
      clear hK K
      refine AWP.condW fun T F hT hF => ?_
      simp (maxSteps := 2000000) [go_sem, encM, encR, encE, encW, encL, ownW, ownL, encLD, encB, ownS, appendOwnA]
      refine hF ?_
      clear hT hF T F
      refine AWP.exit (hK6 _ ?_)
      clear hK6
      refine AWP.regEnd TTab_ok hC fun K hK => ?_
      simp (maxSteps := 2000000) [go_sem, encM, encR, encE, encW, encL, ownW, ownL, encLD, encB, ownS, appendOwnA, hil2]
      with_reducible refine hK _ ?_
      clear hK K
      refine hK5 _ ?_
      clear hK5
      refine AWP.regEnd TTab_ok hC fun K hK => ?_
      simp (maxSteps := 2000000) [go_sem, encM, encR, encE, encW, encL, ownW, ownL, encLD, encB, ownS, appendOwnA]
      with_reducible refine hK _ ?_
      clear hK K
      refine hJ2 _ (i + 1, acc ++ [rawW x u]) ?_ ?_ ?_
      · exact ⟨by dsimp only; omega, by dsimp only; omega, by dsimp only; rw [hacc, List.take_add_one, hu]; simp⟩
      · dsimp only; omega
      simp (maxSteps := 2000000) [go_sem, encM, encR, encE, encW, encL, ownW, ownL, encLD, encB, ownS, appendOwnA, ownT]
      rw [IntWalk.i64_in _ (by omega)]
  · have hfin : acc = rawF x := by rw [hacc, rawF, List.take_of_length_le (by omega), List.take_of_length_le (by omega)]
    refine AWP.reg TTab_ok hC [1, 3, 4, 15] fun K hK => ?_
    simp (maxSteps := 2000000) [go_sem, encM, encR, encE, encW, encL, ownW, ownL, encLD, encB, ownS, appendOwnA, g1]
    with_reducible refine hK _ ?_
    clear hK K
    refine AWP.condW fun T F hT hF => ?_
    simp (maxSteps := 2000000) [go_sem, encM, encR, encE, encW, encL, ownW, ownL, encLD, encB, ownS, appendOwnA]
    refine hF ?_
    clear hT hF T F
    refine AWP.exit (hK1 _ ?_)
    clear hK1
    refine AWP.reg TTab_ok hC [2] fun K hK => ?_
    simp (maxSteps := 2000000) [go_sem, encM, encR, encE, encW, encL, ownW, ownL, encLD, encB, ownS, appendOwnA]
    with_reducible refine hK _ ?_
    clear hK K
    refine AWP.ret (hE _ ?_)
    simp (maxSteps := 2000000) [go_sem, hfin]
  · have g3 : ¬ (i : Int) < 40 := by omega
    have hfin : acc = rawF x := by rw [hacc, rawF, show i = 40 by omega]
    refine AWP.reg TTab_ok hC [1, 3, 4, 15] fun K hK => ?_
    simp (maxSteps := 2000000) [go_sem, encM, encR, encE, encW, encL, ownW, ownL, encLD, encB, ownS, appendOwnA, g1, g2, g3]
    with_reducible refine hK _ ?_
    clear hK K
    refine AWP.condW fun T F hT hF => ?_
    simp (maxSteps := 2000000) [go_sem, encM, encR, encE, encW, encL, ownW, ownL, encLD, encB, ownS, appendOwnA]
    refine hF ?_
    clear hT hF T F
    refine AWP.exit (hK1 _ ?_)
    clear hK1
    refine AWP.reg TTab_ok hC [2] fun K hK => ?_
    simp (maxSteps := 2000000) [go_sem, encM, encR, encE, encW, encL, ownW, ownL, encLD, encB, ownS, appendOwnA]
    with_reducible refine hK _ ?_
    clear hK K
    refine AWP.ret (hE _ ?_)
    simp (maxSteps := 2000000) [go_sem, hfin]

set_option maxHeartbeats 1000000 in
theorem wWithin {ctr : Ctr} (hC : CtrOk Try.prog ctr) (hm : Try.prog.follows .mixedOrders = true) (hSort : ctr.Has spSort) : spWithin.Ok Try.prog := by
  rintro ⟨l, n⟩ ⟨hl, hs, hn⟩
  show CallOk _ 13 [encL l, .atom (.int .i64 n)] (ownS (withinF l n))
  have hl : l.length ≤ 4000 := hl
  have hs : ∀ x ∈ l, x.length ≤ 4096 := hs
  have hn : 1 ≤ n := hn
  have hne : ¬ n = 0 := by omega
  refine callOk_w (tt := TTab) (rs := [(4, none)]) (n := ⟨42, none⟩) TTab_ok Try.func13 rfl rfl rfl rfl (by show _ ≤ 42; simp) fun E hE => ?_
  simp (maxSteps := 2000000) [go_sem, encM, encR, encE, encW, encL, ownW, ownL, encLD, encB, ownS, appendOwnA]
  refine AWP.reg TTab_ok hC [0, 1] fun K hK => ?_
  simp (maxSteps := 2000000) [go_sem, encM, encR, encE, encW, encL, ownW, ownL, encLD, encB, ownS, appendOwnA]
  with_reducible refine hK _ ?_
  clear hK K
  refine AWP.reg TTab_ok hC [0, 1, 5] fun K hK => ?_
  simp (maxSteps := 2000000) [go_sem, encM, encR, encE, encW, encL, ownW, ownL, encLD, encB, ownS, appendOwnA]
  with_reducible refine hK _ ?_
  clear hK K
  refine AWP.next fun K1 hK1 => ?_
  refine AWP.reg TTab_ok hC [0, 1, 5, 6] fun K hK => ?_
  simp (maxSteps := 2000000) [go_sem, encM, encR, encE, encW, encL, ownW, ownL, encLD, encB, ownS, appendOwnA]
  with_reducible refine hK _ ?_
  clear hK K
  refine AWP.block ?_
  refine AWP.loopX (X := Nat × List (List Int)) [0, 1, 5, 6] (fun y => y.1 ≤ l.length ∧ y.2 = (l.take y.1).map fun w => w.map fun c => c.tmod n) (fun y => l.length - y.1) (fun y => ofL [(0, .d (encL l)), (1, .d (.atom (.int .i64 n))), (5, .own (.osl 1 y.2.isEmpty (y.2.map ownT))), (6, .d (.atom (.int .i64 y.1)))]) ((0, [])) ?_ ?_ ?_
  · exact ⟨Nat.zero_le _, rfl⟩
  · simp (maxSteps := 2000000) [go_sem, encM, encR, encE, encW, encL, ownW, ownL, encLD, encB, ownS, appendOwnA]
  intro y hx J2 hJ2
  obtain ⟨i, acc⟩ := y
  dsimp only at hx ⊢
  obtain ⟨h1, hacc⟩ := hx
  have hil : acc.length ≤ 4000 := by rw [hacc]; simp; omega
  have hil2 : acc.length ≤ 4294967295 := by omega
  refine AWP.next fun K3 hK3 => ?_
  refine AWP.reg TTab_ok hC [0, 1, 5, 6, 12] fun K hK => ?_
  simp (maxSteps := 2000000) [go_sem, encM, encR, encE, encW, encL, ownW, ownL, encLD, encB, ownS, appendOwnA]
  with_reducible refine hK _ ?_
  clear hK K
  refine AWP.condW fun T F hT hF => ?_
  simp (maxSteps := 2000000) [go_sem, encM, encR, encE, encW, encL, ownW, ownL, encLD, encB, ownS, appendOwnA]
  refine ⟨fun c3 => hT ?_, fun c3 => hF ?_⟩
  · clear hT hF T F
    obtain ⟨u, hu⟩ := some_at (show i < l.length by omega)
    have hul := hs u (List.mem_of_getElem? hu)
    refine AWP.skip (hK3 _ ?_)
    clear hK3
    refine AWP.next fun K5 hK5 => ?_
    refine AWP.block ?_
    refine AWP.reg TTab_ok hC [0, 1, 5, 6, 7] fun K hK => ?_
    simp (maxSteps := 2000000) [go_sem, encM, encR, encE, encW, encL, ownW, ownL, encLD, encB, ownS, appendOwnA]
    with_reducible refine hK _ ?_
    clear hK K
    refine AWP.next fun K6 hK6 => ?_
    refine AWP.reg TTab_ok hC [0, 1, 5, 6, 7, 8] fun K hK => ?_
    simp (maxSteps := 2000000) [go_sem, encM, encR, encE, encW, encL, ownW, ownL, encLD, encB, ownS, appendOwnA]
    with_reducible refine hK _ ?_
    clear hK K
    refine AWP.block ?_
    refine AWP.loopX (X := Nat × List Int) [0, 1, 5, 6, 7, 8] (fun y => y.1 ≤ u.length ∧ y.2 = (u.take y.1).map fun c => c.tmod n) (fun y => u.length - y.1) (fun y => ofL [(0, .d (encL l)), (1, .d (.atom (.int .i64 n))), (5, .own (.osl 1 acc.isEmpty (acc.map ownT))), (6, .d (.atom (.int .i64 i))), (7, .own (.osl 1 y.2.isEmpty (y.2.map fun x => .atom (.int .i64 x)))), (8, .d (.atom (.int .i64 y.1)))]) ((0, [])) ?_ ?_ ?_
    · exact ⟨Nat.zero_le _, rfl⟩
    · simp (maxSteps := 2000000) [go_sem, encM, encR, encE, encW, encL, ownW, ownL, encLD, encB, ownS, appendOwnA]
    intro y hx J7 hJ7
    obtain ⟨k, a2⟩ := y
    dsimp only at hx ⊢
    obtain ⟨k1, ha2⟩ := hx
    have hkl : a2.length ≤ 4096 := by rw [ha2]; simp; omega
    have hkl2 : a2.length ≤ 4294967295 := by omega
    refine AWP.next fun K8 hK8 => ?_
    refine AWP.reg TTab_ok hC [0, 1, 5, 6, 7, 8, 21] fun K hK => ?_
    simp (maxSteps := 2000000) [go_sem, encM, encR, encE, encW, encL, ownW, ownL, encLD, encB, ownS, appendOwnA, hu]
    with_reducible refine hK _ ?_
    clear hK K
    refine AWP.condW fun T F hT hF => ?_
    simp (maxSteps := 2000000) [go_sem, encM, encR, encE, encW, encL, ownW, ownL, encLD, encB, ownS, appendOwnA]
    refine ⟨fun c7 => hT ?_, fun c7 => hF ?_⟩
    · clear hT hF T F
      obtain ⟨c, hc⟩ := some_at (show k < u.length by omega)
      refine AWP.skip (hK8 _ ?_)
      clear hK8
      refine AWP.next fun K10 hK10 => ?_
      refine AWP.block ?_
      refine AWP.regEnd TTab_ok hC fun K hK => ?_
      simp (maxSteps := 2000000) [go_sem, encM, encR, encE, encW, encL, ownW, ownL, encLD, encB, ownS, appendOwnA, hu, hc, hne, hkl2]
      with_reducible refine hK _ ?_
      clear hK K
      refine hK10 _ ?_
      clear hK10
      refine AWP.regEnd TTab_ok hC fun K hK => ?_
      simp (maxSteps := 2000000) [go_sem, encM, encR, encE, encW, encL, ownW, ownL, encLD, encB, ownS, appendOwnA]
      with_reducible refine hK _ ?_
      clear hK K
      refine hJ7 _ (k + 1, a2 ++ [c.tmod n]) ?_ ?_ ?_
      · exact ⟨by dsimp only; omega, by dsimp only; rw [ha2, List.take_add_one, hc]; simp⟩
      · dsimp only; omega
      simp (maxSteps := 2000000) [go_sem, encM, encR, encE, encW, encL, ownW, ownL, encLD, encB, ownS, appendOwnA]
      rw [IntWalk.i64_in _ (by omega)]
    · clear hT hF T F
      have hfin2 : a2 = u.map fun c => c.tmod n := by rw [ha2, List.take_of_length_le (by omega)]
      subst hfin2
      refine AWP.exit (hK6 _ ?_)
      clear hK6
      refine AWP.regEnd TTab_ok hC fun K hK => ?_
      simp (maxSteps := 2000000) [go_sem, encM, encR, encE, encW, encL, ownW, ownL, encLD, encB, ownS, appendOwnA, hil2]
      with_reducible refine hK _ ?_
      clear hK K
      refine hK5 _ ?_
      clear hK5
      refine AWP.regEnd TTab_ok hC fun K hK => ?_
      simp (maxSteps := 2000000) [go_sem, encM, encR, encE, encW, encL, ownW, ownL, encLD, encB, ownS, appendOwnA]
      with_reducible refine hK _ ?_
      clear hK K
      refine hJ2 _ (i + 1, acc ++ [u.map fun c => c.tmod n]) ?_ ?_ ?_
      · exact ⟨by dsimp only; omega, by dsimp only; rw [hacc, List.take_add_one, hu]; simp⟩
      · dsimp only; omega
      simp (maxSteps := 2000000) [go_sem, encM, encR, encE, encW, encL, ownW, ownL, encLD, encB, ownS, appendOwnA, ownT]
      rw [IntWalk.i64_in _ (by omega)]
  · clear hT hF T F
    have hfin : acc = l.map fun w => w.map fun c => c.tmod n := by rw [hacc, List.take_of_length_le (by omega)]
    refine AWP.exit (hK1 _ ?_)
    clear hK1
    have qSort := spSort_run hSort (l := acc) (by omega) (fun w hw => by rw [hfin] at hw; obtain ⟨v, hv, rfl⟩ := List.mem_map.1 hw; simpa using hs v hv)
    try simp only [encM, encR, encE, encW, encL, ownW, ownL, encLD, encB, ownS, appendOwnA] at qSort
    refine AWP.reg TTab_ok hC [4] fun K hK => ?_
    simp (maxSteps := 2000000) [go_sem, encM, encR, encE, encW, encL, ownW, ownL, encLD, encB, ownS, appendOwnA, qSort, (spSort_at hSort).1, (spSort_at hSort).2.1, (spSort_at hSort).2.2]
    with_reducible refine hK _ ?_
    clear hK K
    refine AWP.ret (hE _ ?_)
    simp (maxSteps := 2000000) [go_sem, withinF, hfin, ownS]


end Go.Own
