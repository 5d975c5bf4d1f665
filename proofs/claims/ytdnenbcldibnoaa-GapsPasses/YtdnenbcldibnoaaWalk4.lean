/- Walks. Printed by a program of the prover's. -/
import Derived.Test.YtdnenbcldibnoaaLawA
import Derived.Test.YtdnenbcldibnoaaOwnTT
namespace Go.Own
open Go.Proofs
set_option linter.unusedSimpArgs false
set_option linter.unusedVariables false

set_option maxHeartbeats 1000000 in
theorem wPasses {ctr : Ctr} (hC : CtrOk Try.prog ctr) (hm : Try.prog.follows .mixedOrders = true) (hReady : ctr.Has spReady) (hStep : ctr.Has spStep) : spPasses.Ok Try.prog := by
  rintro ⟨m, o, l⟩ ⟨hv, ho, hi, hl⟩
  show CallOk _ 15 [encM m, encM o, encL l] (.tup [.atom (.int .i64 (passF m o l 0).1), .atom (.int .i64 (passF m o l 0).2), .atom (.int .i64 0)])
  have hv : Valid m := hv
  have ho : Valid o := ho
  have hi : m.inp = o.inp := hi
  have hl : LOk m.inp l := hl
  have hl4 := hl.len
  refine callOk_w (tt := TTab) (rs := [(6, none), (7, none), (8, none)]) (n := ⟨36, none⟩) TTab_ok Try.func15 rfl rfl rfl rfl (by show _ ≤ 36; simp) fun E hE => ?_
  simp (maxSteps := 2000000) [go_sem, encM, encR, encE, encW, encL, ownW, ownL]
  refine AWP.reg TTab_ok hC [2, 3, 4] fun K hK => ?_
  simp (maxSteps := 2000000) [go_sem, encM, encR, encE, encW, encL, ownW, ownL]
  with_reducible refine hK _ ?_
  clear hK K
  refine AWP.next fun K1 hK1 => ?_
  have qReady := spReady_run hReady hv ho hi hl
  try simp only [encM, encR, encE, encW, encL, ownW, ownL] at qReady
  refine AWP.reg TTab_ok hC [2, 3, 4, 9] fun K hK => ?_
  simp (maxSteps := 2000000) [go_sem, encM, encR, encE, encW, encL, ownW, ownL, qReady, (spReady_at hReady).1, (spReady_at hReady).2.1, (spReady_at hReady).2.2]
  with_reducible refine hK _ ?_
  clear hK K
  refine AWP.reg TTab_ok hC [2, 3, 4, 9, 18] fun K hK => ?_
  simp (maxSteps := 2000000) [go_sem, encM, encR, encE, encW, encL, ownW, ownL]
  with_reducible refine hK _ ?_
  clear hK K
  refine AWP.condW fun T F hT hF => ?_
  simp (maxSteps := 2000000) [go_sem, encM, encR, encE, encW, encL, ownW, ownL]
  refine hF ?_
  clear hT hF T F
  refine AWP.skip (hK1 _ ?_)
  clear hK1
  refine AWP.next fun K3 hK3 => ?_
  refine AWP.reg TTab_ok hC [2, 3, 4, 20, 21, 22] fun K hK => ?_
  simp (maxSteps := 2000000) [go_sem, encM, encR, encE, encW, encL, ownW, ownL]
  with_reducible refine hK _ ?_
  clear hK K
  refine AWP.block ?_
  refine AWP.loopX (X := Nat) [2, 3, 4, 20, 21, 22] (fun i => i ≤ l.length ∧ passF m o (l.drop i) i = passF m o l 0) (fun i => l.length - i) (fun i => ofL [(2, .d (encL l)), (3, .own (.box (encM m))), (4, .own (.box (encM o))), (20, .d (encL l)), (21, .d (.atom (.int .i64 l.length))), (22, .d (.atom (.int .i64 i)))]) (0) ?_ ?_ ?_
  · exact ⟨Nat.zero_le _, rfl⟩
  · simp (maxSteps := 2000000) [go_sem, encM, encR, encE, encW, encL, ownW, ownL]
  intro i hx J4 hJ4
  obtain ⟨h1, hf⟩ := hx
  refine AWP.reg TTab_ok hC [2, 3, 4, 20, 21, 22, 23] fun K hK => ?_
  simp (maxSteps := 2000000) [go_sem, encM, encR, encE, encW, encL, ownW, ownL]
  with_reducible refine hK _ ?_
  clear hK K
  refine AWP.next fun K5 hK5 => ?_
  refine AWP.condW fun T F hT hF => ?_
  simp (maxSteps := 2000000) [go_sem, encM, encR, encE, encW, encL, ownW, ownL]
  refine ⟨fun c5 => hT ?_, fun c5 => hF ?_⟩
  · clear hT hF T F
    obtain ⟨u, hu⟩ := some_at (show i < l.length by omega)
    have hd := drop_cons hu
    have hwm : Sym m.inp u := hl.sym u (List.mem_of_getElem? hu)
    have hwo : Sym o.inp u := hi ▸ hwm
    have hws := hl.short u (List.mem_of_getElem? hu)
    refine AWP.skip (hK5 _ ?_)
    clear hK5
    refine AWP.next fun K7 hK7 => ?_
    refine AWP.block ?_
    refine AWP.reg TTab_ok hC [2, 3, 4, 10, 11, 20, 21, 22] fun K hK => ?_
    simp (maxSteps := 2000000) [go_sem, encM, encR, encE, encW, encL, ownW, ownL, hu]
    with_reducible refine hK _ ?_
    clear hK K
    have qStep := spStep_run hStep hv ho hwm hwo hws
    try simp only [encM, encR, encE, encW, encL, ownW, ownL] at qStep
    refine AWP.reg TTab_ok hC [2, 3, 4, 10, 12, 20, 21, 22] fun K hK => ?_
    simp (maxSteps := 2000000) [go_sem, encM, encR, encE, encW, encL, ownW, ownL, qStep, (spStep_at hStep).1, (spStep_at hStep).2.1, (spStep_at hStep).2.2]
    with_reducible refine hK _ ?_
    clear hK K
    refine AWP.reg TTab_ok hC [2, 3, 4, 10, 12, 20, 21, 22, 32] fun K hK => ?_
    simp (maxSteps := 2000000) [go_sem, encM, encR, encE, encW, encL, ownW, ownL]
    with_reducible refine hK _ ?_
    clear hK K
    refine AWP.condW fun T F hT hF => ?_
    simp (maxSteps := 2000000) [go_sem, encM, encR, encE, encW, encL, ownW, ownL]
    refine ⟨fun c8 => hT ?_, fun c8 => hF ?_⟩
    · clear hT hF T F
      refine AWP.reg TTab_ok hC [6, 7, 8] fun K hK => ?_
      simp (maxSteps := 2000000) [go_sem, encM, encR, encE, encW, encL, ownW, ownL]
      with_reducible refine hK _ ?_
      clear hK K
      refine AWP.ret (hE _ ?_)
      simp [go_sem]
      rw [← hf, hd]
      simp [passF, c8]
    · clear hT hF T F
      refine AWP.skip (hK7 _ ?_)
      clear hK7
      refine AWP.regEnd TTab_ok hC fun K hK => ?_
      simp (maxSteps := 2000000) [go_sem, encM, encR, encE, encW, encL, ownW, ownL]
      with_reducible refine hK _ ?_
      clear hK K
      refine hJ4 _ (i + 1) ?_ ?_ ?_
      · exact ⟨by omega, by rw [← hf, hd]; simp [passF, c8]⟩
      · omega
      simp (maxSteps := 2000000) [go_sem, encM, encR, encE, encW, encL, ownW, ownL]
      rw [IntWalk.i64_in _ (by omega)]
  · clear hT hF T F
    refine AWP.exit (hK3 _ ?_)
    clear hK3
    refine AWP.reg TTab_ok hC [6, 7, 8] fun K hK => ?_
    simp (maxSteps := 2000000) [go_sem, encM, encR, encE, encW, encL, ownW, ownL]
    with_reducible refine hK _ ?_
    clear hK K
    refine AWP.ret (hE _ ?_)
    simp [go_sem]
    rw [← hf, List.drop_eq_nil_of_le (show l.length ≤ i by omega)]
    exact ⟨rfl, rfl⟩

set_option maxHeartbeats 1000000 in
theorem wRPasses {ctr : Ctr} (hC : CtrOk Try.prog ctr) (hm : Try.prog.follows .mixedOrders = true) (hRStep : ctr.Has spRStep) : spRPasses.Ok Try.prog := by
  rintro ⟨m, o, l⟩ ⟨hv, ho, hi, hl⟩
  show CallOk _ 16 [encM m, encM o, encL l] (.tup [.atom (.int .i64 (passF m o l 0).1), .atom (.int .i64 (passF m o l 0).2)])
  have hv : Valid m := hv
  have ho : Valid o := ho
  have hi : m.inp = o.inp := hi
  have hl : LOk m.inp l := hl
  have hl4 := hl.len
  refine callOk_w (tt := TTab) (rs := [(6, none), (7, none)]) (n := ⟨27, none⟩) TTab_ok Try.func16 rfl rfl rfl rfl (by show _ ≤ 27; simp) fun E hE => ?_
  simp (maxSteps := 2000000) [go_sem, encM, encR, encE, encW, encL, ownW, ownL]
  refine AWP.reg TTab_ok hC [2, 3, 4] fun K hK => ?_
  simp (maxSteps := 2000000) [go_sem, encM, encR, encE, encW, encL, ownW, ownL]
  with_reducible refine hK _ ?_
  clear hK K
  refine AWP.next fun K1 hK1 => ?_
  refine AWP.reg TTab_ok hC [2, 3, 4, 8] fun K hK => ?_
  simp (maxSteps := 2000000) [go_sem, encM, encR, encE, encW, encL, ownW, ownL]
  with_reducible refine hK _ ?_
  clear hK K
  refine AWP.block ?_
  refine AWP.loopX (X := Nat) [2, 3, 4, 8] (fun i => i ≤ l.length ∧ passF m o (l.drop i) i = passF m o l 0) (fun i => l.length - i) (fun i => ofL [(2, .d (encL l)), (3, .own (.box (encM m))), (4, .own (.box (encM o))), (8, .d (.atom (.int .i64 i)))]) (0) ?_ ?_ ?_
  · exact ⟨Nat.zero_le _, rfl⟩
  · simp (maxSteps := 2000000) [go_sem, encM, encR, encE, encW, encL, ownW, ownL]
  intro i hx J2 hJ2
  obtain ⟨h1, hf⟩ := hx
  refine AWP.next fun K3 hK3 => ?_
  refine AWP.reg TTab_ok hC [2, 3, 4, 8, 13] fun K hK => ?_
  simp (maxSteps := 2000000) [go_sem, encM, encR, encE, encW, encL, ownW, ownL]
  with_reducible refine hK _ ?_
  clear hK K
  refine AWP.condW fun T F hT hF => ?_
  simp (maxSteps := 2000000) [go_sem, encM, encR, encE, encW, encL, ownW, ownL]
  refine ⟨fun c2 => hT ?_, fun c2 => hF ?_⟩
  · clear hT hF T F
    obtain ⟨u, hu⟩ := some_at (show i < l.length by omega)
    have hd := drop_cons hu
    have hwm : Sym m.inp u := hl.sym u (List.mem_of_getElem? hu)
    have hwo : Sym o.inp u := hi ▸ hwm
    have hws := hl.short u (List.mem_of_getElem? hu)
    refine AWP.skip (hK3 _ ?_)
    clear hK3
    refine AWP.next fun K5 hK5 => ?_
    refine AWP.block ?_
    have qRStep := spRStep_run hRStep hv ho hwm hwo hws
    try simp only [encM, encR, encE, encW, encL, ownW, ownL] at qRStep
    refine AWP.draw TTab_ok hC hm [2, 3, 4, 8, 9] fun K hK => ?_
    simp (maxSteps := 2000000) [go_sem, encM, encR, encE, encW, encL, ownW, ownL, hu, qRStep, (spRStep_at hRStep).1, (spRStep_at hRStep).2.1, (spRStep_at hRStep).2.2]
    refine ⟨by decide +kernel, ?_⟩
    with_reducible refine hK _ ?_
    clear hK K
    refine AWP.reg TTab_ok hC [2, 3, 4, 8, 9, 24] fun K hK => ?_
    simp (maxSteps := 2000000) [go_sem, encM, encR, encE, encW, encL, ownW, ownL]
    with_reducible refine hK _ ?_
    clear hK K
    refine AWP.condW fun T F hT hF => ?_
    simp (maxSteps := 2000000) [go_sem, encM, encR, encE, encW, encL, ownW, ownL]
    refine ⟨fun c5 => hT ?_, fun c5 => hF ?_⟩
    · clear hT hF T F
      have hne : stepF m o 0 0 u 0 ≠ -1 := by omega
      refine AWP.reg TTab_ok hC [6, 7] fun K hK => ?_
      simp (maxSteps := 2000000) [go_sem, encM, encR, encE, encW, encL, ownW, ownL]
      with_reducible refine hK _ ?_
      clear hK K
      refine AWP.ret (hE _ ?_)
      simp [go_sem]
      rw [← hf, hd]
      simp [passF, hne]
    · clear hT hF T F
      have heq : stepF m o 0 0 u 0 = -1 := by have := stepF_cases m o u 0 0 0; omega
      refine AWP.skip (hK5 _ ?_)
      clear hK5
      refine AWP.regEnd TTab_ok hC fun K hK => ?_
      simp (maxSteps := 2000000) [go_sem, encM, encR, encE, encW, encL, ownW, ownL]
      with_reducible refine hK _ ?_
      clear hK K
      refine hJ2 _ (i + 1) ?_ ?_ ?_
      · exact ⟨by omega, by rw [← hf, hd]; simp [passF, heq]⟩
      · omega
      simp (maxSteps := 2000000) [go_sem, encM, encR, encE, encW, encL, ownW, ownL]
      rw [IntWalk.i64_in _ (by omega)]
  · clear hT hF T F
    refine AWP.exit (hK1 _ ?_)
    clear hK1
    refine AWP.reg TTab_ok hC [6, 7] fun K hK => ?_
    simp (maxSteps := 2000000) [go_sem, encM, encR, encE, encW, encL, ownW, ownL]
    with_reducible refine hK _ ?_
    clear hK K
    refine AWP.ret (hE _ ?_)
    simp [go_sem]
    rw [← hf, List.drop_eq_nil_of_le (show l.length ≤ i by omega)]
    exact ⟨rfl, rfl⟩

set_option maxHeartbeats 1000000 in
theorem wRun {ctr : Ctr} (hC : CtrOk Try.prog ctr) (hm : Try.prog.follows .mixedOrders = true) (hNext : ctr.Has spNext) : spRun.Ok Try.prog := by
  rintro ⟨m, s, w⟩ ⟨hv, hs, hw, hl⟩
  show CallOk _ 35 [encM m, .atom (.int .i64 s), encW w] (ownW (runF m s w))
  have hv : Valid m := hv
  have hs : StOk m s := hs
  have hw : Sym m.inp w := hw
  have hl : w.length ≤ 256 := hl
  refine CallOk.loose (r := .osl 1 (runF m s w).isEmpty ((runF m s w).map fun x => .atom (.int .i64 x))) ?_ (by simp only [ownW, loose_osl, looses_atoms])
  refine callOk_w (tt := TTab) (rs := [(6, none)]) (n := ⟨31, none⟩) TTab_ok Try.func35 rfl rfl rfl rfl (by show _ ≤ 31; simp) fun E hE => ?_
  simp (maxSteps := 2000000) [go_sem, encM, encR, encE, encW, encL, ownW, ownL]
  refine AWP.reg TTab_ok hC [1, 2, 3] fun K hK => ?_
  simp (maxSteps := 2000000) [go_sem, encM, encR, encE, encW, encL, ownW, ownL]
  with_reducible refine hK _ ?_
  clear hK K
  refine AWP.reg TTab_ok hC [1, 2, 3, 7] fun K hK => ?_
  simp (maxSteps := 2000000) [go_sem, encM, encR, encE, encW, encL, ownW, ownL]
  with_reducible refine hK _ ?_
  clear hK K
  refine AWP.next fun K1 hK1 => ?_
  refine AWP.reg TTab_ok hC [1, 2, 3, 7, 8] fun K hK => ?_
  simp (maxSteps := 2000000) [go_sem, encM, encR, encE, encW, encL, ownW, ownL]
  with_reducible refine hK _ ?_
  clear hK K
  refine AWP.block ?_
  refine AWP.loopX (X := Nat × Int × List Int) [1, 2, 3, 7, 8] (fun x => x.1 ≤ w.length ∧ StOk m x.2.1 ∧ x.2.2.length = x.1 ∧ x.2.2 ++ runF m x.2.1 (w.drop x.1) = runF m s w) (fun x => w.length - x.1) (fun x => ofL [(1, .d (.atom (.int .i64 x.2.1))), (2, .d (encW w)), (3, .own (.box (encM m))), (7, .own (.osl 1 x.2.2.isEmpty (x.2.2.map fun x => .atom (.int .i64 x)))), (8, .d (.atom (.int .i64 x.1)))]) ((0, s, [])) ?_ ?_ ?_
  · exact ⟨Nat.zero_le _, hs, rfl, rfl⟩
  · simp (maxSteps := 2000000) [go_sem, encM, encR, encE, encW, encL, ownW, ownL]
  intro x hx J2 hJ2
  obtain ⟨k, t, acc⟩ := x
  dsimp only at hx ⊢
  obtain ⟨h1, ht, ha, hf⟩ := hx
  refine AWP.next fun K3 hK3 => ?_
  refine AWP.reg TTab_ok hC [1, 2, 3, 7, 8, 13] fun K hK => ?_
  simp (maxSteps := 2000000) [go_sem, encM, encR, encE, encW, encL, ownW, ownL]
  with_reducible refine hK _ ?_
  clear hK K
  refine AWP.condW fun T F hT hF => ?_
  simp (maxSteps := 2000000) [go_sem, encM, encR, encE, encW, encL, ownW, ownL]
  refine ⟨fun c3 => hT ?_, fun c3 => hF ?_⟩
  · clear hT hF T F
    obtain ⟨i, hu⟩ := some_at (show k < w.length by omega)
    have hd := drop_cons hu
    have hi := hw i (List.mem_of_getElem? hu)
    have hal : acc.length ≤ 4294967295 := by omega
    refine AWP.skip (hK3 _ ?_)
    clear hK3
    refine AWP.next fun K5 hK5 => ?_
    refine AWP.block ?_
    have qNext := spNext_run hNext hv ht hi
    try simp only [encM, encR, encE, encW, encL, ownW, ownL] at qNext
    refine AWP.draw TTab_ok hC hm [2, 3, 7, 8, 9] fun K hK => ?_
    simp (maxSteps := 2000000) [go_sem, encM, encR, encE, encW, encL, ownW, ownL, hu, qNext, (spNext_at hNext).1, (spNext_at hNext).2.1, (spNext_at hNext).2.2]
    refine ⟨by decide +kernel, ?_⟩
    with_reducible refine hK _ ?_
    clear hK K
    refine AWP.reg TTab_ok hC [2, 3, 7, 8, 9] fun K hK => ?_
    simp (maxSteps := 2000000) [go_sem, encM, encR, encE, encW, encL, ownW, ownL, hal]
    with_reducible refine hK _ ?_
    clear hK K
    refine AWP.regEnd TTab_ok hC fun K hK => ?_
    simp (maxSteps := 2000000) [go_sem, encM, encR, encE, encW, encL, ownW, ownL]
    with_reducible refine hK _ ?_
    clear hK K
    refine hK5 _ ?_
    clear hK5
    refine AWP.regEnd TTab_ok hC fun K hK => ?_
    simp (maxSteps := 2000000) [go_sem, encM, encR, encE, encW, encL, ownW, ownL]
    with_reducible refine hK _ ?_
    clear hK K
    refine hJ2 _ (k + 1, (nx m t i).1, acc ++ [(nx m t i).2]) ?_ ?_ ?_
    · exact ⟨by dsimp only; omega, (hv.nxOk ht hi).st, by simp [ha], by rw [← hf, hd]; simp [runF]⟩
    · dsimp only; omega
    simp (maxSteps := 2000000) [go_sem, encM, encR, encE, encW, encL, ownW, ownL]
    rw [IntWalk.i64_in _ (by omega)]
  · clear hT hF T F
    refine AWP.exit (hK1 _ ?_)
    clear hK1
    refine AWP.reg TTab_ok hC [6] fun K hK => ?_
    simp (maxSteps := 2000000) [go_sem, encM, encR, encE, encW, encL, ownW, ownL]
    with_reducible refine hK _ ?_
    clear hK K
    refine AWP.ret (hE _ ?_)
    simp [go_sem]
    have hacc : acc = runF m s w := by rw [← hf, List.drop_eq_nil_of_le (show w.length ≤ k by omega)]; simp [runF]
    simp [hacc]

set_option maxHeartbeats 1000000 in
theorem wRStep {ctr : Ctr} (hC : CtrOk Try.prog ctr) (hm : Try.prog.follows .mixedOrders = true) (hRun : ctr.Has spRun) : spRStep.Ok Try.prog := by
  rintro ⟨m, o, w⟩ ⟨hv, ho, hw1, hw2, hl⟩
  show CallOk _ 53 [encM m, encM o, encW w] (.atom (.int .i64 (stepF m o 0 0 w 0)))
  have hv : Valid m := hv
  have ho : Valid o := ho
  have hw1 : Sym m.inp w := hw1
  have hw2 : Sym o.inp w := hw2
  have hl : w.length ≤ 256 := hl
  have la := runF_length m w 0
  have lb := runF_length o w 0
  have hs0 : StOk m 0 := .inr ⟨by omega, by have := hv.r1; omega⟩
  have ht0 : StOk o 0 := .inr ⟨by omega, by have := ho.r1; omega⟩
  refine callOk_w (tt := TTab) (rs := [(6, none)]) (n := ⟨32, none⟩) TTab_ok Try.func53 rfl rfl rfl rfl (by show _ ≤ 32; simp) fun E hE => ?_
  simp (maxSteps := 2000000) [go_sem, encM, encR, encE, encW, encL, ownW, ownL]
  refine AWP.reg TTab_ok hC [2, 3, 4] fun K hK => ?_
  simp (maxSteps := 2000000) [go_sem, encM, encR, encE, encW, encL, ownW, ownL]
  with_reducible refine hK _ ?_
  clear hK K
  have qRun := spRun_run hRun hv hs0 hw1 hl
  try simp only [encM, encR, encE, encW, encL, ownW, ownL] at qRun
  refine AWP.reg TTab_ok hC [2, 4, 7] fun K hK => ?_
  simp (maxSteps := 2000000) [go_sem, encM, encR, encE, encW, encL, ownW, ownL, qRun, (spRun_at hRun).1, (spRun_at hRun).2.1, (spRun_at hRun).2.2]
  with_reducible refine hK _ ?_
  clear hK K
  have qRun := spRun_run hRun ho ht0 hw2 hl
  try simp only [encM, encR, encE, encW, encL, ownW, ownL] at qRun
  refine AWP.reg TTab_ok hC [7, 8] fun K hK => ?_
  simp (maxSteps := 2000000) [go_sem, encM, encR, encE, encW, encL, ownW, ownL, qRun, (spRun_at hRun).1, (spRun_at hRun).2.1, (spRun_at hRun).2.2]
  with_reducible refine hK _ ?_
  clear hK K
  refine AWP.next fun K1 hK1 => ?_
  refine AWP.reg TTab_ok hC [7, 8, 9] fun K hK => ?_
  simp (maxSteps := 2000000) [go_sem, encM, encR, encE, encW, encL, ownW, ownL]
  with_reducible refine hK _ ?_
  clear hK K
  refine AWP.block ?_
  refine AWP.loopX (X := Nat) [7, 8, 9] (fun i => i ≤ w.length ∧ difF ((runF m 0 w).drop i) ((runF o 0 w).drop i) i = stepF m o 0 0 w 0) (fun i => w.length - i) (fun i => ofL [(7, .own (ownW (runF m 0 w))), (8, .own (ownW (runF o 0 w))), (9, .d (.atom (.int .i64 i)))]) (0) ?_ ?_ ?_
  · exact ⟨Nat.zero_le _, dif_step m o w 0 0 0⟩
  · simp (maxSteps := 2000000) [go_sem, encM, encR, encE, encW, encL, ownW, ownL]
  intro i hx J2 hJ2
  obtain ⟨h1, hf⟩ := hx
  refine AWP.next fun K3 hK3 => ?_
  refine AWP.reg TTab_ok hC [7, 8, 9, 19] fun K hK => ?_
  simp (maxSteps := 2000000) [go_sem, encM, encR, encE, encW, encL, ownW, ownL]
  with_reducible refine hK _ ?_
  clear hK K
  refine AWP.condW fun T F hT hF => ?_
  simp (maxSteps := 2000000) [go_sem, encM, encR, encE, encW, encL, ownW, ownL]
  refine ⟨fun c4 => hT ?_, fun c4 => hF ?_⟩
  · clear hT hF T F
    have ka : i < (runF m 0 w).length := by omega
    have kb : i < (runF o 0 w).length := by omega
    obtain ⟨u, hu⟩ := some_at ka
    obtain ⟨v, hv2⟩ := some_at kb
    have hda := drop_cons hu
    have hdb := drop_cons hv2
    have hu2 : ∀ h, (runF m 0 w)[i]'h = u := fun h => by rw [List.getElem?_eq_getElem h] at hu; exact Option.some.inj hu
    have hv3 : ∀ h, (runF o 0 w)[i]'h = v := fun h => by rw [List.getElem?_eq_getElem h] at hv2; exact Option.some.inj hv2
    refine AWP.skip (hK3 _ ?_)
    clear hK3
    refine AWP.next fun K5 hK5 => ?_
    refine AWP.block ?_
    refine AWP.draw TTab_ok hC hm [7, 8, 9, 30] fun K hK => ?_
    simp (maxSteps := 2000000) [go_sem, encM, encR, encE, encW, encL, ownW, ownL, ka, kb, hu, hv2, hu2, hv3]
    refine ⟨by decide +kernel, ?_⟩
    with_reducible refine hK _ ?_
    clear hK K
    refine AWP.condW fun T F hT hF => ?_
    simp (maxSteps := 2000000) [go_sem, encM, encR, encE, encW, encL, ownW, ownL]
    refine ⟨fun c6 => hT ?_, fun c6 => hF ?_⟩
    · clear hT hF T F
      refine AWP.reg TTab_ok hC [6] fun K hK => ?_
      simp (maxSteps := 2000000) [go_sem, encM, encR, encE, encW, encL, ownW, ownL]
      with_reducible refine hK _ ?_
      clear hK K
      refine AWP.ret (hE _ ?_)
      simp [go_sem]
      rw [← hf, hda, hdb]
      simp [difF, c6]
    · clear hT hF T F
      refine AWP.skip (hK5 _ ?_)
      clear hK5
      refine AWP.regEnd TTab_ok hC fun K hK => ?_
      simp (maxSteps := 2000000) [go_sem, encM, encR, encE, encW, encL, ownW, ownL]
      with_reducible refine hK _ ?_
      clear hK K
      refine hJ2 _ (i + 1) ?_ ?_ ?_
      · exact ⟨by omega, by rw [← hf, hda, hdb]; simp [difF, c6]⟩
      · omega
      simp (maxSteps := 2000000) [go_sem, encM, encR, encE, encW, encL, ownW, ownL]
      rw [IntWalk.i64_in _ (by omega)]
  · clear hT hF T F
    refine AWP.exit (hK1 _ ?_)
    clear hK1
    refine AWP.reg TTab_ok hC [6] fun K hK => ?_
    simp (maxSteps := 2000000) [go_sem, encM, encR, encE, encW, encL, ownW, ownL]
    with_reducible refine hK _ ?_
    clear hK K
    refine AWP.ret (hE _ ?_)
    simp [go_sem]
    rw [← hf, List.drop_eq_nil_of_le (show (runF m 0 w).length ≤ i by omega)]
    rfl

set_option maxHeartbeats 1000000 in
theorem wRFatal {ctr : Ctr} (hC : CtrOk Try.prog ctr) (hm : Try.prog.follows .mixedOrders = true) (hRStep : ctr.Has spRStep) : spRFatal.Ok Try.prog := by
  rintro ⟨m, o, l⟩ ⟨hv, ho, hi, hl⟩
  show CallOk _ 19 [encM m, encM o, encL l] (ownW (fatF m o l 0))
  have hv : Valid m := hv
  have ho : Valid o := ho
  have hi : m.inp = o.inp := hi
  have hl : LOk m.inp l := hl
  have hl4 := hl.len
  refine CallOk.loose (r := .osl 1 (fatF m o l 0).isEmpty ((fatF m o l 0).map fun x => .atom (.int .i64 x))) ?_ (by simp only [ownW, loose_osl, looses_atoms])
  refine callOk_w (tt := TTab) (rs := [(6, none)]) (n := ⟨28, none⟩) TTab_ok Try.func19 rfl rfl rfl rfl (by show _ ≤ 28; simp) fun E hE => ?_
  simp (maxSteps := 2000000) [go_sem, encM, encR, encE, encW, encL, ownW, ownL]
  refine AWP.reg TTab_ok hC [2, 3, 4] fun K hK => ?_
  simp (maxSteps := 2000000) [go_sem, encM, encR, encE, encW, encL, ownW, ownL]
  with_reducible refine hK _ ?_
  clear hK K
  refine AWP.reg TTab_ok hC [2, 3, 4, 7] fun K hK => ?_
  simp (maxSteps := 2000000) [go_sem, encM, encR, encE, encW, encL, ownW, ownL]
  with_reducible refine hK _ ?_
  clear hK K
  refine AWP.next fun K1 hK1 => ?_
  refine AWP.reg TTab_ok hC [2, 3, 4, 7, 8] fun K hK => ?_
  simp (maxSteps := 2000000) [go_sem, encM, encR, encE, encW, encL, ownW, ownL]
  with_reducible refine hK _ ?_
  clear hK K
  refine AWP.block ?_
  refine AWP.loopX (X := Nat × List Int) [2, 3, 4, 7, 8] (fun x => x.1 ≤ l.length ∧ x.2.length ≤ x.1 ∧ x.2 ++ fatF m o (l.drop x.1) x.1 = fatF m o l 0) (fun x => l.length - x.1) (fun x => ofL [(2, .d (encL l)), (3, .own (.box (encM m))), (4, .own (.box (encM o))), (7, .own (.osl 1 x.2.isEmpty (x.2.map fun x => .atom (.int .i64 x)))), (8, .d (.atom (.int .i64 x.1)))]) ((0, [])) ?_ ?_ ?_
  · exact ⟨Nat.zero_le _, Nat.zero_le _, rfl⟩
  · simp (maxSteps := 2000000) [go_sem, encM, encR, encE, encW, encL, ownW, ownL]
  intro x hx J2 hJ2
  obtain ⟨i, acc⟩ := x
  dsimp only at hx ⊢
  obtain ⟨h1, ha, hf⟩ := hx
  refine AWP.next fun K3 hK3 => ?_
  refine AWP.reg TTab_ok hC [2, 3, 4, 7, 8, 12] fun K hK => ?_
  simp (maxSteps := 2000000) [go_sem, encM, encR, encE, encW, encL, ownW, ownL]
  with_reducible refine hK _ ?_
  clear hK K
  refine AWP.condW fun T F hT hF => ?_
  simp (maxSteps := 2000000) [go_sem, encM, encR, encE, encW, encL, ownW, ownL]
  refine ⟨fun c3 => hT ?_, fun c3 => hF ?_⟩
  · clear hT hF T F
    obtain ⟨u, hu⟩ := some_at (show i < l.length by omega)
    have hd := drop_cons hu
    have hwm : Sym m.inp u := hl.sym u (List.mem_of_getElem? hu)
    have hwo : Sym o.inp u := hi ▸ hwm
    have hws := hl.short u (List.mem_of_getElem? hu)
    have hal : acc.length ≤ 4294967295 := by omega
    refine AWP.skip (hK3 _ ?_)
    clear hK3
    refine AWP.nextJ (X := Unit) [2, 3, 4, 7, 8] (fun z => True) (fun z => ofL [(2, .d (encL l)), (3, .own (.box (encM m))), (4, .own (.box (encM o))), (7, .own (.osl 1 (if stepF m o 0 0 u 0 ≠ -1 then acc ++ [(i : Int)] else acc).isEmpty ((if stepF m o 0 0 u 0 ≠ -1 then acc ++ [(i : Int)] else acc).map fun x => .atom (.int .i64 x)))), (8, .d (.atom (.int .i64 i)))]) ?_ ?_
    · intro z hz
      refine AWP.regEnd TTab_ok hC fun K hK => ?_
      simp (maxSteps := 2000000) [go_sem, encM, encR, encE, encW, encL, ownW, ownL]
      with_reducible refine hK _ ?_
      clear hK K
      refine hJ2 _ (i + 1, if stepF m o 0 0 u 0 ≠ -1 then acc ++ [(i : Int)] else acc) ?_ ?_ ?_
      · refine ⟨by dsimp only; omega, by dsimp only; split <;> (try simp) <;> omega, ?_⟩
        rw [← hf, hd]
        simp only [fatF]
        split <;> simp [*]
      · dsimp only; omega
      simp (maxSteps := 2000000) [go_sem, encM, encR, encE, encW, encL, ownW, ownL]
      rw [IntWalk.i64_in _ (by omega)]
    intro K5 hK5
    refine AWP.block ?_
    have qRStep := spRStep_run hRStep hv ho hwm hwo hws
    try simp only [encM, encR, encE, encW, encL, ownW, ownL] at qRStep
    refine AWP.draw TTab_ok hC hm [2, 3, 4, 7, 8, 22] fun K hK => ?_
    simp (maxSteps := 2000000) [go_sem, encM, encR, encE, encW, encL, ownW, ownL, hu, qRStep, (spRStep_at hRStep).1, (spRStep_at hRStep).2.1, (spRStep_at hRStep).2.2]
    refine ⟨by decide +kernel, ?_⟩
    with_reducible refine hK _ ?_
    clear hK K
    refine AWP.condW fun T F hT hF => ?_
    simp (maxSteps := 2000000) [go_sem, encM, encR, encE, encW, encL, ownW, ownL]
    refine ⟨fun c5 => hT ?_, fun c5 => hF ?_⟩
    · clear hT hF T F
      have hq : ¬ stepF m o 0 0 u 0 = -1 := by omega
      refine AWP.regEnd TTab_ok hC fun K hK => ?_
      simp (maxSteps := 2000000) [go_sem, encM, encR, encE, encW, encL, ownW, ownL, hal]
      with_reducible refine hK _ ?_
      clear hK K
      refine hK5 () _ ?_ ?_
      · trivial
      simp (maxSteps := 2000000) [go_sem, encM, encR, encE, encW, encL, ownW, ownL, hq]
    · clear hT hF T F
      have hq : stepF m o 0 0 u 0 = -1 := by have := stepF_cases m o u 0 0 0; omega
      refine AWP.skip (hK5 () _ ?_ ?_)
      · trivial
      simp (maxSteps := 2000000) [go_sem, encM, encR, encE, encW, encL, ownW, ownL, hq]
  · clear hT hF T F
    refine AWP.exit (hK1 _ ?_)
    clear hK1
    refine AWP.reg TTab_ok hC [6] fun K hK => ?_
    simp (maxSteps := 2000000) [go_sem, encM, encR, encE, encW, encL, ownW, ownL]
    with_reducible refine hK _ ?_
    clear hK K
    refine AWP.ret (hE _ ?_)
    simp [go_sem]
    have hacc : acc = fatF m o l 0 := by rw [← hf, List.drop_eq_nil_of_le (show l.length ≤ i by omega)]; simp [fatF]
    simp [hacc]

set_option maxHeartbeats 1000000 in
theorem wFatal {ctr : Ctr} (hC : CtrOk Try.prog ctr) (hm : Try.prog.follows .mixedOrders = true) (hReady : ctr.Has spReady) (hStep : ctr.Has spStep) (hClip : ctr.Has spClip) : spFatal.Ok Try.prog := by
  rintro ⟨m, l, o⟩ ⟨hv, ho, hi, hl⟩
  show CallOk _ 17 [encM m, encL l, encM o] (.tup [.sl 1 true ((fatF m o l 0).map fun x => .atom (.int .i64 x)), .atom (.int .i64 0)])
  have hv : Valid m := hv
  have ho : Valid o := ho
  have hi : m.inp = o.inp := hi
  have hl : LOk m.inp l := hl
  have hl4 := hl.len
  refine callOk_w (tt := TTab) (rs := [(6, none), (7, none)]) (n := ⟨38, none⟩) TTab_ok Try.func17 rfl rfl rfl rfl (by show _ ≤ 38; simp) fun E hE => ?_
  simp (maxSteps := 2000000) [go_sem, encM, encR, encE, encW, encL, ownW, ownL]
  refine AWP.reg TTab_ok hC [1, 3, 5] fun K hK => ?_
  simp (maxSteps := 2000000) [go_sem, encM, encR, encE, encW, encL, ownW, ownL]
  with_reducible refine hK _ ?_
  clear hK K
  refine AWP.next fun K1 hK1 => ?_
  have qReady := spReady_run hReady hv ho hi hl
  try simp only [encM, encR, encE, encW, encL, ownW, ownL] at qReady
  refine AWP.reg TTab_ok hC [1, 3, 5, 8] fun K hK => ?_
  simp (maxSteps := 2000000) [go_sem, encM, encR, encE, encW, encL, ownW, ownL, qReady, (spReady_at hReady).1, (spReady_at hReady).2.1, (spReady_at hReady).2.2]
  with_reducible refine hK _ ?_
  clear hK K
  refine AWP.reg TTab_ok hC [1, 3, 5, 8, 17] fun K hK => ?_
  simp (maxSteps := 2000000) [go_sem, encM, encR, encE, encW, encL, ownW, ownL]
  with_reducible refine hK _ ?_
  clear hK K
  refine AWP.condW fun T F hT hF => ?_
  simp (maxSteps := 2000000) [go_sem, encM, encR, encE, encW, encL, ownW, ownL]
  refine hF ?_
  clear hT hF T F
  refine AWP.skip (hK1 _ ?_)
  clear hK1
  refine AWP.reg TTab_ok hC [1, 3, 5, 9] fun K hK => ?_
  simp (maxSteps := 2000000) [go_sem, encM, encR, encE, encW, encL, ownW, ownL]
  with_reducible refine hK _ ?_
  clear hK K
  refine AWP.next fun K3 hK3 => ?_
  refine AWP.reg TTab_ok hC [1, 3, 5, 9, 19, 20, 21] fun K hK => ?_
  simp (maxSteps := 2000000) [go_sem, encM, encR, encE, encW, encL, ownW, ownL]
  with_reducible refine hK _ ?_
  clear hK K
  refine AWP.block ?_
  refine AWP.loopX (X := Nat × List Int) [1, 3, 5, 9, 19, 20, 21] (fun x => x.1 ≤ l.length ∧ x.2.length ≤ x.1 ∧ x.2 ++ fatF m o (l.drop x.1) x.1 = fatF m o l 0) (fun x => l.length - x.1) (fun x => ofL [(1, .d (encL l)), (3, .own (.box (encM m))), (5, .own (.box (encM o))), (9, .own (.osl 1 x.2.isEmpty (x.2.map fun x => .atom (.int .i64 x)))), (19, .d (encL l)), (20, .d (.atom (.int .i64 l.length))), (21, .d (.atom (.int .i64 x.1)))]) ((0, [])) ?_ ?_ ?_
  · exact ⟨Nat.zero_le _, Nat.zero_le _, rfl⟩
  · simp (maxSteps := 2000000) [go_sem, encM, encR, encE, encW, encL, ownW, ownL]
  intro x hx J4 hJ4
  obtain ⟨i, acc⟩ := x
  dsimp only at hx ⊢
  obtain ⟨h1, ha, hf⟩ := hx
  refine AWP.reg TTab_ok hC [1, 3, 5, 9, 19, 20, 21, 22] fun K hK => ?_
  simp (maxSteps := 2000000) [go_sem, encM, encR, encE, encW, encL, ownW, ownL]
  with_reducible refine hK _ ?_
  clear hK K
  refine AWP.next fun K5 hK5 => ?_
  refine AWP.condW fun T F hT hF => ?_
  simp (maxSteps := 2000000) [go_sem, encM, encR, encE, encW, encL, ownW, ownL]
  refine ⟨fun c6 => hT ?_, fun c6 => hF ?_⟩
  · clear hT hF T F
    obtain ⟨u, hu⟩ := some_at (show i < l.length by omega)
    have hd := drop_cons hu
    have hwm : Sym m.inp u := hl.sym u (List.mem_of_getElem? hu)
    have hwo : Sym o.inp u := hi ▸ hwm
    have hws := hl.short u (List.mem_of_getElem? hu)
    have hal : acc.length ≤ 4294967295 := by omega
    refine AWP.skip (hK5 _ ?_)
    clear hK5
    refine AWP.nextJ (X := Unit) [1, 3, 5, 9, 19, 20, 21] (fun z => True) (fun z => ofL [(1, .d (encL l)), (3, .own (.box (encM m))), (5, .own (.box (encM o))), (9, .own (.osl 1 (if stepF m o 0 0 u 0 ≠ -1 then acc ++ [(i : Int)] else acc).isEmpty ((if stepF m o 0 0 u 0 ≠ -1 then acc ++ [(i : Int)] else acc).map fun x => .atom (.int .i64 x)))), (19, .d (encL l)), (20, .d (.atom (.int .i64 l.length))), (21, .d (.atom (.int .i64 i)))]) ?_ ?_
    · intro z hz
      refine AWP.regEnd TTab_ok hC fun K hK => ?_
      simp (maxSteps := 2000000) [go_sem, encM, encR, encE, encW, encL, ownW, ownL]
      with_reducible refine hK _ ?_
      clear hK K
      refine hJ4 _ (i + 1, if stepF m o 0 0 u 0 ≠ -1 then acc ++ [(i : Int)] else acc) ?_ ?_ ?_
      · refine ⟨by dsimp only; omega, by dsimp only; split <;> (try simp) <;> omega, ?_⟩
        rw [← hf, hd]
        simp only [fatF]
        split <;> simp [*]
      · dsimp only; omega
      simp (maxSteps := 2000000) [go_sem, encM, encR, encE, encW, encL, ownW, ownL]
      rw [IntWalk.i64_in _ (by omega)]
    intro K7 hK7
    refine AWP.block ?_
    refine AWP.reg TTab_ok hC [1, 3, 5, 9, 10, 11, 19, 20, 21] fun K hK => ?_
    simp (maxSteps := 2000000) [go_sem, encM, encR, encE, encW, encL, ownW, ownL, hu]
    with_reducible refine hK _ ?_
    clear hK K
    have qStep := spStep_run hStep hv ho hwm hwo hws
    try simp only [encM, encR, encE, encW, encL, ownW, ownL] at qStep
    refine AWP.reg TTab_ok hC [1, 3, 5, 9, 10, 19, 20, 21, 30] fun K hK => ?_
    simp (maxSteps := 2000000) [go_sem, encM, encR, encE, encW, encL, ownW, ownL, qStep, (spStep_at hStep).1, (spStep_at hStep).2.1, (spStep_at hStep).2.2]
    with_reducible refine hK _ ?_
    clear hK K
    refine AWP.condW fun T F hT hF => ?_
    simp (maxSteps := 2000000) [go_sem, encM, encR, encE, encW, encL, ownW, ownL]
    refine ⟨fun c8 => hT ?_, fun c8 => hF ?_⟩
    · clear hT hF T F
      refine AWP.regEnd TTab_ok hC fun K hK => ?_
      simp (maxSteps := 2000000) [go_sem, encM, encR, encE, encW, encL, ownW, ownL, hal]
      with_reducible refine hK _ ?_
      clear hK K
      refine hK7 () _ ?_ ?_
      · trivial
      simp (maxSteps := 2000000) [go_sem, encM, encR, encE, encW, encL, ownW, ownL, c8]
    · clear hT hF T F
      refine AWP.skip (hK7 () _ ?_ ?_)
      · trivial
      simp (maxSteps := 2000000) [go_sem, encM, encR, encE, encW, encL, ownW, ownL, c8]
  · clear hT hF T F
    refine AWP.exit (hK3 _ ?_)
    clear hK3
    have qClip := spClip_run hClip (a := acc) (by omega)
    try simp only [encM, encR, encE, encW, encL, ownW, ownL] at qClip
    refine AWP.reg TTab_ok hC [6, 7] fun K hK => ?_
    simp (maxSteps := 2000000) [go_sem, encM, encR, encE, encW, encL, ownW, ownL, qClip, (spClip_at hClip).1, (spClip_at hClip).2.1, (spClip_at hClip).2.2]
    with_reducible refine hK _ ?_
    clear hK K
    refine AWP.ret (hE _ ?_)
    simp [go_sem]
    have hacc : acc = fatF m o l 0 := by rw [← hf, List.drop_eq_nil_of_le (show l.length ≤ i by omega)]; simp [fatF]
    simp [hacc]

set_option maxHeartbeats 1000000 in
theorem wSame {ctr : Ctr} (hC : CtrOk Try.prog ctr) (hm : Try.prog.follows .mixedOrders = true) (hRCmp : ctr.Has spRCmp) : spSame.Ok Try.prog := by
  rintro ⟨a, b⟩ ⟨ha, hb, ha2, hb2⟩
  show CallOk _ 55 [encL a, encL b] (.atom (.bool (decide (a = b))))
  have ha : a.length ≤ 4096 := ha
  have hb : b.length ≤ 4096 := hb
  have ha2 : ∀ w ∈ a, w.length ≤ 4096 := ha2
  have hb2 : ∀ w ∈ b, w.length ≤ 4096 := hb2
  refine callOk_w (tt := TTab) (rs := [(4, none)]) (n := ⟨27, none⟩) TTab_ok Try.func55 rfl rfl rfl rfl (by show _ ≤ 27; simp) fun E hE => ?_
  simp (maxSteps := 2000000) [go_sem, encM, encR, encE, encW, encL, ownW, ownL]
  refine AWP.reg TTab_ok hC [0, 1] fun K hK => ?_
  simp (maxSteps := 2000000) [go_sem, encM, encR, encE, encW, encL, ownW, ownL]
  with_reducible refine hK _ ?_
  clear hK K
  refine AWP.next fun K1 hK1 => ?_
  refine AWP.reg TTab_ok hC [0, 1, 10] fun K hK => ?_
  simp (maxSteps := 2000000) [go_sem, encM, encR, encE, encW, encL, ownW, ownL]
  with_reducible refine hK _ ?_
  clear hK K
  refine AWP.condW fun T F hT hF => ?_
  simp (maxSteps := 2000000) [go_sem, encM, encR, encE, encW, encL, ownW, ownL]
  refine ⟨fun c1 => hT ?_, fun c1 => hF ?_⟩
  · clear hT hF T F
    refine AWP.reg TTab_ok hC [4] fun K hK => ?_
    simp (maxSteps := 2000000) [go_sem, encM, encR, encE, encW, encL, ownW, ownL]
    with_reducible refine hK _ ?_
    clear hK K
    refine AWP.ret (hE _ ?_)
    simp [go_sem]
    rintro rfl
    exact c1 rfl
  · clear hT hF T F
    have hlen : a.length = b.length := by omega
    refine AWP.skip (hK1 _ ?_)
    clear hK1
    refine AWP.next fun K3 hK3 => ?_
    refine AWP.reg TTab_ok hC [0, 1, 5] fun K hK => ?_
    simp (maxSteps := 2000000) [go_sem, encM, encR, encE, encW, encL, ownW, ownL]
    with_reducible refine hK _ ?_
    clear hK K
    refine AWP.block ?_
    refine AWP.loopX (X := Nat) [0, 1, 5] (fun i => i ≤ a.length ∧ a.take i = b.take i) (fun i => a.length - i) (fun i => ofL [(0, .d (encL a)), (1, .d (encL b)), (5, .d (.atom (.int .i64 i)))]) (0) ?_ ?_ ?_
    · exact ⟨Nat.zero_le _, rfl⟩
    · simp (maxSteps := 2000000) [go_sem, encM, encR, encE, encW, encL, ownW, ownL]
    intro i hx J4 hJ4
    obtain ⟨h1, hf⟩ := hx
    refine AWP.next fun K5 hK5 => ?_
    refine AWP.reg TTab_ok hC [0, 1, 5, 14] fun K hK => ?_
    simp (maxSteps := 2000000) [go_sem, encM, encR, encE, encW, encL, ownW, ownL]
    with_reducible refine hK _ ?_
    clear hK K
    refine AWP.condW fun T F hT hF => ?_
    simp (maxSteps := 2000000) [go_sem, encM, encR, encE, encW, encL, ownW, ownL]
    refine ⟨fun c4 => hT ?_, fun c4 => hF ?_⟩
    · clear hT hF T F
      obtain ⟨u, hu⟩ := some_at (show i < a.length by omega)
      obtain ⟨v, hv⟩ := some_at (show i < b.length by omega)
      refine AWP.skip (hK5 _ ?_)
      clear hK5
      refine AWP.next fun K7 hK7 => ?_
      refine AWP.block ?_
      have qRCmp := spRCmp_run hRCmp (ha2 u (List.mem_of_getElem? hu)) (hb2 v (List.mem_of_getElem? hv))
      try simp only [encM, encR, encE, encW, encL, ownW, ownL] at qRCmp
      refine AWP.draw TTab_ok hC hm [0, 1, 5, 26] fun K hK => ?_
      simp (maxSteps := 2000000) [go_sem, encM, encR, encE, encW, encL, ownW, ownL, hu, hv, qRCmp, (spRCmp_at hRCmp).1, (spRCmp_at hRCmp).2.1, (spRCmp_at hRCmp).2.2]
      refine ⟨by decide +kernel, ?_⟩
      with_reducible refine hK _ ?_
      clear hK K
      refine AWP.condW fun T F hT hF => ?_
      simp (maxSteps := 2000000) [go_sem, encM, encR, encE, encW, encL, ownW, ownL]
      refine ⟨fun c6 => hT ?_, fun c6 => hF ?_⟩
      · clear hT hF T F
        refine AWP.reg TTab_ok hC [4] fun K hK => ?_
        simp (maxSteps := 2000000) [go_sem, encM, encR, encE, encW, encL, ownW, ownL]
        with_reducible refine hK _ ?_
        clear hK K
        refine AWP.ret (hE _ ?_)
        simp [go_sem]
        rintro rfl
        rw [hu] at hv
        exact c6 (wcmp_zero.2 (Option.some.inj hv))
      · clear hT hF T F
        refine AWP.skip (hK7 _ ?_)
        clear hK7
        refine AWP.regEnd TTab_ok hC fun K hK => ?_
        simp (maxSteps := 2000000) [go_sem, encM, encR, encE, encW, encL, ownW, ownL]
        with_reducible refine hK _ ?_
        clear hK K
        refine hJ4 _ (i + 1) ?_ ?_ ?_
        · refine ⟨by omega, ?_⟩
          have huv : u = v := wcmp_zero.1 (by omega)
          rw [List.take_add_one, List.take_add_one, hf, hu, hv, huv]
        · omega
        simp (maxSteps := 2000000) [go_sem, encM, encR, encE, encW, encL, ownW, ownL]
        rw [IntWalk.i64_in _ (by omega)]
    · clear hT hF T F
      refine AWP.exit (hK3 _ ?_)
      clear hK3
      refine AWP.reg TTab_ok hC [4] fun K hK => ?_
      simp (maxSteps := 2000000) [go_sem, encM, encR, encE, encW, encL, ownW, ownL]
      with_reducible refine hK _ ?_
      clear hK K
      refine AWP.ret (hE _ ?_)
      simp [go_sem]
      rw [List.take_of_length_le (by omega), List.take_of_length_le (by omega)] at hf
      exact hf

set_option maxHeartbeats 1000000 in
theorem wInts {ctr : Ctr} (hC : CtrOk Try.prog ctr) (hm : Try.prog.follows .mixedOrders = true) (hSame : ctr.Has spSame) : spInts.Ok Try.prog := by
  rintro ⟨a, b⟩ ⟨hl, he⟩
  show CallOk _ 18 [.sl 1 true (a.map fun x => .atom (.int .i64 x)), encW b] (.atom (.bool true))
  have hl : a.length ≤ 4096 := hl
  have he : a = b := he
  subst he
  refine callOk_w (tt := TTab) (rs := [(4, none)]) (n := ⟨17, none⟩) TTab_ok Try.func18 rfl rfl rfl rfl (by show _ ≤ 17; simp) fun E hE => ?_
  simp (maxSteps := 2000000) [go_sem, encM, encR, encE, encW, encL, ownW, ownL]
  refine AWP.reg TTab_ok hC [0, 1] fun K hK => ?_
  simp (maxSteps := 2000000) [go_sem, encM, encR, encE, encW, encL, ownW, ownL]
  with_reducible refine hK _ ?_
  clear hK K
  have qSame := spSame_run hSame (a := [a]) (b := [a]) (by simp) (by simp) (by simpa using hl) (by simpa using hl)
  try simp only [encM, encR, encE, encW, encL, ownW, ownL, List.map_cons, List.map_nil] at qSame
  refine AWP.reg TTab_ok hC [4] fun K hK => ?_
  simp (maxSteps := 2000000) [go_sem, encM, encR, encE, encW, encL, ownW, ownL, qSame, (spSame_at hSame).1, (spSame_at hSame).2.1, (spSame_at hSame).2.2]
  with_reducible refine hK _ ?_
  clear hK K
  refine AWP.ret (hE _ ?_)
  simp (maxSteps := 2000000) [go_sem, encM, encR, encE, encW, encL, ownW, ownL]


end Go.Own
