/- Walks. Printed by a program of the prover's. -/
import Derived.Test.YtdnenbcldibnoaaLawA
import Derived.Test.YtdnenbcldibnoaaOwnTT
namespace Go.Own
open Go.Proofs
set_option linter.unusedSimpArgs false
set_option linter.unusedVariables false

set_option maxHeartbeats 1000000 in
theorem wNaN {ctr : Ctr} (hC : CtrOk Try.prog ctr) (hm : Try.prog.follows .mixedOrders = true)  : spNaN.Ok Try.prog := by
  intro (a : Int)
  rintro _
  show CallOk _ 131 [.atom (.int .i64 a)] (.atom (.bool false))
  refine callOk_w (tt := TTab) (rs := [(2, none)]) (n := ⟨6, none⟩) TTab_ok Try.func131 rfl rfl rfl rfl (by show _ ≤ 6; simp) fun E hE => ?_
  simp (maxSteps := 2000000) [go_sem, encM, encR, encE, encW, encL, ownW, ownL]
  refine AWP.reg TTab_ok hC [0] fun K hK => ?_
  simp (maxSteps := 2000000) [go_sem, encM, encR, encE, encW, encL, ownW, ownL]
  with_reducible refine hK _ ?_
  clear hK K
  refine AWP.reg TTab_ok hC [2] fun K hK => ?_
  simp (maxSteps := 2000000) [go_sem, encM, encR, encE, encW, encL, ownW, ownL]
  with_reducible refine hK _ ?_
  clear hK K
  refine AWP.ret (hE _ ?_)
  simp (maxSteps := 2000000) [go_sem, encM, encR, encE, encW, encL, ownW, ownL]

set_option maxHeartbeats 1000000 in
theorem wCmpI {ctr : Ctr} (hC : CtrOk Try.prog ctr) (hm : Try.prog.follows .mixedOrders = true) (hNaN : ctr.Has spNaN) : spCmpI.Ok Try.prog := by
  rintro ⟨a, b⟩ _
  show CallOk _ 104 [.atom (.int .i64 a), .atom (.int .i64 b)] (.atom (.int .i64 (cmpI a b)))
  refine callOk_w (tt := TTab) (rs := [(4, none)]) (n := ⟨20, none⟩) TTab_ok Try.func104 rfl rfl rfl rfl (by show _ ≤ 20; simp) fun E hE => ?_
  simp (maxSteps := 2000000) [go_sem, encM, encR, encE, encW, encL, ownW, ownL]
  refine AWP.reg TTab_ok hC [0, 1] fun K hK => ?_
  simp (maxSteps := 2000000) [go_sem, encM, encR, encE, encW, encL, ownW, ownL]
  with_reducible refine hK _ ?_
  clear hK K
  have qNaN := spNaN_run hNaN (a := a)
  try simp only [encM, encR, encE, encW, encL, ownW, ownL] at qNaN
  refine AWP.reg TTab_ok hC [0, 1, 5] fun K hK => ?_
  simp (maxSteps := 2000000) [go_sem, encM, encR, encE, encW, encL, ownW, ownL, qNaN, (spNaN_at hNaN).1, (spNaN_at hNaN).2.1, (spNaN_at hNaN).2.2]
  with_reducible refine hK _ ?_
  clear hK K
  have qNaN := spNaN_run hNaN (a := b)
  try simp only [encM, encR, encE, encW, encL, ownW, ownL] at qNaN
  refine AWP.reg TTab_ok hC [0, 1, 5, 6] fun K hK => ?_
  simp (maxSteps := 2000000) [go_sem, encM, encR, encE, encW, encL, ownW, ownL, qNaN, (spNaN_at hNaN).1, (spNaN_at hNaN).2.1, (spNaN_at hNaN).2.2]
  with_reducible refine hK _ ?_
  clear hK K
  refine AWP.next fun K1 hK1 => ?_
  refine AWP.reg TTab_ok hC [0, 1, 6, 11] fun K hK => ?_
  simp (maxSteps := 2000000) [go_sem, encM, encR, encE, encW, encL, ownW, ownL]
  with_reducible refine hK _ ?_
  clear hK K
  refine AWP.condW fun T F hT hF => ?_
  simp (maxSteps := 2000000) [go_sem, encM, encR, encE, encW, encL, ownW, ownL]
  refine hF ?_
  clear hT hF T F
  refine AWP.skip (hK1 _ ?_)
  clear hK1
  refine AWP.next fun K3 hK3 => ?_
  refine AWP.reg TTab_ok hC [0, 1, 13] fun K hK => ?_
  simp (maxSteps := 2000000) [go_sem, encM, encR, encE, encW, encL, ownW, ownL]
  with_reducible refine hK _ ?_
  clear hK K
  refine AWP.condW fun T F hT hF => ?_
  simp (maxSteps := 2000000) [go_sem, encM, encR, encE, encW, encL, ownW, ownL]
  refine hF ?_
  clear hT hF T F
  refine AWP.skip (hK3 _ ?_)
  clear hK3
  refine AWP.next fun K5 hK5 => ?_
  refine AWP.reg TTab_ok hC [0, 1, 16] fun K hK => ?_
  simp (maxSteps := 2000000) [go_sem, encM, encR, encE, encW, encL, ownW, ownL]
  with_reducible refine hK _ ?_
  clear hK K
  refine AWP.condW fun T F hT hF => ?_
  simp (maxSteps := 2000000) [go_sem, encM, encR, encE, encW, encL, ownW, ownL]
  refine ⟨fun c9 => hT ?_, fun c9 => hF ?_⟩
  · clear hT hF T F
    refine AWP.reg TTab_ok hC [4] fun K hK => ?_
    simp (maxSteps := 2000000) [go_sem, encM, encR, encE, encW, encL, ownW, ownL]
    with_reducible refine hK _ ?_
    clear hK K
    refine AWP.ret (hE _ ?_)
    simp [go_sem]
    unfold cmpI
    (repeat' split) <;> omega
  · clear hT hF T F
    refine AWP.skip (hK5 _ ?_)
    clear hK5
    refine AWP.next fun K7 hK7 => ?_
    refine AWP.reg TTab_ok hC [19] fun K hK => ?_
    simp (maxSteps := 2000000) [go_sem, encM, encR, encE, encW, encL, ownW, ownL]
    with_reducible refine hK _ ?_
    clear hK K
    refine AWP.condW fun T F hT hF => ?_
    simp (maxSteps := 2000000) [go_sem, encM, encR, encE, encW, encL, ownW, ownL]
    refine ⟨fun c11 => hT ?_, fun c11 => hF ?_⟩
    · clear hT hF T F
      refine AWP.reg TTab_ok hC [4] fun K hK => ?_
      simp (maxSteps := 2000000) [go_sem, encM, encR, encE, encW, encL, ownW, ownL]
      with_reducible refine hK _ ?_
      clear hK K
      refine AWP.ret (hE _ ?_)
      simp [go_sem]
      unfold cmpI
      (repeat' split) <;> omega
    · clear hT hF T F
      refine AWP.skip (hK7 _ ?_)
      clear hK7
      refine AWP.reg TTab_ok hC [4] fun K hK => ?_
      simp (maxSteps := 2000000) [go_sem, encM, encR, encE, encW, encL, ownW, ownL]
      with_reducible refine hK _ ?_
      clear hK K
      refine AWP.ret (hE _ ?_)
      simp [go_sem]
      unfold cmpI
      (repeat' split) <;> omega

set_option maxHeartbeats 1000000 in
theorem wLex {ctr : Ctr} (hC : CtrOk Try.prog ctr) (hm : Try.prog.follows .mixedOrders = true) (hCmpI : ctr.Has spCmpI) : spLex.Ok Try.prog := by
  rintro ⟨a, b⟩ ⟨ha, hb⟩
  show CallOk _ 80 [encW a, encW b] (.atom (.int .i64 (lexC a b)))
  have ha : a.length ≤ 4096 := ha
  have hb : b.length ≤ 4096 := hb
  refine callOk_w (tt := TTab) (rs := [(4, none)]) (n := ⟨36, none⟩) TTab_ok Try.func80 rfl rfl rfl rfl (by show _ ≤ 36; simp) fun E hE => ?_
  simp (maxSteps := 2000000) [go_sem, encM, encR, encE, encW, encL, ownW, ownL]
  refine AWP.reg TTab_ok hC [0, 1] fun K hK => ?_
  simp (maxSteps := 2000000) [go_sem, encM, encR, encE, encW, encL, ownW, ownL]
  with_reducible refine hK _ ?_
  clear hK K
  refine AWP.next fun K1 hK1 => ?_
  refine AWP.reg TTab_ok hC [0, 1, 9, 10, 11] fun K hK => ?_
  simp (maxSteps := 2000000) [go_sem, encM, encR, encE, encW, encL, ownW, ownL]
  with_reducible refine hK _ ?_
  clear hK K
  refine AWP.block ?_
  refine AWP.loopX (X := Nat) [0, 1, 9, 10, 11] (fun i => i ≤ a.length ∧ i ≤ b.length ∧ lexC (a.drop i) (b.drop i) = lexC a b) (fun i => a.length - i) (fun i => ofL [(0, .d (encW a)), (1, .d (encW b)), (9, .d (encW a)), (10, .d (.atom (.int .i64 a.length))), (11, .d (.atom (.int .i64 i)))]) (0) ?_ ?_ ?_
  · exact ⟨Nat.zero_le _, Nat.zero_le _, rfl⟩
  · simp (maxSteps := 2000000) [go_sem, encM, encR, encE, encW, encL, ownW, ownL]
  intro i hx J2 hJ2
  obtain ⟨h1, h2, hf⟩ := hx
  refine AWP.reg TTab_ok hC [0, 1, 9, 10, 11, 12] fun K hK => ?_
  simp (maxSteps := 2000000) [go_sem, encM, encR, encE, encW, encL, ownW, ownL]
  with_reducible refine hK _ ?_
  clear hK K
  refine AWP.next fun K3 hK3 => ?_
  refine AWP.condW fun T F hT hF => ?_
  simp (maxSteps := 2000000) [go_sem, encM, encR, encE, encW, encL, ownW, ownL]
  refine ⟨fun c2 => hT ?_, fun c2 => hF ?_⟩
  · clear hT hF T F
    obtain ⟨u, hu⟩ := some_at (show i < a.length by omega)
    have hda := drop_cons hu
    refine AWP.skip (hK3 _ ?_)
    clear hK3
    refine AWP.next fun K5 hK5 => ?_
    refine AWP.block ?_
    refine AWP.reg TTab_ok hC [0, 1, 5, 6, 9, 10, 11] fun K hK => ?_
    simp (maxSteps := 2000000) [go_sem, encM, encR, encE, encW, encL, ownW, ownL, hu]
    with_reducible refine hK _ ?_
    clear hK K
    refine AWP.next fun K6 hK6 => ?_
    refine AWP.reg TTab_ok hC [0, 1, 5, 6, 9, 10, 11, 19] fun K hK => ?_
    simp (maxSteps := 2000000) [go_sem, encM, encR, encE, encW, encL, ownW, ownL]
    with_reducible refine hK _ ?_
    clear hK K
    refine AWP.condW fun T F hT hF => ?_
    simp (maxSteps := 2000000) [go_sem, encM, encR, encE, encW, encL, ownW, ownL]
    refine ⟨fun c4 => hT ?_, fun c4 => hF ?_⟩
    · clear hT hF T F
      refine AWP.reg TTab_ok hC [4] fun K hK => ?_
      simp (maxSteps := 2000000) [go_sem, encM, encR, encE, encW, encL, ownW, ownL]
      with_reducible refine hK _ ?_
      clear hK K
      refine AWP.ret (hE _ ?_)
      simp [go_sem]
      rw [← hf, hda, List.drop_eq_nil_of_le (show b.length ≤ i by omega)]
      rfl
    · clear hT hF T F
      obtain ⟨v, hv⟩ := some_at (show i < b.length by omega)
      have hdb := drop_cons hv
      refine AWP.skip (hK6 _ ?_)
      clear hK6
      refine AWP.reg TTab_ok hC [0, 1, 6, 7, 9, 10, 11] fun K hK => ?_
      simp (maxSteps := 2000000) [go_sem, encM, encR, encE, encW, encL, ownW, ownL, hv]
      with_reducible refine hK _ ?_
      clear hK K
      have qCmpI := spCmpI_run hCmpI (a := u) (b := v)
      try simp only [encM, encR, encE, encW, encL, ownW, ownL] at qCmpI
      refine AWP.reg TTab_ok hC [0, 1, 8, 9, 10, 11] fun K hK => ?_
      simp (maxSteps := 2000000) [go_sem, encM, encR, encE, encW, encL, ownW, ownL, qCmpI, (spCmpI_at hCmpI).1, (spCmpI_at hCmpI).2.1, (spCmpI_at hCmpI).2.2]
      with_reducible refine hK _ ?_
      clear hK K
      refine AWP.reg TTab_ok hC [0, 1, 8, 9, 10, 11, 28] fun K hK => ?_
      simp (maxSteps := 2000000) [go_sem, encM, encR, encE, encW, encL, ownW, ownL]
      with_reducible refine hK _ ?_
      clear hK K
      refine AWP.condW fun T F hT hF => ?_
      simp (maxSteps := 2000000) [go_sem, encM, encR, encE, encW, encL, ownW, ownL]
      refine ⟨fun c8 => hT ?_, fun c8 => hF ?_⟩
      · clear hT hF T F
        refine AWP.reg TTab_ok hC [4] fun K hK => ?_
        simp (maxSteps := 2000000) [go_sem, encM, encR, encE, encW, encL, ownW, ownL]
        with_reducible refine hK _ ?_
        clear hK K
        refine AWP.ret (hE _ ?_)
        simp [go_sem]
        rw [← hf, hda, hdb]
        simp [lexC, c8]
      · clear hT hF T F
        refine AWP.skip (hK5 _ ?_)
        clear hK5
        refine AWP.regEnd TTab_ok hC fun K hK => ?_
        simp (maxSteps := 2000000) [go_sem, encM, encR, encE, encW, encL, ownW, ownL]
        with_reducible refine hK _ ?_
        clear hK K
        refine hJ2 _ (i + 1) ?_ ?_ ?_
        · exact ⟨by omega, by omega, by rw [← hf, hda, hdb]; simp [lexC, c8]⟩
        · omega
        simp (maxSteps := 2000000) [go_sem, encM, encR, encE, encW, encL, ownW, ownL]
        rw [IntWalk.i64_in _ (by omega)]
  · clear hT hF T F
    refine AWP.exit (hK1 _ ?_)
    clear hK1
    refine AWP.next fun K9 hK9 => ?_
    refine AWP.reg TTab_ok hC [35] fun K hK => ?_
    simp (maxSteps := 2000000) [go_sem, encM, encR, encE, encW, encL, ownW, ownL]
    with_reducible refine hK _ ?_
    clear hK K
    refine AWP.condW fun T F hT hF => ?_
    simp (maxSteps := 2000000) [go_sem, encM, encR, encE, encW, encL, ownW, ownL]
    refine ⟨fun c11 => hT ?_, fun c11 => hF ?_⟩
    · clear hT hF T F
      refine AWP.reg TTab_ok hC [4] fun K hK => ?_
      simp (maxSteps := 2000000) [go_sem, encM, encR, encE, encW, encL, ownW, ownL]
      with_reducible refine hK _ ?_
      clear hK K
      refine AWP.ret (hE _ ?_)
      simp [go_sem]
      rw [← hf, List.drop_eq_nil_of_le (show a.length ≤ i by omega)]
      obtain ⟨v, hv⟩ := some_at (show i < b.length by omega)
      rw [drop_cons hv]
      rfl
    · clear hT hF T F
      refine AWP.skip (hK9 _ ?_)
      clear hK9
      refine AWP.reg TTab_ok hC [4] fun K hK => ?_
      simp (maxSteps := 2000000) [go_sem, encM, encR, encE, encW, encL, ownW, ownL]
      with_reducible refine hK _ ?_
      clear hK K
      refine AWP.ret (hE _ ?_)
      simp [go_sem]
      rw [← hf, List.drop_eq_nil_of_le (show a.length ≤ i by omega), List.drop_eq_nil_of_le (show b.length ≤ i by omega)]
      rfl

set_option maxHeartbeats 1000000 in
theorem wOr {ctr : Ctr} (hC : CtrOk Try.prog ctr) (hm : Try.prog.follows .mixedOrders = true)  : spOr.Ok Try.prog := by
  intro (l : List Int)
  rintro hl
  show CallOk _ 152 [encW l] (.atom (.int .i64 (orI l)))
  have hl : l.length ≤ 4096 := hl
  refine callOk_w (tt := TTab) (rs := [(2, none)]) (n := ⟨18, none⟩) TTab_ok Try.func152 rfl rfl rfl rfl (by show _ ≤ 18; simp) fun E hE => ?_
  simp (maxSteps := 2000000) [go_sem, encM, encR, encE, encW, encL, ownW, ownL]
  refine AWP.reg TTab_ok hC [0] fun K hK => ?_
  simp (maxSteps := 2000000) [go_sem, encM, encR, encE, encW, encL, ownW, ownL]
  with_reducible refine hK _ ?_
  clear hK K
  refine AWP.reg TTab_ok hC [0, 3] fun K hK => ?_
  simp (maxSteps := 2000000) [go_sem, encM, encR, encE, encW, encL, ownW, ownL]
  with_reducible refine hK _ ?_
  clear hK K
  refine AWP.next fun K1 hK1 => ?_
  refine AWP.reg TTab_ok hC [0, 3, 6, 7, 8] fun K hK => ?_
  simp (maxSteps := 2000000) [go_sem, encM, encR, encE, encW, encL, ownW, ownL]
  with_reducible refine hK _ ?_
  clear hK K
  refine AWP.block ?_
  refine AWP.loopX (X := Nat) [0, 3, 6, 7, 8] (fun i => i ≤ l.length ∧ orI (l.drop i) = orI l) (fun i => l.length - i) (fun i => ofL [(0, .d (encW l)), (3, .d (.atom (.int .i64 0))), (6, .d (encW l)), (7, .d (.atom (.int .i64 l.length))), (8, .d (.atom (.int .i64 i)))]) (0) ?_ ?_ ?_
  · exact ⟨Nat.zero_le _, rfl⟩
  · simp (maxSteps := 2000000) [go_sem, encM, encR, encE, encW, encL, ownW, ownL]
  intro i hx J2 hJ2
  obtain ⟨h1, hf⟩ := hx
  refine AWP.reg TTab_ok hC [0, 3, 6, 7, 8, 9] fun K hK => ?_
  simp (maxSteps := 2000000) [go_sem, encM, encR, encE, encW, encL, ownW, ownL]
  with_reducible refine hK _ ?_
  clear hK K
  refine AWP.next fun K3 hK3 => ?_
  refine AWP.condW fun T F hT hF => ?_
  simp (maxSteps := 2000000) [go_sem, encM, encR, encE, encW, encL, ownW, ownL]
  refine ⟨fun c3 => hT ?_, fun c3 => hF ?_⟩
  · clear hT hF T F
    obtain ⟨u, hu⟩ := some_at (show i < l.length by omega)
    have hd := drop_cons hu
    refine AWP.skip (hK3 _ ?_)
    clear hK3
    refine AWP.next fun K5 hK5 => ?_
    refine AWP.block ?_
    refine AWP.reg TTab_ok hC [0, 3, 5, 6, 7, 8] fun K hK => ?_
    simp (maxSteps := 2000000) [go_sem, encM, encR, encE, encW, encL, ownW, ownL, hu]
    with_reducible refine hK _ ?_
    clear hK K
    refine AWP.reg TTab_ok hC [0, 3, 5, 6, 7, 8, 14] fun K hK => ?_
    simp (maxSteps := 2000000) [go_sem, encM, encR, encE, encW, encL, ownW, ownL]
    with_reducible refine hK _ ?_
    clear hK K
    refine AWP.condW fun T F hT hF => ?_
    simp (maxSteps := 2000000) [go_sem, encM, encR, encE, encW, encL, ownW, ownL]
    refine ⟨fun c5 => hT ?_, fun c5 => hF ?_⟩
    · clear hT hF T F
      refine AWP.reg TTab_ok hC [2] fun K hK => ?_
      simp (maxSteps := 2000000) [go_sem, encM, encR, encE, encW, encL, ownW, ownL]
      with_reducible refine hK _ ?_
      clear hK K
      refine AWP.ret (hE _ ?_)
      simp [go_sem]
      rw [← hf, hd]
      simp [orI, c5]
    · clear hT hF T F
      refine AWP.skip (hK5 _ ?_)
      clear hK5
      refine AWP.regEnd TTab_ok hC fun K hK => ?_
      simp (maxSteps := 2000000) [go_sem, encM, encR, encE, encW, encL, ownW, ownL]
      with_reducible refine hK _ ?_
      clear hK K
      refine hJ2 _ (i + 1) ?_ ?_ ?_
      · exact ⟨by omega, by rw [← hf, hd]; simp [orI, c5]⟩
      · omega
      simp (maxSteps := 2000000) [go_sem, encM, encR, encE, encW, encL, ownW, ownL]
      rw [IntWalk.i64_in _ (by omega)]
  · clear hT hF T F
    refine AWP.exit (hK1 _ ?_)
    clear hK1
    refine AWP.reg TTab_ok hC [2] fun K hK => ?_
    simp (maxSteps := 2000000) [go_sem, encM, encR, encE, encW, encL, ownW, ownL]
    with_reducible refine hK _ ?_
    clear hK K
    refine AWP.ret (hE _ ?_)
    simp [go_sem]
    rw [← hf, List.drop_eq_nil_of_le (show l.length ≤ i by omega)]
    rfl

set_option maxHeartbeats 1000000 in
theorem wWCmp {ctr : Ctr} (hC : CtrOk Try.prog ctr) (hm : Try.prog.follows .mixedOrders = true) (hCmpI : ctr.Has spCmpI) (hLex : ctr.Has spLex) (hOr : ctr.Has spOr) : spWCmp.Ok Try.prog := by
  rintro ⟨a, b⟩ ⟨ha, hb⟩
  show CallOk _ 135 [encW a, encW b] (.atom (.int .i64 (wcmp a b)))
  have ha : a.length ≤ 4096 := ha
  have hb : b.length ≤ 4096 := hb
  refine callOk_w (tt := TTab) (rs := [(4, none)]) (n := ⟨15, none⟩) TTab_ok Try.func135 rfl rfl rfl rfl (by show _ ≤ 15; simp) fun E hE => ?_
  simp (maxSteps := 2000000) [go_sem, encM, encR, encE, encW, encL, ownW, ownL]
  refine AWP.reg TTab_ok hC [0, 1] fun K hK => ?_
  simp (maxSteps := 2000000) [go_sem, encM, encR, encE, encW, encL, ownW, ownL]
  with_reducible refine hK _ ?_
  clear hK K
  have qCmpI := spCmpI_run hCmpI (a := a.length) (b := b.length)
  try simp only [encM, encR, encE, encW, encL, ownW, ownL] at qCmpI
  have qLex := spLex_run hLex ha hb
  try simp only [encM, encR, encE, encW, encL, ownW, ownL] at qLex
  have qOr := spOr_run hOr (l := [cmpI a.length b.length, lexC a b]) (by simp)
  try simp only [encM, encR, encE, encW, encL, ownW, ownL, List.map_cons, List.map_nil, wcmp_or] at qOr
  refine AWP.reg TTab_ok hC [4] fun K hK => ?_
  simp (maxSteps := 2000000) [go_sem, encM, encR, encE, encW, encL, ownW, ownL, qCmpI, (spCmpI_at hCmpI).1, (spCmpI_at hCmpI).2.1, (spCmpI_at hCmpI).2.2, qLex, (spLex_at hLex).1, (spLex_at hLex).2.1, (spLex_at hLex).2.2, qOr, (spOr_at hOr).1, (spOr_at hOr).2.1, (spOr_at hOr).2.2]
  with_reducible refine hK _ ?_
  clear hK K
  refine AWP.ret (hE _ ?_)
  simp (maxSteps := 2000000) [go_sem, encM, encR, encE, encW, encL, ownW, ownL]

set_option maxHeartbeats 1000000 in
theorem wRCmp {ctr : Ctr} (hC : CtrOk Try.prog ctr) (hm : Try.prog.follows .mixedOrders = true)  : spRCmp.Ok Try.prog := by
  rintro ⟨a, b⟩ ⟨ha, hb⟩
  show CallOk _ 62 [encW a, encW b] (.atom (.int .i64 (wcmp a b)))
  have ha : a.length ≤ 4096 := ha
  have hb : b.length ≤ 4096 := hb
  refine callOk_w (tt := TTab) (rs := [(4, none)]) (n := ⟨40, none⟩) TTab_ok Try.func62 rfl rfl rfl rfl (by show _ ≤ 40; simp) fun E hE => ?_
  simp (maxSteps := 2000000) [go_sem, encM, encR, encE, encW, encL, ownW, ownL]
  refine AWP.reg TTab_ok hC [0, 1] fun K hK => ?_
  simp (maxSteps := 2000000) [go_sem, encM, encR, encE, encW, encL, ownW, ownL]
  with_reducible refine hK _ ?_
  clear hK K
  refine AWP.next fun K1 hK1 => ?_
  refine AWP.reg TTab_ok hC [0, 1, 10] fun K hK => ?_
  simp (maxSteps := 2000000) [go_sem, encM, encR, encE, encW, encL, ownW, ownL]
  with_reducible refine hK _ ?_
  clear hK K
  refine AWP.condW fun T F hT hF => ?_
  simp (maxSteps := 2000000) [go_sem, encM, encR, encE, encW, encL, ownW, ownL]
  refine ⟨fun c1 => hT ?_, fun c1 => hF ?_⟩
  · clear hT hF T F
    refine AWP.next fun K3 hK3 => ?_
    refine AWP.reg TTab_ok hC [15] fun K hK => ?_
    simp (maxSteps := 2000000) [go_sem, encM, encR, encE, encW, encL, ownW, ownL]
    with_reducible refine hK _ ?_
    clear hK K
    refine AWP.condW fun T F hT hF => ?_
    simp (maxSteps := 2000000) [go_sem, encM, encR, encE, encW, encL, ownW, ownL]
    refine ⟨fun c2 => hT ?_, fun c2 => hF ?_⟩
    · clear hT hF T F
      refine AWP.reg TTab_ok hC [4] fun K hK => ?_
      simp (maxSteps := 2000000) [go_sem, encM, encR, encE, encW, encL, ownW, ownL]
      with_reducible refine hK _ ?_
      clear hK K
      refine AWP.ret (hE _ ?_)
      simp [go_sem]
      unfold wcmp cmpI
      (repeat' split) <;> omega
    · clear hT hF T F
      refine AWP.skip (hK3 _ ?_)
      clear hK3
      refine AWP.reg TTab_ok hC [4] fun K hK => ?_
      simp (maxSteps := 2000000) [go_sem, encM, encR, encE, encW, encL, ownW, ownL]
      with_reducible refine hK _ ?_
      clear hK K
      refine AWP.ret (hE _ ?_)
      simp [go_sem]
      unfold wcmp cmpI
      (repeat' split) <;> omega
  · clear hT hF T F
    have hw : wcmp a b = lexC a b := by unfold wcmp; rw [if_neg]; simp [cmpI_zero]; omega
    refine AWP.skip (hK1 _ ?_)
    clear hK1
    refine AWP.next fun K5 hK5 => ?_
    refine AWP.reg TTab_ok hC [0, 1, 5] fun K hK => ?_
    simp (maxSteps := 2000000) [go_sem, encM, encR, encE, encW, encL, ownW, ownL]
    with_reducible refine hK _ ?_
    clear hK K
    refine AWP.block ?_
    refine AWP.loopX (X := Nat) [0, 1, 5] (fun i => i ≤ a.length ∧ lexC (a.drop i) (b.drop i) = lexC a b) (fun i => a.length - i) (fun i => ofL [(0, .d (encW a)), (1, .d (encW b)), (5, .d (.atom (.int .i64 i)))]) (0) ?_ ?_ ?_
    · exact ⟨Nat.zero_le _, rfl⟩
    · simp (maxSteps := 2000000) [go_sem, encM, encR, encE, encW, encL, ownW, ownL]
    intro i hx J6 hJ6
    obtain ⟨h1, hf⟩ := hx
    refine AWP.next fun K7 hK7 => ?_
    refine AWP.reg TTab_ok hC [0, 1, 5, 19] fun K hK => ?_
    simp (maxSteps := 2000000) [go_sem, encM, encR, encE, encW, encL, ownW, ownL]
    with_reducible refine hK _ ?_
    clear hK K
    refine AWP.condW fun T F hT hF => ?_
    simp (maxSteps := 2000000) [go_sem, encM, encR, encE, encW, encL, ownW, ownL]
    refine ⟨fun c6 => hT ?_, fun c6 => hF ?_⟩
    · clear hT hF T F
      obtain ⟨u, hu⟩ := some_at (show i < a.length by omega)
      have hda := drop_cons hu
      obtain ⟨v, hv⟩ := some_at (show i < b.length by omega)
      have hdb := drop_cons hv
      refine AWP.skip (hK7 _ ?_)
      clear hK7
      refine AWP.next fun K9 hK9 => ?_
      refine AWP.block ?_
      refine AWP.next fun K10 hK10 => ?_
      refine AWP.draw TTab_ok hC hm [0, 1, 5, 30] fun K hK => ?_
      simp (maxSteps := 2000000) [go_sem, encM, encR, encE, encW, encL, ownW, ownL, hu, hv]
      refine ⟨by decide +kernel, ?_⟩
      with_reducible refine hK _ ?_
      clear hK K
      refine AWP.condW fun T F hT hF => ?_
      simp (maxSteps := 2000000) [go_sem, encM, encR, encE, encW, encL, ownW, ownL]
      refine ⟨fun c8 => hT ?_, fun c8 => hF ?_⟩
      · clear hT hF T F
        refine AWP.reg TTab_ok hC [4] fun K hK => ?_
        simp (maxSteps := 2000000) [go_sem, encM, encR, encE, encW, encL, ownW, ownL]
        with_reducible refine hK _ ?_
        clear hK K
        refine AWP.ret (hE _ ?_)
        simp [go_sem]
        rw [hw, ← hf, hda, hdb]
        simp [lexC, cmpI, c8]
      · clear hT hF T F
        refine AWP.skip (hK10 _ ?_)
        clear hK10
        refine AWP.draw TTab_ok hC hm [0, 1, 5, 39] fun K hK => ?_
        simp (maxSteps := 2000000) [go_sem, encM, encR, encE, encW, encL, ownW, ownL, hu, hv]
        refine ⟨by decide +kernel, ?_⟩
        with_reducible refine hK _ ?_
        clear hK K
        refine AWP.condW fun T F hT hF => ?_
        simp (maxSteps := 2000000) [go_sem, encM, encR, encE, encW, encL, ownW, ownL]
        refine ⟨fun c10 => hT ?_, fun c10 => hF ?_⟩
        · clear hT hF T F
          refine AWP.reg TTab_ok hC [4] fun K hK => ?_
          simp (maxSteps := 2000000) [go_sem, encM, encR, encE, encW, encL, ownW, ownL]
          with_reducible refine hK _ ?_
          clear hK K
          refine AWP.ret (hE _ ?_)
          simp [go_sem]
          rw [hw, ← hf, hda, hdb]
          simp only [lexC, cmpI]
          (repeat' split) <;> omega
        · clear hT hF T F
          refine AWP.skip (hK9 _ ?_)
          clear hK9
          refine AWP.regEnd TTab_ok hC fun K hK => ?_
          simp (maxSteps := 2000000) [go_sem, encM, encR, encE, encW, encL, ownW, ownL]
          with_reducible refine hK _ ?_
          clear hK K
          refine hJ6 _ (i + 1) ?_ ?_ ?_
          · exact ⟨by omega, by rw [← hf, hda, hdb]; simp [lexC, cmpI_zero.2 (show u = v by omega)]⟩
          · omega
          simp (maxSteps := 2000000) [go_sem, encM, encR, encE, encW, encL, ownW, ownL]
          rw [IntWalk.i64_in _ (by omega)]
    · clear hT hF T F
      refine AWP.exit (hK5 _ ?_)
      clear hK5
      refine AWP.reg TTab_ok hC [4] fun K hK => ?_
      simp (maxSteps := 2000000) [go_sem, encM, encR, encE, encW, encL, ownW, ownL]
      with_reducible refine hK _ ?_
      clear hK K
      refine AWP.ret (hE _ ?_)
      simp [go_sem]
      rw [hw, ← hf, List.drop_eq_nil_of_le (show a.length ≤ i by omega), List.drop_eq_nil_of_le (show b.length ≤ i by omega)]
      rfl

set_option maxHeartbeats 1000000 in
theorem wClip {ctr : Ctr} (hC : CtrOk Try.prog ctr) (hm : Try.prog.follows .mixedOrders = true)  : spClip.Ok Try.prog := by
  intro (a : List Int)
  rintro ha
  show CallOk _ 54 [encW a] (.sl 1 true (a.map fun x => .atom (.int .i64 x)))
  have ha : a.length ≤ 65536 := ha
  refine callOk_w (tt := TTab) (rs := [(2, none)]) (n := ⟨9, none⟩) TTab_ok Try.func54 rfl rfl rfl rfl (by show _ ≤ 9; simp) fun E hE => ?_
  simp (maxSteps := 2000000) [go_sem, encM, encR, encE, encW, encL, ownW, ownL]
  refine AWP.reg TTab_ok hC [0] fun K hK => ?_
  simp (maxSteps := 2000000) [go_sem, encM, encR, encE, encW, encL, ownW, ownL]
  with_reducible refine hK _ ?_
  clear hK K
  refine AWP.reg TTab_ok hC [2] fun K hK => ?_
  simp (maxSteps := 2000000) [go_sem, encM, encR, encE, encW, encL, ownW, ownL]
  with_reducible refine hK _ ?_
  clear hK K
  refine AWP.ret (hE _ ?_)
  simp [go_sem, List.take_of_length_le]

set_option maxHeartbeats 1000000 in
theorem wSteps {ctr : Ctr} (hC : CtrOk Try.prog ctr) (hm : Try.prog.follows .mixedOrders = true)  : spSteps.Ok Try.prog := by
  intro (l : List (List Int))
  rintro ⟨hl, hs⟩
  show CallOk _ 110 [encL l] (.atom (.int .i64 (l.map List.length).sum))
  have hl : l.length ≤ 4096 := hl
  have hs : (l.map List.length).sum ≤ 1000000 := hs
  refine callOk_w (tt := TTab) (rs := [(2, none)]) (n := ⟨17, none⟩) TTab_ok Try.func110 rfl rfl rfl rfl (by show _ ≤ 17; simp) fun E hE => ?_
  simp (maxSteps := 2000000) [go_sem, encM, encR, encE, encW, encL, ownW, ownL]
  refine AWP.reg TTab_ok hC [0, 2] fun K hK => ?_
  simp (maxSteps := 2000000) [go_sem, encM, encR, encE, encW, encL, ownW, ownL]
  with_reducible refine hK _ ?_
  clear hK K
  refine AWP.next fun K1 hK1 => ?_
  refine AWP.reg TTab_ok hC [0, 2, 5, 6, 7] fun K hK => ?_
  simp (maxSteps := 2000000) [go_sem, encM, encR, encE, encW, encL, ownW, ownL]
  with_reducible refine hK _ ?_
  clear hK K
  refine AWP.block ?_
  refine AWP.loopX (X := Nat) [0, 2, 5, 6, 7] (fun i => i ≤ l.length) (fun i => l.length - i) (fun i => ofL [(0, .d (encL l)), (2, .d (.atom (.int .i64 ((l.map List.length).take i).sum))), (5, .d (encL l)), (6, .d (.atom (.int .i64 l.length))), (7, .d (.atom (.int .i64 i)))]) (0) ?_ ?_ ?_
  · exact Nat.zero_le _
  · simp (maxSteps := 2000000) [go_sem, encM, encR, encE, encW, encL, ownW, ownL]
  intro i hx J2 hJ2
  have hsi := sum_take_le (l.map List.length) (i + 1)
  refine AWP.reg TTab_ok hC [0, 2, 5, 6, 7, 8] fun K hK => ?_
  simp (maxSteps := 2000000) [go_sem, encM, encR, encE, encW, encL, ownW, ownL]
  with_reducible refine hK _ ?_
  clear hK K
  refine AWP.next fun K3 hK3 => ?_
  refine AWP.condW fun T F hT hF => ?_
  simp (maxSteps := 2000000) [go_sem, encM, encR, encE, encW, encL, ownW, ownL]
  refine ⟨fun c2 => hT ?_, fun c2 => hF ?_⟩
  · clear hT hF T F
    obtain ⟨u, hu⟩ := some_at (show i < l.length by omega)
    have hss := sum_take_succ l hu
    refine AWP.skip (hK3 _ ?_)
    clear hK3
    refine AWP.next fun K5 hK5 => ?_
    refine AWP.block ?_
    refine AWP.reg TTab_ok hC [0, 2, 4, 5, 6, 7] fun K hK => ?_
    simp (maxSteps := 2000000) [go_sem, encM, encR, encE, encW, encL, ownW, ownL, hu]
    with_reducible refine hK _ ?_
    clear hK K
    refine AWP.regEnd TTab_ok hC fun K hK => ?_
    simp (maxSteps := 2000000) [go_sem, encM, encR, encE, encW, encL, ownW, ownL]
    with_reducible refine hK _ ?_
    clear hK K
    refine hK5 _ ?_
    clear hK5
    refine AWP.regEnd TTab_ok hC fun K hK => ?_
    simp (maxSteps := 2000000) [go_sem, encM, encR, encE, encW, encL, ownW, ownL]
    with_reducible refine hK _ ?_
    clear hK K
    refine hJ2 _ (i + 1) ?_ ?_ ?_
    · omega
    · omega
    simp (maxSteps := 2000000) [go_sem, encM, encR, encE, encW, encL, ownW, ownL]
    rw [hss, IntWalk.i64_in _ (by omega), IntWalk.i64_in _ (by omega)]
    simp
  · clear hT hF T F
    refine AWP.exit (hK1 _ ?_)
    clear hK1
    refine AWP.reg TTab_ok hC [2] fun K hK => ?_
    simp (maxSteps := 2000000) [go_sem, encM, encR, encE, encW, encL, ownW, ownL]
    with_reducible refine hK _ ?_
    clear hK K
    refine AWP.ret (hE _ ?_)
    simp [go_sem]
    rw [List.take_of_length_le (by simp; omega)]

set_option maxHeartbeats 1000000 in
theorem wAhead {ctr : Ctr} (hC : CtrOk Try.prog ctr) (hm : Try.prog.follows .mixedOrders = true) (hWCmp : ctr.Has spWCmp) : spAhead.Ok Try.prog := by
  intro (l : List (List Int))
  rintro ⟨hl, hw, ha⟩
  show CallOk _ 109 [encL l] (.atom (.bool true))
  have hl : l.length ≤ 4096 := hl
  have hw : ∀ w ∈ l, w.length ≤ 4096 := hw
  have ha : Asc l := ha
  refine callOk_w (tt := TTab) (rs := [(2, none)]) (n := ⟨21, none⟩) TTab_ok Try.func109 rfl rfl rfl rfl (by show _ ≤ 21; simp) fun E hE => ?_
  simp (maxSteps := 2000000) [go_sem, encM, encR, encE, encW, encL, ownW, ownL]
  refine AWP.reg TTab_ok hC [0] fun K hK => ?_
  simp (maxSteps := 2000000) [go_sem, encM, encR, encE, encW, encL, ownW, ownL]
  with_reducible refine hK _ ?_
  clear hK K
  refine AWP.next fun K1 hK1 => ?_
  refine AWP.reg TTab_ok hC [0, 3] fun K hK => ?_
  simp (maxSteps := 2000000) [go_sem, encM, encR, encE, encW, encL, ownW, ownL]
  with_reducible refine hK _ ?_
  clear hK K
  refine AWP.block ?_
  refine AWP.loopX (X := Nat) [0, 3] (fun i => 1 ≤ i ∧ i ≤ l.length + 1) (fun i => l.length + 1 - i) (fun i => ofL [(0, .d (encL l)), (3, .d (.atom (.int .i64 i)))]) (1) ?_ ?_ ?_
  · exact ⟨by omega, by omega⟩
  · simp (maxSteps := 2000000) [go_sem, encM, encR, encE, encW, encL, ownW, ownL]
  intro i hx J2 hJ2
  refine AWP.next fun K3 hK3 => ?_
  refine AWP.reg TTab_ok hC [0, 3, 7] fun K hK => ?_
  simp (maxSteps := 2000000) [go_sem, encM, encR, encE, encW, encL, ownW, ownL]
  with_reducible refine hK _ ?_
  clear hK K
  refine AWP.condW fun T F hT hF => ?_
  simp (maxSteps := 2000000) [go_sem, encM, encR, encE, encW, encL, ownW, ownL]
  refine ⟨fun c2 => hT ?_, fun c2 => hF ?_⟩
  · clear hT hF T F
    obtain ⟨u, hu⟩ := some_at (show i - 1 < l.length by omega)
    obtain ⟨v, hv⟩ := some_at (show i < l.length by omega)
    have hlt := ha (i - 1) u v hu (by rw [show i - 1 + 1 = i by omega]; exact hv)
    have hge : ¬ 0 ≤ wcmp u v := by omega
    have hw1 : IntKind.i64.wrap ((i : Int) - 1) = ((i - 1 : Nat) : Int) := by rw [IntWalk.i64_in _ (by omega)]; omega
    refine AWP.skip (hK3 _ ?_)
    clear hK3
    refine AWP.next fun K5 hK5 => ?_
    refine AWP.block ?_
    have qWCmp := spWCmp_run hWCmp (hw u (List.mem_of_getElem? hu)) (hw v (List.mem_of_getElem? hv))
    try simp only [encM, encR, encE, encW, encL, ownW, ownL] at qWCmp
    refine AWP.draw TTab_ok hC hm [0, 3, 20] fun K hK => ?_
    simp (maxSteps := 2000000) [go_sem, encM, encR, encE, encW, encL, ownW, ownL, hw1, hu, hv, qWCmp, (spWCmp_at hWCmp).1, (spWCmp_at hWCmp).2.1, (spWCmp_at hWCmp).2.2]
    refine ⟨by decide +kernel, ?_⟩
    with_reducible refine hK _ ?_
    clear hK K
    refine AWP.condW fun T F hT hF => ?_
    simp (maxSteps := 2000000) [go_sem, encM, encR, encE, encW, encL, ownW, ownL, hge]
    refine hF ?_
    clear hT hF T F
    refine AWP.skip (hK5 _ ?_)
    clear hK5
    refine AWP.regEnd TTab_ok hC fun K hK => ?_
    simp (maxSteps := 2000000) [go_sem, encM, encR, encE, encW, encL, ownW, ownL]
    with_reducible refine hK _ ?_
    clear hK K
    refine hJ2 _ (i + 1) ?_ ?_ ?_
    · omega
    · omega
    simp (maxSteps := 2000000) [go_sem, encM, encR, encE, encW, encL, ownW, ownL]
    rw [IntWalk.i64_in _ (by omega)]
  · clear hT hF T F
    refine AWP.exit (hK1 _ ?_)
    clear hK1
    refine AWP.reg TTab_ok hC [2] fun K hK => ?_
    simp (maxSteps := 2000000) [go_sem, encM, encR, encE, encW, encL, ownW, ownL]
    with_reducible refine hK _ ?_
    clear hK K
    refine AWP.ret (hE _ ?_)
    simp (maxSteps := 2000000) [go_sem, encM, encR, encE, encW, encL, ownW, ownL]


end Go.Own
