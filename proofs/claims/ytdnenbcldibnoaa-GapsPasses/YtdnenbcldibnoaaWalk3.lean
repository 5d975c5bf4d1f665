/- Walks. Printed by a program of the prover's. -/
import Derived.Test.YtdnenbcldibnoaaLawA
import Derived.Test.YtdnenbcldibnoaaOwnTT
namespace Go.Own
open Go.Proofs
set_option linter.unusedSimpArgs false
set_option linter.unusedVariables false

set_option maxHeartbeats 1000000 in
theorem wBad {ctr : Ctr} (hC : CtrOk Try.prog ctr) (hm : Try.prog.follows .mixedOrders = true)  : spBad.Ok Try.prog := by
  rintro ⟨c, n⟩ ⟨h0, h1⟩
  show CallOk _ 151 [.atom (.int .i64 c), .sptr (.atom (.int .i64 n))] (.atom (.bool false))
  have h0 : 0 ≤ c := h0
  have h1 : c < n := h1
  have g0 : ¬ c < 0 := by omega
  have g1 : ¬ n ≤ c := by omega
  refine callOk_w (tt := TTab) (rs := [(3, none)]) (n := ⟨11, none⟩) TTab_ok Try.func151 rfl rfl rfl rfl (by show _ ≤ 11; simp) fun E hE => ?_
  simp (maxSteps := 2000000) [go_sem, encM, encR, encE, encW, encL, ownW, ownL]
  refine AWP.reg TTab_ok hC [0, 1] fun K hK => ?_
  simp (maxSteps := 2000000) [go_sem, encM, encR, encE, encW, encL, ownW, ownL]
  with_reducible refine hK _ ?_
  clear hK K
  refine AWP.reg TTab_ok hC [3] fun K hK => ?_
  simp (maxSteps := 2000000) [go_sem, encM, encR, encE, encW, encL, ownW, ownL, g0, g1]
  with_reducible refine hK _ ?_
  clear hK K
  refine AWP.ret (hE _ ?_)
  simp (maxSteps := 2000000) [go_sem, encM, encR, encE, encW, encL, ownW, ownL]

set_option maxHeartbeats 1000000 in
theorem wIndex1 {ctr : Ctr} (hC : CtrOk Try.prog ctr) (hm : Try.prog.follows .mixedOrders = true) (hBad : ctr.Has spBad) : spIndex1.Ok Try.prog := by
  rintro ⟨w, n⟩ ⟨hl, hw⟩
  show CallOk _ 160 [encW w, .fn 151 [.sptr (.atom (.int .i64 n))]] (.atom (.int .i64 (-1)))
  have hl : w.length ≤ 256 := hl
  have hw : Sym n w := hw
  refine callOk_w (tt := TTab) (rs := [(4, none)]) (n := ⟨19, none⟩) TTab_ok Try.func160 rfl rfl rfl rfl (by show _ ≤ 19; simp) fun E hE => ?_
  simp (maxSteps := 2000000) [go_sem, encM, encR, encE, encW, encL, ownW, ownL]
  refine AWP.reg TTab_ok hC [0, 1] fun K hK => ?_
  simp (maxSteps := 2000000) [go_sem, encM, encR, encE, encW, encL, ownW, ownL]
  with_reducible refine hK _ ?_
  clear hK K
  refine AWP.next fun K1 hK1 => ?_
  refine AWP.reg TTab_ok hC [0, 1, 7, 8] fun K hK => ?_
  simp (maxSteps := 2000000) [go_sem, encM, encR, encE, encW, encL, ownW, ownL]
  with_reducible refine hK _ ?_
  clear hK K
  refine AWP.block ?_
  refine AWP.loopX (X := Nat) [0, 1, 7, 8] (fun i => i ≤ w.length) (fun i => w.length - i) (fun i => ofL [(0, .d (encW w)), (1, .d (.fn 151 [.sptr (.atom (.int .i64 n))])), (7, .d (.atom (.int .i64 w.length))), (8, .d (.atom (.int .i64 i)))]) (0) ?_ ?_ ?_
  · exact Nat.zero_le _
  · simp (maxSteps := 2000000) [go_sem, encM, encR, encE, encW, encL, ownW, ownL]
  intro i hx J2 hJ2
  refine AWP.reg TTab_ok hC [0, 1, 7, 8, 9] fun K hK => ?_
  simp (maxSteps := 2000000) [go_sem, encM, encR, encE, encW, encL, ownW, ownL]
  with_reducible refine hK _ ?_
  clear hK K
  refine AWP.next fun K3 hK3 => ?_
  refine AWP.condW fun T F hT hF => ?_
  simp (maxSteps := 2000000) [go_sem, encM, encR, encE, encW, encL, ownW, ownL]
  refine ⟨fun c2 => hT ?_, fun c2 => hF ?_⟩
  · clear hT hF T F
    obtain ⟨u, hu⟩ := some_at (show i < w.length by omega)
    refine AWP.skip (hK3 _ ?_)
    clear hK3
    refine AWP.next fun K5 hK5 => ?_
    refine AWP.block ?_
    refine AWP.reg TTab_ok hC [0, 1, 5, 7, 8] fun K hK => ?_
    simp (maxSteps := 2000000) [go_sem, encM, encR, encE, encW, encL, ownW, ownL]
    with_reducible refine hK _ ?_
    clear hK K
    have qBad := spBad_run hBad (c := u) (n := n) (hw u (List.mem_of_getElem? hu)).1 (hw u (List.mem_of_getElem? hu)).2
    try simp only [encM, encR, encE, encW, encL, ownW, ownL] at qBad
    refine AWP.reg TTab_ok hC [0, 1, 5, 7, 8, 16] fun K hK => ?_
    simp (maxSteps := 2000000) [go_sem, encM, encR, encE, encW, encL, ownW, ownL, hu, qBad, (spBad_at hBad).1, (spBad_at hBad).2.1, (spBad_at hBad).2.2]
    with_reducible refine hK _ ?_
    clear hK K
    refine AWP.condW fun T F hT hF => ?_
    simp (maxSteps := 2000000) [go_sem, encM, encR, encE, encW, encL, ownW, ownL]
    refine hF ?_
    clear hT hF T F
    refine AWP.skip (hK5 _ ?_)
    clear hK5
    refine AWP.regEnd TTab_ok hC fun K hK => ?_
    simp (maxSteps := 2000000) [go_sem, encM, encR, encE, encW, encL, ownW, ownL]
    with_reducible refine hK _ ?_
    clear hK K
    refine hJ2 _ (i + 1) ?_ ?_ ?_
    · omega
    · omega
    simp (maxSteps := 2000000) [go_sem, encM, encR, encE, encW, encL, ownW, ownL]
    rw [IntWalk.i64_in _ (by omega)]
  · clear hT hF T F
    refine AWP.exit (hK1 _ ?_)
    clear hK1
    refine AWP.reg TTab_ok hC [4] fun K hK => ?_
    simp (maxSteps := 2000000) [go_sem, encM, encR, encE, encW, encL, ownW, ownL]
    with_reducible refine hK _ ?_
    clear hK K
    refine AWP.ret (hE _ ?_)
    simp (maxSteps := 2000000) [go_sem, encM, encR, encE, encW, encL, ownW, ownL]

set_option maxHeartbeats 1000000 in
theorem wCont1 {ctr : Ctr} (hC : CtrOk Try.prog ctr) (hm : Try.prog.follows .mixedOrders = true) (hIndex1 : ctr.Has spIndex1) : spCont1.Ok Try.prog := by
  rintro ⟨w, n⟩ ⟨hl, hw⟩
  show CallOk _ 150 [encW w, .fn 151 [.sptr (.atom (.int .i64 n))]] (.atom (.bool false))
  have hl : w.length ≤ 256 := hl
  have hw : Sym n w := hw
  refine callOk_w (tt := TTab) (rs := [(4, none)]) (n := ⟨9, none⟩) TTab_ok Try.func150 rfl rfl rfl rfl (by show _ ≤ 9; simp) fun E hE => ?_
  simp (maxSteps := 2000000) [go_sem, encM, encR, encE, encW, encL, ownW, ownL]
  refine AWP.reg TTab_ok hC [0, 1] fun K hK => ?_
  simp (maxSteps := 2000000) [go_sem, encM, encR, encE, encW, encL, ownW, ownL]
  with_reducible refine hK _ ?_
  clear hK K
  have qIndex1 := spIndex1_run hIndex1 hl hw
  try simp only [encM, encR, encE, encW, encL, ownW, ownL] at qIndex1
  refine AWP.reg TTab_ok hC [4] fun K hK => ?_
  simp (maxSteps := 2000000) [go_sem, encM, encR, encE, encW, encL, ownW, ownL, qIndex1, (spIndex1_at hIndex1).1, (spIndex1_at hIndex1).2.1, (spIndex1_at hIndex1).2.2]
  with_reducible refine hK _ ?_
  clear hK K
  refine AWP.ret (hE _ ?_)
  simp (maxSteps := 2000000) [go_sem, encM, encR, encE, encW, encL, ownW, ownL]

set_option maxHeartbeats 1000000 in
theorem wWCheck {ctr : Ctr} (hC : CtrOk Try.prog ctr) (hm : Try.prog.follows .mixedOrders = true) (hCont1 : ctr.Has spCont1) : spWCheck.Ok Try.prog := by
  rintro ⟨w, n⟩ ⟨n1, n2, hl, hw⟩
  show CallOk _ 134 [encW w, .atom (.int .i64 n)] (.atom (.int .i64 0))
  have n1 : 1 ≤ n := n1
  have n2 : n ≤ 16 := n2
  have hl : w.length ≤ 256 := hl
  have hw : Sym n w := hw
  have g1 : ¬ 16 < n := by omega
  have g2 : ¬ 256 < w.length := by omega
  have g3 : ¬ (256 : Int) < w.length := by omega
  have g4 : ¬ n < 1 := by omega
  refine callOk_w (tt := TTab) (rs := [(4, none)]) (n := ⟨19, none⟩) TTab_ok Try.func134 rfl rfl rfl rfl (by show _ ≤ 19; simp) fun E hE => ?_
  simp (maxSteps := 2000000) [go_sem, encM, encR, encE, encW, encL, ownW, ownL]
  refine AWP.reg TTab_ok hC [0, 3] fun K hK => ?_
  simp (maxSteps := 2000000) [go_sem, encM, encR, encE, encW, encL, ownW, ownL]
  with_reducible refine hK _ ?_
  clear hK K
  refine AWP.next fun K1 hK1 => ?_
  refine AWP.reg TTab_ok hC [0, 3, 11] fun K hK => ?_
  simp (maxSteps := 2000000) [go_sem, encM, encR, encE, encW, encL, ownW, ownL, g1, g2, g3]
  with_reducible refine hK _ ?_
  clear hK K
  refine AWP.condW fun T F hT hF => ?_
  simp (maxSteps := 2000000) [go_sem, encM, encR, encE, encW, encL, ownW, ownL]
  refine hF ?_
  clear hT hF T F
  refine AWP.skip (hK1 _ ?_)
  clear hK1
  refine AWP.next fun K3 hK3 => ?_
  have qCont1 := spCont1_run hCont1 hl hw
  try simp only [encM, encR, encE, encW, encL, ownW, ownL] at qCont1
  refine AWP.reg TTab_ok hC [18] fun K hK => ?_
  simp (maxSteps := 2000000) [go_sem, encM, encR, encE, encW, encL, ownW, ownL, g4, qCont1, (spCont1_at hCont1).1, (spCont1_at hCont1).2.1, (spCont1_at hCont1).2.2]
  with_reducible refine hK _ ?_
  clear hK K
  refine AWP.condW fun T F hT hF => ?_
  simp (maxSteps := 2000000) [go_sem, encM, encR, encE, encW, encL, ownW, ownL]
  refine hF ?_
  clear hT hF T F
  refine AWP.skip (hK3 _ ?_)
  clear hK3
  refine AWP.reg TTab_ok hC [4] fun K hK => ?_
  simp (maxSteps := 2000000) [go_sem, encM, encR, encE, encW, encL, ownW, ownL]
  with_reducible refine hK _ ?_
  clear hK K
  refine AWP.ret (hE _ ?_)
  simp (maxSteps := 2000000) [go_sem, encM, encR, encE, encW, encL, ownW, ownL]

set_option maxHeartbeats 1000000 in
theorem wLoose {ctr : Ctr} (hC : CtrOk Try.prog ctr) (hm : Try.prog.follows .mixedOrders = true) (hWCheck : ctr.Has spWCheck) : spLoose.Ok Try.prog := by
  rintro ⟨l, n⟩ h
  show CallOk _ 108 [encL l, .atom (.int .i64 n)] (.atom (.int .i64 0))
  have h : LOk n l := h
  have n1 := h.n1
  have n2 := h.n2
  have hl := h.len
  have g1 : ¬ 16 < n := by omega
  have g2 : ¬ 4096 < l.length := by omega
  have g3 : ¬ (4096 : Int) < l.length := by omega
  have g4 : ¬ n < 1 := by omega
  refine callOk_w (tt := TTab) (rs := [(4, none)]) (n := ⟨30, none⟩) TTab_ok Try.func108 rfl rfl rfl rfl (by show _ ≤ 30; simp) fun E hE => ?_
  simp (maxSteps := 2000000) [go_sem, encM, encR, encE, encW, encL, ownW, ownL]
  refine AWP.reg TTab_ok hC [0, 1] fun K hK => ?_
  simp (maxSteps := 2000000) [go_sem, encM, encR, encE, encW, encL, ownW, ownL]
  with_reducible refine hK _ ?_
  clear hK K
  refine AWP.next fun K1 hK1 => ?_
  refine AWP.reg TTab_ok hC [0, 1, 14] fun K hK => ?_
  simp (maxSteps := 2000000) [go_sem, encM, encR, encE, encW, encL, ownW, ownL, g1, g2, g3]
  with_reducible refine hK _ ?_
  clear hK K
  refine AWP.condW fun T F hT hF => ?_
  simp (maxSteps := 2000000) [go_sem, encM, encR, encE, encW, encL, ownW, ownL]
  refine hF ?_
  clear hT hF T F
  refine AWP.skip (hK1 _ ?_)
  clear hK1
  refine AWP.next fun K3 hK3 => ?_
  refine AWP.reg TTab_ok hC [0, 1, 16] fun K hK => ?_
  simp (maxSteps := 2000000) [go_sem, encM, encR, encE, encW, encL, ownW, ownL]
  with_reducible refine hK _ ?_
  clear hK K
  refine AWP.condW fun T F hT hF => ?_
  simp (maxSteps := 2000000) [go_sem, encM, encR, encE, encW, encL, ownW, ownL, g4]
  refine hF ?_
  clear hT hF T F
  refine AWP.skip (hK3 _ ?_)
  clear hK3
  refine AWP.next fun K5 hK5 => ?_
  refine AWP.reg TTab_ok hC [0, 1, 17, 18, 19] fun K hK => ?_
  simp (maxSteps := 2000000) [go_sem, encM, encR, encE, encW, encL, ownW, ownL]
  with_reducible refine hK _ ?_
  clear hK K
  refine AWP.block ?_
  refine AWP.loopX (X := Nat) [0, 1, 17, 18, 19] (fun i => i ≤ l.length) (fun i => l.length - i) (fun i => ofL [(0, .d (encL l)), (1, .d (.atom (.int .i64 n))), (17, .d (encL l)), (18, .d (.atom (.int .i64 l.length))), (19, .d (.atom (.int .i64 i)))]) (0) ?_ ?_ ?_
  · exact Nat.zero_le _
  · simp (maxSteps := 2000000) [go_sem, encM, encR, encE, encW, encL, ownW, ownL]
  intro i hx J6 hJ6
  refine AWP.reg TTab_ok hC [0, 1, 17, 18, 19, 20] fun K hK => ?_
  simp (maxSteps := 2000000) [go_sem, encM, encR, encE, encW, encL, ownW, ownL]
  with_reducible refine hK _ ?_
  clear hK K
  refine AWP.next fun K7 hK7 => ?_
  refine AWP.condW fun T F hT hF => ?_
  simp (maxSteps := 2000000) [go_sem, encM, encR, encE, encW, encL, ownW, ownL]
  refine ⟨fun c6 => hT ?_, fun c6 => hF ?_⟩
  · clear hT hF T F
    obtain ⟨u, hu⟩ := some_at (show i < l.length by omega)
    refine AWP.skip (hK7 _ ?_)
    clear hK7
    refine AWP.next fun K9 hK9 => ?_
    refine AWP.block ?_
    refine AWP.reg TTab_ok hC [0, 1, 6, 17, 18, 19] fun K hK => ?_
    simp (maxSteps := 2000000) [go_sem, encM, encR, encE, encW, encL, ownW, ownL, hu]
    with_reducible refine hK _ ?_
    clear hK K
    have qWCheck := spWCheck_run hWCheck n1 n2 (h.short u (List.mem_of_getElem? hu)) (h.sym u (List.mem_of_getElem? hu))
    try simp only [encM, encR, encE, encW, encL, ownW, ownL] at qWCheck
    refine AWP.reg TTab_ok hC [0, 1, 7, 17, 18, 19] fun K hK => ?_
    simp (maxSteps := 2000000) [go_sem, encM, encR, encE, encW, encL, ownW, ownL, qWCheck, (spWCheck_at hWCheck).1, (spWCheck_at hWCheck).2.1, (spWCheck_at hWCheck).2.2]
    with_reducible refine hK _ ?_
    clear hK K
    refine AWP.reg TTab_ok hC [0, 1, 7, 17, 18, 19, 27] fun K hK => ?_
    simp (maxSteps := 2000000) [go_sem, encM, encR, encE, encW, encL, ownW, ownL]
    with_reducible refine hK _ ?_
    clear hK K
    refine AWP.condW fun T F hT hF => ?_
    simp (maxSteps := 2000000) [go_sem, encM, encR, encE, encW, encL, ownW, ownL]
    refine hF ?_
    clear hT hF T F
    refine AWP.skip (hK9 _ ?_)
    clear hK9
    refine AWP.regEnd TTab_ok hC fun K hK => ?_
    simp (maxSteps := 2000000) [go_sem, encM, encR, encE, encW, encL, ownW, ownL]
    with_reducible refine hK _ ?_
    clear hK K
    refine hJ6 _ (i + 1) ?_ ?_ ?_
    · omega
    · omega
    simp (maxSteps := 2000000) [go_sem, encM, encR, encE, encW, encL, ownW, ownL]
    rw [IntWalk.i64_in _ (by omega)]
  · clear hT hF T F
    refine AWP.exit (hK5 _ ?_)
    clear hK5
    refine AWP.reg TTab_ok hC [4] fun K hK => ?_
    simp (maxSteps := 2000000) [go_sem, encM, encR, encE, encW, encL, ownW, ownL]
    with_reducible refine hK _ ?_
    clear hK K
    refine AWP.ret (hE _ ?_)
    simp (maxSteps := 2000000) [go_sem, encM, encR, encE, encW, encL, ownW, ownL]

set_option maxHeartbeats 1000000 in
theorem wTCheck {ctr : Ctr} (hC : CtrOk Try.prog ctr) (hm : Try.prog.follows .mixedOrders = true) (hLoose : ctr.Has spLoose) (hAhead : ctr.Has spAhead) (hSteps : ctr.Has spSteps) : spTCheck.Ok Try.prog := by
  rintro ⟨l, n⟩ h
  show CallOk _ 86 [encL l, .atom (.int .i64 n)] (.atom (.int .i64 0))
  have h : LOk n l := h
  have hl := h.len
  have hs := h.sum
  have g2 : ¬ 65536 < (l.map List.length).sum := by omega
  have g3 : ¬ (65536 : Int) < (l.map List.length).sum := by omega
  refine callOk_w (tt := TTab) (rs := [(4, none)]) (n := ⟨18, none⟩) TTab_ok Try.func86 rfl rfl rfl rfl (by show _ ≤ 18; simp) fun E hE => ?_
  simp (maxSteps := 2000000) [go_sem, encM, encR, encE, encW, encL, ownW, ownL]
  refine AWP.reg TTab_ok hC [0, 1] fun K hK => ?_
  simp (maxSteps := 2000000) [go_sem, encM, encR, encE, encW, encL, ownW, ownL]
  with_reducible refine hK _ ?_
  clear hK K
  refine AWP.next fun K1 hK1 => ?_
  have qLoose := spLoose_run hLoose h
  try simp only [encM, encR, encE, encW, encL, ownW, ownL] at qLoose
  refine AWP.reg TTab_ok hC [0, 5] fun K hK => ?_
  simp (maxSteps := 2000000) [go_sem, encM, encR, encE, encW, encL, ownW, ownL, qLoose, (spLoose_at hLoose).1, (spLoose_at hLoose).2.1, (spLoose_at hLoose).2.2]
  with_reducible refine hK _ ?_
  clear hK K
  refine AWP.reg TTab_ok hC [0, 5, 10] fun K hK => ?_
  simp (maxSteps := 2000000) [go_sem, encM, encR, encE, encW, encL, ownW, ownL]
  with_reducible refine hK _ ?_
  clear hK K
  refine AWP.condW fun T F hT hF => ?_
  simp (maxSteps := 2000000) [go_sem, encM, encR, encE, encW, encL, ownW, ownL]
  refine hF ?_
  clear hT hF T F
  refine AWP.skip (hK1 _ ?_)
  clear hK1
  refine AWP.next fun K3 hK3 => ?_
  have qAhead := spAhead_run hAhead hl (fun w hw => by have := h.short w hw; omega) h.asc
  try simp only [encM, encR, encE, encW, encL, ownW, ownL] at qAhead
  refine AWP.reg TTab_ok hC [0, 14] fun K hK => ?_
  simp (maxSteps := 2000000) [go_sem, encM, encR, encE, encW, encL, ownW, ownL, qAhead, (spAhead_at hAhead).1, (spAhead_at hAhead).2.1, (spAhead_at hAhead).2.2]
  with_reducible refine hK _ ?_
  clear hK K
  refine AWP.condW fun T F hT hF => ?_
  simp (maxSteps := 2000000) [go_sem, encM, encR, encE, encW, encL, ownW, ownL]
  refine hF ?_
  clear hT hF T F
  refine AWP.skip (hK3 _ ?_)
  clear hK3
  refine AWP.next fun K5 hK5 => ?_
  have qSteps := spSteps_run hSteps hl (by omega)
  try simp only [encM, encR, encE, encW, encL, ownW, ownL] at qSteps
  refine AWP.reg TTab_ok hC [17] fun K hK => ?_
  simp (maxSteps := 2000000) [go_sem, encM, encR, encE, encW, encL, ownW, ownL, g2, g3, qSteps, (spSteps_at hSteps).1, (spSteps_at hSteps).2.1, (spSteps_at hSteps).2.2]
  with_reducible refine hK _ ?_
  clear hK K
  refine AWP.condW fun T F hT hF => ?_
  simp (maxSteps := 2000000) [go_sem, encM, encR, encE, encW, encL, ownW, ownL]
  refine hF ?_
  clear hT hF T F
  refine AWP.skip (hK5 _ ?_)
  clear hK5
  refine AWP.reg TTab_ok hC [4] fun K hK => ?_
  simp (maxSteps := 2000000) [go_sem, encM, encR, encE, encW, encL, ownW, ownL]
  with_reducible refine hK _ ?_
  clear hK K
  refine AWP.ret (hE _ ?_)
  simp (maxSteps := 2000000) [go_sem, encM, encR, encE, encW, encL, ownW, ownL]

set_option maxHeartbeats 1000000 in
theorem wNone {ctr : Ctr} (hC : CtrOk Try.prog ctr) (hm : Try.prog.follows .mixedOrders = true)  : spNone.Ok Try.prog := by
  rintro _ _
  show CallOk _ 133 [] (encE (-1, -1))
  refine callOk_w (tt := TTab) (rs := [(0, some 67)]) (n := ⟨2, none⟩) TTab_ok Try.func133 rfl rfl rfl rfl (by show _ ≤ 2; simp) fun E hE => ?_
  simp (maxSteps := 2000000) [go_sem, encM, encR, encE, encW, encL, ownW, ownL]
  refine AWP.reg TTab_ok hC [0] fun K hK => ?_
  simp (maxSteps := 2000000) [go_sem, encM, encR, encE, encW, encL, ownW, ownL]
  with_reducible refine hK _ ?_
  clear hK K
  refine AWP.reg TTab_ok hC [0] fun K hK => ?_
  simp (maxSteps := 2000000) [go_sem, encM, encR, encE, encW, encL, ownW, ownL]
  with_reducible refine hK _ ?_
  clear hK K
  refine AWP.ret (hE _ ?_)
  simp (maxSteps := 2000000) [go_sem, encM, encR, encE, encW, encL, ownW, ownL]

set_option maxHeartbeats 1000000 in
theorem wFitsA {ctr : Ctr} (hC : CtrOk Try.prog ctr) (hm : Try.prog.follows .mixedOrders = true) (hNone : ctr.Has spNone) (m : Mach) : CallOk Try.prog 107 [encM m, encE (-1, -1)] (.atom (.bool true)) := by
  refine callOk_w (tt := TTab) (rs := [(4, none)]) (n := ⟨33, none⟩) TTab_ok Try.func107 rfl rfl rfl rfl (by show _ ≤ 33; simp) fun E hE => ?_
  simp (maxSteps := 2000000) [go_sem, encM, encR, encE, encW, encL, ownW, ownL]
  refine AWP.reg TTab_ok hC [2, 3] fun K hK => ?_
  simp (maxSteps := 2000000) [go_sem, encM, encR, encE, encW, encL, ownW, ownL]
  with_reducible refine hK _ ?_
  clear hK K
  have qNone := spNone_run hNone 
  try simp only [encM, encR, encE, encW, encL, ownW, ownL] at qNone
  refine AWP.draw TTab_ok hC hm [4] fun K hK => ?_
  simp (maxSteps := 2000000) [go_sem, encM, encR, encE, encW, encL, ownW, ownL, qNone, (spNone_at hNone).1, (spNone_at hNone).2.1, (spNone_at hNone).2.2]
  refine ⟨by decide +kernel, ?_⟩
  with_reducible refine hK _ ?_
  clear hK K
  refine AWP.ret (hE _ ?_)
  simp (maxSteps := 2000000) [go_sem, encM, encR, encE, encW, encL, ownW, ownL]

set_option maxHeartbeats 1000000 in
theorem wFitsB {ctr : Ctr} (hC : CtrOk Try.prog ctr) (hm : Try.prog.follows .mixedOrders = true) (hNone : ctr.Has spNone) (m : Mach) (a b : Int) (h1 : 0 ≤ a) (h2 : a < m.rows.length) (h3 : 0 ≤ b) (h4 : b < m.outp) : CallOk Try.prog 107 [encM m, encE (a, b)] (.atom (.bool true)) := by
  have g1 : ¬ a = -1 := by omega
  have g2 : (a == -1) = false := by simp [g1]
  refine callOk_w (tt := TTab) (rs := [(4, none)]) (n := ⟨33, none⟩) TTab_ok Try.func107 rfl rfl rfl rfl (by show _ ≤ 33; simp) fun E hE => ?_
  simp (maxSteps := 2000000) [go_sem, encM, encR, encE, encW, encL, ownW, ownL]
  refine AWP.reg TTab_ok hC [2, 3] fun K hK => ?_
  simp (maxSteps := 2000000) [go_sem, encM, encR, encE, encW, encL, ownW, ownL]
  with_reducible refine hK _ ?_
  clear hK K
  have qNone := spNone_run hNone 
  try simp only [encM, encR, encE, encW, encL, ownW, ownL] at qNone
  refine AWP.draw TTab_ok hC hm [4] fun K hK => ?_
  simp (maxSteps := 2000000) [go_sem, encM, encR, encE, encW, encL, ownW, ownL, h1, h2, h3, h4, g1, g2, qNone, (spNone_at hNone).1, (spNone_at hNone).2.1, (spNone_at hNone).2.2]
  refine ⟨by decide +kernel, ?_⟩
  with_reducible refine hK _ ?_
  clear hK K
  refine AWP.ret (hE _ ?_)
  simp (maxSteps := 2000000) [go_sem, encM, encR, encE, encW, encL, ownW, ownL]

set_option maxHeartbeats 1000000 in
theorem wNotFits {ctr : Ctr} (hC : CtrOk Try.prog ctr) (hm : Try.prog.follows .mixedOrders = true) (hFits : ctr.Has spFits) : spNotFits.Ok Try.prog := by
  rintro ⟨e, m⟩ he
  show CallOk _ 106 [encE e, .sptr (encM m)] (.atom (.bool false))
  have he : EdgeOk m e := he
  refine callOk_w (tt := TTab) (rs := [(3, none)]) (n := ⟨8, none⟩) TTab_ok Try.func106 rfl rfl rfl rfl (by show _ ≤ 8; simp) fun E hE => ?_
  simp (maxSteps := 2000000) [go_sem, encM, encR, encE, encW, encL, ownW, ownL]
  refine AWP.reg TTab_ok hC [1, 2] fun K hK => ?_
  simp (maxSteps := 2000000) [go_sem, encM, encR, encE, encW, encL, ownW, ownL]
  with_reducible refine hK _ ?_
  clear hK K
  have qFits := spFits_run hFits he
  try simp only [encM, encR, encE, encW, encL, ownW, ownL] at qFits
  refine AWP.reg TTab_ok hC [3] fun K hK => ?_
  simp (maxSteps := 2000000) [go_sem, encM, encR, encE, encW, encL, ownW, ownL, qFits, (spFits_at hFits).1, (spFits_at hFits).2.1, (spFits_at hFits).2.2]
  with_reducible refine hK _ ?_
  clear hK K
  refine AWP.ret (hE _ ?_)
  simp (maxSteps := 2000000) [go_sem, encM, encR, encE, encW, encL, ownW, ownL]

set_option maxHeartbeats 1000000 in
theorem wIndex2 {ctr : Ctr} (hC : CtrOk Try.prog ctr) (hm : Try.prog.follows .mixedOrders = true) (hNotFits : ctr.Has spNotFits) : spIndex2.Ok Try.prog := by
  rintro ⟨r, m⟩ ⟨hl, hr⟩
  show CallOk _ 132 [encR r, .fn 106 [.sptr (encM m)]] (.atom (.int .i64 (-1)))
  have hl : r.length ≤ 256 := hl
  have hr : ∀ e ∈ r, EdgeOk m e := hr
  refine callOk_w (tt := TTab) (rs := [(4, none)]) (n := ⟨19, none⟩) TTab_ok Try.func132 rfl rfl rfl rfl (by show _ ≤ 19; simp) fun E hE => ?_
  simp (maxSteps := 2000000) [go_sem, encM, encR, encE, encW, encL, ownW, ownL]
  refine AWP.reg TTab_ok hC [0, 1] fun K hK => ?_
  simp (maxSteps := 2000000) [go_sem, encM, encR, encE, encW, encL, ownW, ownL]
  with_reducible refine hK _ ?_
  clear hK K
  refine AWP.next fun K1 hK1 => ?_
  refine AWP.reg TTab_ok hC [0, 1, 7, 8] fun K hK => ?_
  simp (maxSteps := 2000000) [go_sem, encM, encR, encE, encW, encL, ownW, ownL]
  with_reducible refine hK _ ?_
  clear hK K
  refine AWP.block ?_
  refine AWP.loopX (X := Nat) [0, 1, 7, 8] (fun i => i ≤ r.length) (fun i => r.length - i) (fun i => ofL [(0, .d (encR r)), (1, .d (.fn 106 [.sptr (encM m)])), (7, .d (.atom (.int .i64 r.length))), (8, .d (.atom (.int .i64 i)))]) (0) ?_ ?_ ?_
  · exact Nat.zero_le _
  · simp (maxSteps := 2000000) [go_sem, encM, encR, encE, encW, encL, ownW, ownL]
  intro i hx J2 hJ2
  refine AWP.reg TTab_ok hC [0, 1, 7, 8, 9] fun K hK => ?_
  simp (maxSteps := 2000000) [go_sem, encM, encR, encE, encW, encL, ownW, ownL]
  with_reducible refine hK _ ?_
  clear hK K
  refine AWP.next fun K3 hK3 => ?_
  refine AWP.condW fun T F hT hF => ?_
  simp (maxSteps := 2000000) [go_sem, encM, encR, encE, encW, encL, ownW, ownL]
  refine ⟨fun c2 => hT ?_, fun c2 => hF ?_⟩
  · clear hT hF T F
    obtain ⟨u, hu⟩ := some_at (show i < r.length by omega)
    refine AWP.skip (hK3 _ ?_)
    clear hK3
    refine AWP.next fun K5 hK5 => ?_
    refine AWP.block ?_
    refine AWP.reg TTab_ok hC [0, 1, 5, 7, 8] fun K hK => ?_
    simp (maxSteps := 2000000) [go_sem, encM, encR, encE, encW, encL, ownW, ownL]
    with_reducible refine hK _ ?_
    clear hK K
    have qNotFits := spNotFits_run hNotFits (hr u (List.mem_of_getElem? hu))
    try simp only [encM, encR, encE, encW, encL, ownW, ownL] at qNotFits
    refine AWP.reg TTab_ok hC [0, 1, 5, 7, 8, 16] fun K hK => ?_
    simp (maxSteps := 2000000) [go_sem, encM, encR, encE, encW, encL, ownW, ownL, hu, qNotFits, (spNotFits_at hNotFits).1, (spNotFits_at hNotFits).2.1, (spNotFits_at hNotFits).2.2]
    with_reducible refine hK _ ?_
    clear hK K
    refine AWP.condW fun T F hT hF => ?_
    simp (maxSteps := 2000000) [go_sem, encM, encR, encE, encW, encL, ownW, ownL]
    refine hF ?_
    clear hT hF T F
    refine AWP.skip (hK5 _ ?_)
    clear hK5
    refine AWP.regEnd TTab_ok hC fun K hK => ?_
    simp (maxSteps := 2000000) [go_sem, encM, encR, encE, encW, encL, ownW, ownL]
    with_reducible refine hK _ ?_
    clear hK K
    refine hJ2 _ (i + 1) ?_ ?_ ?_
    · omega
    · omega
    simp (maxSteps := 2000000) [go_sem, encM, encR, encE, encW, encL, ownW, ownL]
    rw [IntWalk.i64_in _ (by omega)]
  · clear hT hF T F
    refine AWP.exit (hK1 _ ?_)
    clear hK1
    refine AWP.reg TTab_ok hC [4] fun K hK => ?_
    simp (maxSteps := 2000000) [go_sem, encM, encR, encE, encW, encL, ownW, ownL]
    with_reducible refine hK _ ?_
    clear hK K
    refine AWP.ret (hE _ ?_)
    simp (maxSteps := 2000000) [go_sem, encM, encR, encE, encW, encL, ownW, ownL]

set_option maxHeartbeats 1000000 in
theorem wCont2 {ctr : Ctr} (hC : CtrOk Try.prog ctr) (hm : Try.prog.follows .mixedOrders = true) (hIndex2 : ctr.Has spIndex2) : spCont2.Ok Try.prog := by
  rintro ⟨r, m⟩ ⟨hl, hr⟩
  show CallOk _ 105 [encR r, .fn 106 [.sptr (encM m)]] (.atom (.bool false))
  have hl : r.length ≤ 256 := hl
  have hr : ∀ e ∈ r, EdgeOk m e := hr
  refine callOk_w (tt := TTab) (rs := [(4, none)]) (n := ⟨9, none⟩) TTab_ok Try.func105 rfl rfl rfl rfl (by show _ ≤ 9; simp) fun E hE => ?_
  simp (maxSteps := 2000000) [go_sem, encM, encR, encE, encW, encL, ownW, ownL]
  refine AWP.reg TTab_ok hC [0, 1] fun K hK => ?_
  simp (maxSteps := 2000000) [go_sem, encM, encR, encE, encW, encL, ownW, ownL]
  with_reducible refine hK _ ?_
  clear hK K
  have qIndex2 := spIndex2_run hIndex2 hl hr
  try simp only [encM, encR, encE, encW, encL, ownW, ownL] at qIndex2
  refine AWP.reg TTab_ok hC [4] fun K hK => ?_
  simp (maxSteps := 2000000) [go_sem, encM, encR, encE, encW, encL, ownW, ownL, qIndex2, (spIndex2_at hIndex2).1, (spIndex2_at hIndex2).2.1, (spIndex2_at hIndex2).2.2]
  with_reducible refine hK _ ?_
  clear hK K
  refine AWP.ret (hE _ ?_)
  simp (maxSteps := 2000000) [go_sem, encM, encR, encE, encW, encL, ownW, ownL]

set_option maxHeartbeats 1000000 in
theorem wMCheck {ctr : Ctr} (hC : CtrOk Try.prog ctr) (hm : Try.prog.follows .mixedOrders = true) (hCont2 : ctr.Has spCont2) : spMCheck.Ok Try.prog := by
  intro (m : Mach)
  rintro hv
  show CallOk _ 85 [encM m] (.atom (.int .i64 0))
  have hv : Valid m := hv
  have i1 := hv.i1
  have i2 := hv.i2
  have o1 := hv.o1
  have o2 := hv.o2
  have r1 := hv.r1
  have r2 := hv.r2
  have g1 : ¬ 16 < m.inp := by omega
  have g2 : ¬ 16 < m.outp := by omega
  have g3 : ¬ 64 < m.rows.length := by omega
  have g4 : ¬ (64 : Int) < m.rows.length := by omega
  have g5 : ¬ m.inp < 1 := by omega
  have g6 : ¬ m.outp < 1 := by omega
  have g7 : ¬ m.rows.length < 1 := by omega
  have g8 : ¬ (m.rows.length : Int) < 1 := by omega
  have g9 : m.rows ≠ [] := by intro h; rw [h] at r1; simp at r1
  refine callOk_w (tt := TTab) (rs := [(2, none)]) (n := ⟨51, none⟩) TTab_ok Try.func85 rfl rfl rfl rfl (by show _ ≤ 51; simp) fun E hE => ?_
  simp (maxSteps := 2000000) [go_sem, encM, encR, encE, encW, encL, ownW, ownL]
  refine AWP.reg TTab_ok hC [1] fun K hK => ?_
  simp (maxSteps := 2000000) [go_sem, encM, encR, encE, encW, encL, ownW, ownL]
  with_reducible refine hK _ ?_
  clear hK K
  refine AWP.next fun K1 hK1 => ?_
  refine AWP.reg TTab_ok hC [1, 18] fun K hK => ?_
  simp (maxSteps := 2000000) [go_sem, encM, encR, encE, encW, encL, ownW, ownL, g1, g2, g3, g4]
  with_reducible refine hK _ ?_
  clear hK K
  refine AWP.condW fun T F hT hF => ?_
  simp (maxSteps := 2000000) [go_sem, encM, encR, encE, encW, encL, ownW, ownL]
  refine hF ?_
  clear hT hF T F
  refine AWP.skip (hK1 _ ?_)
  clear hK1
  refine AWP.next fun K3 hK3 => ?_
  refine AWP.reg TTab_ok hC [1, 32] fun K hK => ?_
  simp (maxSteps := 2000000) [go_sem, encM, encR, encE, encW, encL, ownW, ownL, g5, g6, g7, g8, g9]
  with_reducible refine hK _ ?_
  clear hK K
  refine AWP.condW fun T F hT hF => ?_
  simp (maxSteps := 2000000) [go_sem, encM, encR, encE, encW, encL, ownW, ownL]
  refine hF ?_
  clear hT hF T F
  refine AWP.skip (hK3 _ ?_)
  clear hK3
  refine AWP.next fun K5 hK5 => ?_
  refine AWP.shut [1] [1] fun K hK => ?_
  simp (maxSteps := 2000000) [go_sem, encM, encR, encE, encW, encL, ownW, ownL]
  with_reducible refine hK _ ?_
  clear hK K
  refine AWP.reg TTab_ok hC [1, 34, 35, 36] fun K hK => ?_
  simp (maxSteps := 2000000) [go_sem, encM, encR, encE, encW, encL, ownW, ownL]
  with_reducible refine hK _ ?_
  clear hK K
  refine AWP.block ?_
  refine AWP.loopX (X := Nat) [1, 34, 35, 36] (fun i => i ≤ m.rows.length) (fun i => m.rows.length - i) (fun i => ofL [(1, .d (.sptr (encM m))), (34, .d (.sl 1 false (m.rows.map encR))), (35, .d (.atom (.int .i64 m.rows.length))), (36, .d (.atom (.int .i64 i)))]) (0) ?_ ?_ ?_
  · exact Nat.zero_le _
  · simp (maxSteps := 2000000) [go_sem, encM, encR, encE, encW, encL, ownW, ownL]
  intro i hx J6 hJ6
  refine AWP.reg TTab_ok hC [1, 34, 35, 36, 37] fun K hK => ?_
  simp (maxSteps := 2000000) [go_sem, encM, encR, encE, encW, encL, ownW, ownL]
  with_reducible refine hK _ ?_
  clear hK K
  refine AWP.next fun K7 hK7 => ?_
  refine AWP.condW fun T F hT hF => ?_
  simp (maxSteps := 2000000) [go_sem, encM, encR, encE, encW, encL, ownW, ownL]
  refine ⟨fun c6 => hT ?_, fun c6 => hF ?_⟩
  · clear hT hF T F
    obtain ⟨r, hr⟩ := some_at (show i < m.rows.length by omega)
    have hrow := hv.row r (List.mem_of_getElem? hr)
    have hedge := hv.edge r (List.mem_of_getElem? hr)
    refine AWP.skip (hK7 _ ?_)
    clear hK7
    refine AWP.next fun K9 hK9 => ?_
    refine AWP.block ?_
    refine AWP.reg TTab_ok hC [1, 4, 34, 35, 36] fun K hK => ?_
    simp (maxSteps := 2000000) [go_sem, encM, encR, encE, encW, encL, ownW, ownL, hr]
    with_reducible refine hK _ ?_
    clear hK K
    have qCont2 := spCont2_run hCont2 (by omega) hedge
    try simp only [encM, encR, encE, encW, encL, ownW, ownL] at qCont2
    refine AWP.reg TTab_ok hC [1, 34, 35, 36, 49] fun K hK => ?_
    simp (maxSteps := 2000000) [go_sem, encM, encR, encE, encW, encL, ownW, ownL, hrow, qCont2, (spCont2_at hCont2).1, (spCont2_at hCont2).2.1, (spCont2_at hCont2).2.2]
    with_reducible refine hK _ ?_
    clear hK K
    refine AWP.condW fun T F hT hF => ?_
    simp (maxSteps := 2000000) [go_sem, encM, encR, encE, encW, encL, ownW, ownL]
    refine hF ?_
    clear hT hF T F
    refine AWP.skip (hK9 _ ?_)
    clear hK9
    refine AWP.regEnd TTab_ok hC fun K hK => ?_
    simp (maxSteps := 2000000) [go_sem, encM, encR, encE, encW, encL, ownW, ownL]
    with_reducible refine hK _ ?_
    clear hK K
    refine hJ6 _ (i + 1) ?_ ?_ ?_
    · omega
    · omega
    simp (maxSteps := 2000000) [go_sem, encM, encR, encE, encW, encL, ownW, ownL]
    rw [IntWalk.i64_in _ (by omega)]
  · clear hT hF T F
    refine AWP.exit (hK5 _ ?_)
    clear hK5
    refine AWP.reg TTab_ok hC [2] fun K hK => ?_
    simp (maxSteps := 2000000) [go_sem, encM, encR, encE, encW, encL, ownW, ownL]
    with_reducible refine hK _ ?_
    clear hK K
    refine AWP.ret (hE _ ?_)
    simp (maxSteps := 2000000) [go_sem, encM, encR, encE, encW, encL, ownW, ownL]

set_option maxHeartbeats 1000000 in
theorem wReady {ctr : Ctr} (hC : CtrOk Try.prog ctr) (hm : Try.prog.follows .mixedOrders = true) (hMCheck : ctr.Has spMCheck) (hTCheck : ctr.Has spTCheck) : spReady.Ok Try.prog := by
  rintro ⟨m, o, l⟩ ⟨hv, ho, hi, hl⟩
  show CallOk _ 51 [encM m, encM o, encL l] (.atom (.int .i64 0))
  have hv : Valid m := hv
  have ho : Valid o := ho
  have hi : m.inp = o.inp := hi
  have hl : LOk m.inp l := hl
  refine callOk_w (tt := TTab) (rs := [(6, none)]) (n := ⟨33, none⟩) TTab_ok Try.func51 rfl rfl rfl rfl (by show _ ≤ 33; simp) fun E hE => ?_
  simp (maxSteps := 2000000) [go_sem, encM, encR, encE, encW, encL, ownW, ownL]
  refine AWP.reg TTab_ok hC [2, 3, 4] fun K hK => ?_
  simp (maxSteps := 2000000) [go_sem, encM, encR, encE, encW, encL, ownW, ownL]
  with_reducible refine hK _ ?_
  clear hK K
  refine AWP.next fun K1 hK1 => ?_
  refine AWP.reg TTab_ok hC [2, 3, 4, 12, 13, 14] fun K hK => ?_
  simp (maxSteps := 2000000) [go_sem, encM, encR, encE, encW, encL, ownW, ownL]
  with_reducible refine hK _ ?_
  clear hK K
  refine AWP.block ?_
  refine AWP.loopX (X := Nat) [2, 3, 4, 12, 13, 14] (fun i => i ≤ 2) (fun i => 2 - i) (fun i => ofL [(2, .d (encL l)), (3, .own (.box (encM m))), (4, .own (.box (encM o))), (12, .own (.osl 3 true [encM m, encM o])), (13, .d (.atom (.int .i64 2))), (14, .d (.atom (.int .i64 i)))]) (0) ?_ ?_ ?_
  · omega
  · simp (maxSteps := 2000000) [go_sem, encM, encR, encE, encW, encL, ownW, ownL]
  intro i hx J2 hJ2
  refine AWP.reg TTab_ok hC [2, 3, 4, 12, 13, 14, 15] fun K hK => ?_
  simp (maxSteps := 2000000) [go_sem, encM, encR, encE, encW, encL, ownW, ownL]
  with_reducible refine hK _ ?_
  clear hK K
  refine AWP.next fun K3 hK3 => ?_
  refine AWP.condW fun T F hT hF => ?_
  simp (maxSteps := 2000000) [go_sem, encM, encR, encE, encW, encL, ownW, ownL]
  refine ⟨fun c2 => hT ?_, fun c2 => hF ?_⟩
  · clear hT hF T F
    obtain ⟨x, hxv, hx2⟩ : ∃ x, Valid x ∧ [encM m, encM o][i]? = some (encM x) := by
      have h2 : i = 0 ∨ i = 1 := by omega
      rcases h2 with rfl | rfl
      · exact ⟨m, hv, rfl⟩
      · exact ⟨o, ho, rfl⟩
    have hx3 : ∀ h, [encM m, encM o][i]'h = encM x := fun h => by rw [List.getElem?_eq_getElem h] at hx2; exact Option.some.inj hx2
    simp only [encM] at hx2 hx3
    have hi2 : i < 2 := by omega
    refine AWP.skip (hK3 _ ?_)
    clear hK3
    refine AWP.next fun K5 hK5 => ?_
    refine AWP.block ?_
    refine AWP.reg TTab_ok hC [2, 3, 4, 8, 12, 13, 14] fun K hK => ?_
    simp (maxSteps := 2000000) [go_sem, encM, encR, encE, encW, encL, ownW, ownL, hx2, hi2, hx3]
    with_reducible refine hK _ ?_
    clear hK K
    have qMCheck := spMCheck_run hMCheck hxv
    try simp only [encM, encR, encE, encW, encL, ownW, ownL] at qMCheck
    refine AWP.reg TTab_ok hC [2, 3, 4, 9, 12, 13, 14] fun K hK => ?_
    simp (maxSteps := 2000000) [go_sem, encM, encR, encE, encW, encL, ownW, ownL, qMCheck, (spMCheck_at hMCheck).1, (spMCheck_at hMCheck).2.1, (spMCheck_at hMCheck).2.2]
    with_reducible refine hK _ ?_
    clear hK K
    refine AWP.reg TTab_ok hC [2, 3, 4, 9, 12, 13, 14, 21] fun K hK => ?_
    simp (maxSteps := 2000000) [go_sem, encM, encR, encE, encW, encL, ownW, ownL]
    with_reducible refine hK _ ?_
    clear hK K
    refine AWP.condW fun T F hT hF => ?_
    simp (maxSteps := 2000000) [go_sem, encM, encR, encE, encW, encL, ownW, ownL]
    refine hF ?_
    clear hT hF T F
    refine AWP.skip (hK5 _ ?_)
    clear hK5
    refine AWP.regEnd TTab_ok hC fun K hK => ?_
    simp (maxSteps := 2000000) [go_sem, encM, encR, encE, encW, encL, ownW, ownL]
    with_reducible refine hK _ ?_
    clear hK K
    refine hJ2 _ (i + 1) ?_ ?_ ?_
    · omega
    · omega
    simp (maxSteps := 2000000) [go_sem, encM, encR, encE, encW, encL, ownW, ownL]
    rw [IntWalk.i64_in _ (by omega)]
  · clear hT hF T F
    refine AWP.exit (hK1 _ ?_)
    clear hK1
    refine AWP.next fun K7 hK7 => ?_
    refine AWP.reg TTab_ok hC [2, 3, 28] fun K hK => ?_
    simp (maxSteps := 2000000) [go_sem, encM, encR, encE, encW, encL, ownW, ownL, hi]
    with_reducible refine hK _ ?_
    clear hK K
    refine AWP.condW fun T F hT hF => ?_
    simp (maxSteps := 2000000) [go_sem, encM, encR, encE, encW, encL, ownW, ownL]
    refine hF ?_
    clear hT hF T F
    refine AWP.skip (hK7 _ ?_)
    clear hK7
    have qTCheck := spTCheck_run hTCheck (hi ▸ hl)
    try simp only [encM, encR, encE, encW, encL, ownW, ownL] at qTCheck
    refine AWP.reg TTab_ok hC [6] fun K hK => ?_
    simp (maxSteps := 2000000) [go_sem, encM, encR, encE, encW, encL, ownW, ownL, hi, qTCheck, (spTCheck_at hTCheck).1, (spTCheck_at hTCheck).2.1, (spTCheck_at hTCheck).2.2]
    with_reducible refine hK _ ?_
    clear hK K
    refine AWP.ret (hE _ ?_)
    simp (maxSteps := 2000000) [go_sem, encM, encR, encE, encW, encL, ownW, ownL]


theorem wFits {ctr : Ctr} (hC : CtrOk Try.prog ctr) (hm : Try.prog.follows .mixedOrders = true) (hNone : ctr.Has spNone) : spFits.Ok Try.prog := by
  rintro ⟨m, a, b⟩ he
  have he : EdgeOk m (a, b) := he
  rcases he with h | ⟨h1, h2, h3, h4⟩
  · simp only [Prod.mk.injEq] at h
    obtain ⟨rfl, rfl⟩ := h
    exact wFitsA hC hm hNone m
  · exact wFitsB hC hm hNone m a b h1 h2 h3 h4

end Go.Own
