/- Walks. Printed by a program of the prover's. -/
import Derived.Test.YtdnenbcldibnoaaLawC
import Derived.Test.YtdnenbcldibnoaaOwnTT
namespace Go.Own
open Go.Proofs
set_option linter.unusedSimpArgs false
set_option linter.unusedVariables false
theorem isEmpty_set' {α : Type} (l : List α) (i : Nat) (a : α) : (l.set i a).isEmpty = l.isEmpty := by cases l <;> cases i <;> rfl

set_option maxHeartbeats 20000000 in
theorem wTOf {ctr : Ctr} (hC : CtrOk Try.prog ctr) (hm : Try.prog.follows .mixedOrders = true)  : spTOf.Ok Try.prog := by
  rintro ⟨x, m⟩ ⟨hx, hv, h62⟩
  show CallOk _ 12 [encTD x, encM m] (encM (tOf x m))
  have hx : x.Ok := hx
  have hv : Valid m := hv
  have h62 : m.rows.length ≤ 62 := h62
  have hx0 := hx
  have r1 := hv.r1
  have hi1 := hv.i1
  have hi2 := hv.i2
  have ho1 := hv.o1
  have ho2 := hv.o2
  have lz : ¬ m.rows.length = 0 := by omega
  have lz2 : ¬ (m.rows.length : Int) = 0 := by omega
  have rz : m.rows ≠ [] := by intro e; rw [e] at r1; simp at r1
  refine CallOk.loose (r := .agg [.atom (.int .i64 m.inp), .atom (.int .i64 m.outp), .sl 1 (tOf x m).rows.isEmpty (A.shuts ((tOf x m).rows.map ownRT))]) ?_ (by simp only [A.loose, A.looses, shut_ownRT_loose, encM]; rfl)
  refine callOk_w (tt := TTab) (rs := [(4, some 34)]) (n := ⟨124, none⟩) TTab_ok Try.func12 rfl rfl rfl rfl (by show _ ≤ 124; simp) fun E hE => ?_
  simp (maxSteps := 2000000) [go_sem, encM, encR, encE, encW, encL, ownW, ownL, encLD, encB, ownS, appendOwnA, encMD, encTD, encC]
  refine AWP.reg TTab_ok hC [2, 3, 4] fun K hK => ?_
  simp (maxSteps := 2000000) [go_sem, encM, encR, encE, encW, encL, ownW, ownL, encLD, encB, ownS, appendOwnA, encMD, encTD, encC]
  with_reducible refine hK _ ?_
  clear hK K
  refine AWP.reg TTab_ok hC [2, 3, 4, 5] fun K hK => ?_
  simp (maxSteps := 2000000) [go_sem, encM, encR, encE, encW, encL, ownW, ownL, encLD, encB, ownS, appendOwnA, encMD, encTD, encC]
  with_reducible refine hK _ ?_
  clear hK K
  refine AWP.next fun K1 hK1 => ?_
  refine AWP.reg TTab_ok hC [2, 3, 4, 5, 6] fun K hK => ?_
  simp (maxSteps := 2000000) [go_sem, encM, encR, encE, encW, encL, ownW, ownL, encLD, encB, ownS, appendOwnA, encMD, encTD, encC]
  with_reducible refine hK _ ?_
  clear hK K
  refine AWP.block ?_
  refine AWP.loopX (X := Nat × List (List (Int × Int))) [2, 3, 4, 5, 6] (fun y => y.1 ≤ m.rows.length ∧ y.2 = m.rows.take y.1) (fun y => m.rows.length - y.1) (fun y => ofL [(2, .own (.box (encTD x))), (3, .own (.box (encM m))), (4, .own (.box (.agg [.atom (.int .i64 0), .atom (.int .i64 0), .osl 1 true []]))), (5, .own (.box (.agg [.atom (.int .i64 m.inp), .atom (.int .i64 m.outp), .osl 1 y.2.isEmpty (y.2.map ownRT)]))), (6, .d (.atom (.int .i64 y.1)))]) ((0, [])) ?_ ?_ ?_
  · exact ⟨Nat.zero_le _, rfl⟩
  · simp (maxSteps := 2000000) [go_sem, encM, encR, encE, encW, encL, ownW, ownL, encLD, encB, ownS, appendOwnA, encMD, encTD, encC]
  intro y hx J2 hJ2
  obtain ⟨s, rs⟩ := y
  dsimp only at hx ⊢
  obtain ⟨h1, hrs⟩ := hx
  have hrl : rs.length ≤ 4294967295 := by rw [hrs]; simp; omega
  refine AWP.next fun K3 hK3 => ?_
  refine AWP.reg TTab_ok hC [2, 3, 4, 5, 6, 20] fun K hK => ?_
  simp (maxSteps := 2000000) [go_sem, encM, encR, encE, encW, encL, ownW, ownL, encLD, encB, ownS, appendOwnA, encMD, encTD, encC]
  with_reducible refine hK _ ?_
  clear hK K
  refine AWP.condW fun T F hT hF => ?_
  simp (maxSteps := 2000000) [go_sem, encM, encR, encE, encW, encL, ownW, ownL, encLD, encB, ownS, appendOwnA, encMD, encTD, encC]
  refine ⟨fun c3 => hT ?_, fun c3 => hF ?_⟩
  · clear hT hF T F
    obtain ⟨r, hr⟩ := some_at (show s < m.rows.length by omega)
    have hrow := hv.row r (List.mem_of_getElem? hr)
    have hr16 : r.length ≤ 4294967296 := by omega
    refine AWP.skip (hK3 _ ?_)
    clear hK3
    refine AWP.next fun K5 hK5 => ?_
    refine AWP.block ?_
    refine AWP.drawEnd TTab_ok hC hm fun K hK => ?_
    simp (maxSteps := 2000000) [go_sem, encM, encR, encE, encW, encL, ownW, ownL, encLD, encB, ownS, appendOwnA, encMD, encTD, encC, hr, hr16, hrl]
    refine ⟨by decide +kernel, ?_⟩
    with_reducible refine hK _ ?_
    clear hK K
    refine hK5 _ ?_
    clear hK5
    refine AWP.regEnd TTab_ok hC fun K hK => ?_
    simp (maxSteps := 2000000) [go_sem, encM, encR, encE, encW, encL, ownW, ownL, encLD, encB, ownS, appendOwnA, encMD, encTD, encC]
    with_reducible refine hK _ ?_
    clear hK K
    refine hJ2 _ (s + 1, rs ++ [r]) ?_ ?_ ?_
    · exact ⟨by dsimp only; omega, by dsimp only; rw [hrs, List.take_add_one, hr]; simp⟩
    · dsimp only; omega
    simp (maxSteps := 2000000) [go_sem, encM, encR, encE, encW, encL, ownW, ownL, encLD, encB, ownS, appendOwnA, encMD, encTD, encC, ownRT]
    rw [IntWalk.i64_in _ (by omega)]
  · clear hT hF T F
    have hfin0 : rs = m.rows := by rw [hrs, List.take_of_length_le (by omega)]
    refine AWP.exit (hK1 _ ?_)
    clear hK1
    refine AWP.nextJ (X := Unit) [2, 3, 4, 5] (fun z => True) (fun z => ofL [(2, .own (.box (encTD x))), (3, .own (.box (encM m))), (4, .own (.box (.agg [.atom (.int .i64 0), .atom (.int .i64 0), .osl 1 true []]))), (5, .own (.box (.agg [.atom (.int .i64 m.inp), .atom (.int .i64 m.outp), .osl 1 (tRows x m).isEmpty ((tRows x m).map ownRT)])))]) ?_ ?_
    · intro z hz
      refine AWP.next fun K7 hK7 => ?_
      refine AWP.reg TTab_ok hC [2, 3, 4, 5, 8] fun K hK => ?_
      simp (maxSteps := 2000000) [go_sem, encM, encR, encE, encW, encL, ownW, ownL, encLD, encB, ownS, appendOwnA, encMD, encTD, encC]
      with_reducible refine hK _ ?_
      clear hK K
      refine AWP.block ?_
      refine AWP.loopX (X := Nat × List (List (Int × Int))) [2, 3, 4, 5, 8] (fun y => y.1 ≤ x.chs.length ∧ y.1 ≤ 40 ∧ y.2 = tFold x m y.1) (fun y => 40 - y.1) (fun y => ofL [(2, .own (.box (encTD x))), (3, .own (.box (encM m))), (4, .own (.box (.agg [.atom (.int .i64 0), .atom (.int .i64 0), .osl 1 true []]))), (5, .own (.box (.agg [.atom (.int .i64 m.inp), .atom (.int .i64 m.outp), .osl 1 y.2.isEmpty (y.2.map ownRT)]))), (8, .d (.atom (.int .i64 y.1)))]) ((0, tRows x m)) ?_ ?_ ?_
      · exact ⟨Nat.zero_le _, Nat.zero_le _, by simp [tFold]⟩
      · simp (maxSteps := 2000000) [go_sem, encM, encR, encE, encW, encL, ownW, ownL, encLD, encB, ownS, appendOwnA, encMD, encTD, encC]
      intro y hx J8 hJ8
      obtain ⟨k, rs⟩ := y
      dsimp only at hx ⊢
      obtain ⟨h1, h2, hrs⟩ := hx
      have hok := tFold_ok hx0 hv k
      rw [← hrs] at hok
      have hb1 : 1 ≤ rs.length := by rw [hok.len]; unfold tRows; simp; omega
      have hb2 : rs.length ≤ 64 := by rw [hok.len]; unfold tRows; simp; omega
      refine AWP.next fun K9 hK9 => ?_
      have hcas2 : (k < x.chs.length ∧ k < 40) ∨ ¬ k < x.chs.length ∨ (k < x.chs.length ∧ ¬ k < 40) := by omega
      rcases hcas2 with ⟨e1, e2⟩ | e1 | ⟨e1, e2⟩
      · have e3 : (k : Int) < 40 := by omega
        obtain ⟨c, hc⟩ := some_at e1
        obtain ⟨b1, b2, b3, b4, b5, b6, b7, b8⟩ := hx0.chs c (List.mem_of_getElem? hc)
        have w1 : IntKind.i64.wrap c.1 = c.1 := IntWalk.i64_in _ (by omega)
        have w2 : IntKind.i64.wrap c.2.1 = c.2.1 := IntWalk.i64_in _ (by omega)
        have w3 : IntKind.i64.wrap c.2.2.1 = c.2.2.1 := IntWalk.i64_in _ (by omega)
        have w4 : IntKind.i64.wrap c.2.2.2 = c.2.2.2 := IntWalk.i64_in _ (by omega)
        have w5 : IntKind.i64.wrap (m.outp + 1) = m.outp + 1 := IntWalk.i64_in _ (by omega)
        have z1 : ¬ rs.length = 0 := by omega
        have z2 : ¬ (rs.length : Int) = 0 := by omega
        have z3 : rs ≠ [] := by intro e; rw [e] at hb1; simp at hb1
        have z4 : ¬ m.outp + 1 = 0 := by omega
        have z5 : ¬ m.inp = 0 := by omega
        have t1 := tmod_lt b1 (show (0 : Int) < rs.length by omega)
        have t10 := t1.1
        have t2 := tmod_lt b3 (show (0 : Int) < m.inp by omega)
        have t20 := t2.1
        obtain ⟨r, hr⟩ := some_at (show (c.1.tmod rs.length).toNat < rs.length by omega)
        have hrow := hok.row r (List.mem_of_getElem? hr)
        have hrs1 : (c.1.tmod rs.length).toNat < rs.length := by omega
        have hrj : (c.2.1.tmod m.inp).toNat < r.length := by omega
        have hr2 : ∀ h, rs[(c.1.tmod rs.length).toNat]'h = r := fun h => by rw [List.getElem?_eq_getElem h] at hr; exact Option.some.inj hr
        have hset : tSet m rs c = rs.set (c.1.tmod rs.length).toNat (r.set (c.2.1.tmod m.inp).toNat (tEdge m rs.length c)) := by unfold tSet; rw [hr]; rfl
        refine AWP.reg TTab_ok hC [2, 3, 4, 5, 8, 75] fun K hK => ?_
        simp (maxSteps := 2000000) [go_sem, encM, encR, encE, encW, encL, ownW, ownL, encLD, encB, ownS, appendOwnA, encMD, encTD, encC, e1, e2, e3]
        with_reducible refine hK _ ?_
        clear hK K
        refine AWP.condW fun T F hT hF => ?_
        simp (maxSteps := 2000000) [go_sem, encM, encR, encE, encW, encL, ownW, ownL, encLD, encB, ownS, appendOwnA, encMD, encTD, encC]
        refine hT ?_
        clear hT hF T F
        refine AWP.skip (hK9 _ ?_)
        clear hK9
        refine AWP.next fun K11 hK11 => ?_
        refine AWP.block ?_
        refine AWP.reg TTab_ok hC [2, 3, 4, 5, 8, 9] fun K hK => ?_
        simp (maxSteps := 2000000) [go_sem, encM, encR, encE, encW, encL, ownW, ownL, encLD, encB, ownS, appendOwnA, encMD, encTD, encC, hc]
        with_reducible refine hK _ ?_
        clear hK K
        refine AWP.draw TTab_ok hC hm [2, 3, 4, 5, 8, 9, 10] fun K hK => ?_
        simp (maxSteps := 2000000) [go_sem, encM, encR, encE, encW, encL, ownW, ownL, encLD, encB, ownS, appendOwnA, encMD, encTD, encC, w3, w4, w5, z1, z2, z3, z4]
        refine ⟨by decide +kernel, ?_⟩
        with_reducible refine hK _ ?_
        clear hK K
        refine AWP.nextJ (X := Unit) [2, 3, 4, 5, 8, 9, 10] (fun z => True) (fun z => ofL [(2, .own (.box (encTD x))), (3, .own (.box (encM m))), (4, .own (.box (.agg [.atom (.int .i64 0), .atom (.int .i64 0), .osl 1 true []]))), (5, .own (.box (.agg [.atom (.int .i64 m.inp), .atom (.int .i64 m.outp), .osl 1 rs.isEmpty (rs.map ownRT)]))), (8, .d (.atom (.int .i64 k))), (9, .own (.box (encC c))), (10, .own (.box (encE (tEdge m rs.length c))))]) ?_ ?_
        · intro z hz
          refine AWP.drawEnd TTab_ok hC hm fun K hK => ?_
          simp (maxSteps := 2000000) [go_sem, encM, encR, encE, encW, encL, ownW, ownL, encLD, encB, ownS, appendOwnA, encMD, encTD, encC, ownRT, w1, w2, t10, t20, hrs1, hr, hr2, hrj, z1, z2, z3, z5]
          refine ⟨by decide +kernel, ?_⟩
          with_reducible refine hK _ ?_
          clear hK K
          refine hK11 _ ?_
          clear hK11
          refine AWP.regEnd TTab_ok hC fun K hK => ?_
          simp (maxSteps := 2000000) [go_sem, encM, encR, encE, encW, encL, ownW, ownL, encLD, encB, ownS, appendOwnA, encMD, encTD, encC]
          with_reducible refine hK _ ?_
          clear hK K
          refine hJ8 _ (k + 1, tSet m rs c) ?_ ?_ ?_
          · exact ⟨by dsimp only; omega, by dsimp only; omega, by dsimp only; rw [tFold_succ hc, hrs]⟩
          · dsimp only; omega
          simp (maxSteps := 2000000) [go_sem, encM, encR, encE, encW, encL, ownW, ownL, encLD, encB, ownS, appendOwnA, encMD, encTD, encC, hset, List.map_set, ownRT, isEmpty_set']
          rw [IntWalk.i64_in _ (by omega)]
        intro K12 hK12
        refine AWP.reg TTab_ok hC [2, 3, 4, 5, 8, 9, 10, 102] fun K hK => ?_
        simp (maxSteps := 2000000) [go_sem, encM, encR, encE, encW, encL, ownW, ownL, encLD, encB, ownS, appendOwnA, encMD, encTD, encC]
        with_reducible refine hK _ ?_
        clear hK K
        refine AWP.condW fun T F hT hF => ?_
        simp (maxSteps := 2000000) [go_sem, encM, encR, encE, encW, encL, ownW, ownL, encLD, encB, ownS, appendOwnA, encMD, encTD, encC]
        refine ⟨fun c15 => hT ?_, fun c15 => hF ?_⟩
        · clear hT hF T F
          have hte : tEdge m rs.length c = (-1, -1) := by unfold tEdge; rw [if_pos c15]
          refine AWP.regEnd TTab_ok hC fun K hK => ?_
          simp (maxSteps := 2000000) [go_sem, encM, encR, encE, encW, encL, ownW, ownL, encLD, encB, ownS, appendOwnA, encMD, encTD, encC]
          with_reducible refine hK _ ?_
          clear hK K
          refine hK12 () _ ?_ ?_
          · trivial
          simp (maxSteps := 2000000) [go_sem, encM, encR, encE, encW, encL, ownW, ownL, encLD, encB, ownS, appendOwnA, encMD, encTD, encC, hte]
        · clear hT hF T F
          have hte : tEdge m rs.length c = (c.2.2.1.tmod rs.length, c.2.2.2.tmod (m.outp + 1)) := by unfold tEdge; rw [if_neg c15]
          refine AWP.skip (hK12 () _ ?_ ?_)
          · trivial
          simp (maxSteps := 2000000) [go_sem, encM, encR, encE, encW, encL, ownW, ownL, encLD, encB, ownS, appendOwnA, encMD, encTD, encC, hte]
      · have hfin2 : rs = (tOf x m).rows := by rw [hrs]; unfold tOf tFold; dsimp only; rw [List.take_of_length_le (by omega), List.take_of_length_le (by omega)]
        refine AWP.reg TTab_ok hC [2, 3, 4, 5, 8, 75] fun K hK => ?_
        simp (maxSteps := 2000000) [go_sem, encM, encR, encE, encW, encL, ownW, ownL, encLD, encB, ownS, appendOwnA, encMD, encTD, encC, e1]
        with_reducible refine hK _ ?_
        clear hK K
        refine AWP.condW fun T F hT hF => ?_
        simp (maxSteps := 2000000) [go_sem, encM, encR, encE, encW, encL, ownW, ownL, encLD, encB, ownS, appendOwnA, encMD, encTD, encC]
        refine hF ?_
        clear hT hF T F
        refine AWP.exit (hK7 _ ?_)
        clear hK7
        refine AWP.reg TTab_ok hC [4] fun K hK => ?_
        simp (maxSteps := 2000000) [go_sem, encM, encR, encE, encW, encL, ownW, ownL, encLD, encB, ownS, appendOwnA, encMD, encTD, encC]
        with_reducible refine hK _ ?_
        clear hK K
        refine AWP.ret (hE _ ?_)
        simp (maxSteps := 2000000) [go_sem, hfin2]
      · have e3 : ¬ (k : Int) < 40 := by omega
        have hfin2 : rs = (tOf x m).rows := by rw [hrs, show k = 40 by omega]; rfl
        refine AWP.reg TTab_ok hC [2, 3, 4, 5, 8, 75] fun K hK => ?_
        simp (maxSteps := 2000000) [go_sem, encM, encR, encE, encW, encL, ownW, ownL, encLD, encB, ownS, appendOwnA, encMD, encTD, encC, e1, e2, e3]
        with_reducible refine hK _ ?_
        clear hK K
        refine AWP.condW fun T F hT hF => ?_
        simp (maxSteps := 2000000) [go_sem, encM, encR, encE, encW, encL, ownW, ownL, encLD, encB, ownS, appendOwnA, encMD, encTD, encC]
        refine hF ?_
        clear hT hF T F
        refine AWP.exit (hK7 _ ?_)
        clear hK7
        refine AWP.reg TTab_ok hC [4] fun K hK => ?_
        simp (maxSteps := 2000000) [go_sem, encM, encR, encE, encW, encL, ownW, ownL, encLD, encB, ownS, appendOwnA, encMD, encTD, encC]
        with_reducible refine hK _ ?_
        clear hK K
        refine AWP.ret (hE _ ?_)
        simp (maxSteps := 2000000) [go_sem, hfin2]
    intro K6 hK6
    refine AWP.reg TTab_ok hC [2, 3, 4, 5, 7] fun K hK => ?_
    simp (maxSteps := 2000000) [go_sem, encM, encR, encE, encW, encL, ownW, ownL, encLD, encB, ownS, appendOwnA, encMD, encTD, encC]
    with_reducible refine hK _ ?_
    clear hK K
    refine AWP.block ?_
    refine AWP.loopX (X := Nat × List (List (Int × Int))) [2, 3, 4, 5, 7] (fun y => y.1 ≤ x.cs.length ∧ y.1 ≤ 2 ∧ y.2 = m.rows ++ (x.cs.take y.1).map (tCopy m)) (fun y => 2 - y.1) (fun y => ofL [(2, .own (.box (encTD x))), (3, .own (.box (encM m))), (4, .own (.box (.agg [.atom (.int .i64 0), .atom (.int .i64 0), .osl 1 true []]))), (5, .own (.box (.agg [.atom (.int .i64 m.inp), .atom (.int .i64 m.outp), .osl 1 y.2.isEmpty (y.2.map ownRT)]))), (7, .d (.atom (.int .i64 y.1)))]) ((0, m.rows)) ?_ ?_ ?_
    · exact ⟨Nat.zero_le _, Nat.zero_le _, by simp⟩
    · simp (maxSteps := 2000000) [go_sem, encM, encR, encE, encW, encL, ownW, ownL, encLD, encB, ownS, appendOwnA, encMD, encTD, encC, hfin0]
    intro y hx J16 hJ16
    obtain ⟨i, rs⟩ := y
    dsimp only at hx ⊢
    obtain ⟨h1, h2, hrs⟩ := hx
    have hrl : rs.length ≤ 4294967295 := by rw [hrs]; simp; omega
    refine AWP.next fun K17 hK17 => ?_
    have hcase : (i < x.cs.length ∧ i < 2) ∨ ¬ i < x.cs.length ∨ (i < x.cs.length ∧ ¬ i < 2) := by omega
    rcases hcase with ⟨g1, g2⟩ | g1 | ⟨g1, g2⟩
    · have g3 : (i : Int) < 2 := by omega
      obtain ⟨c, hc⟩ := some_at g1
      have hcb := hx0.cs c (List.mem_of_getElem? hc)
      have hcw : IntKind.i64.wrap c = c := IntWalk.i64_in _ (by omega)
      have hct := tmod_lt hcb.1 (show (0 : Int) < m.rows.length by omega)
      obtain ⟨r, hr⟩ := some_at (show (c.tmod m.rows.length).toNat < m.rows.length by omega)
      have hrow := hv.row r (List.mem_of_getElem? hr)
      have hr16 : r.length ≤ 4294967296 := by omega
      have hcp : tCopy m c = r := by unfold tCopy; rw [hr]; rfl
      have hct0 := hct.1
      refine AWP.reg TTab_ok hC [2, 3, 4, 5, 7, 43] fun K hK => ?_
      simp (maxSteps := 2000000) [go_sem, encM, encR, encE, encW, encL, ownW, ownL, encLD, encB, ownS, appendOwnA, encMD, encTD, encC, g1, g2, g3]
      with_reducible refine hK _ ?_
      clear hK K
      refine AWP.condW fun T F hT hF => ?_
      simp (maxSteps := 2000000) [go_sem, encM, encR, encE, encW, encL, ownW, ownL, encLD, encB, ownS, appendOwnA, encMD, encTD, encC]
      refine hT ?_
      clear hT hF T F
      refine AWP.skip (hK17 _ ?_)
      clear hK17
      refine AWP.next fun K19 hK19 => ?_
      refine AWP.block ?_
      refine AWP.drawEnd TTab_ok hC hm fun K hK => ?_
      simp (maxSteps := 2000000) [go_sem, encM, encR, encE, encW, encL, ownW, ownL, encLD, encB, ownS, appendOwnA, encMD, encTD, encC, hc, hcw, hct0, lz, lz2, rz, hr, hr16, hrl, hcp]
      refine ⟨by decide +kernel, ?_⟩
      with_reducible refine hK _ ?_
      clear hK K
      refine hK19 _ ?_
      clear hK19
      refine AWP.regEnd TTab_ok hC fun K hK => ?_
      simp (maxSteps := 2000000) [go_sem, encM, encR, encE, encW, encL, ownW, ownL, encLD, encB, ownS, appendOwnA, encMD, encTD, encC]
      with_reducible refine hK _ ?_
      clear hK K
      refine hJ16 _ (i + 1, rs ++ [tCopy m c]) ?_ ?_ ?_
      · exact ⟨by dsimp only; omega, by dsimp only; omega, by dsimp only; rw [hrs, List.take_add_one, hc]; simp⟩
      · dsimp only; omega
      simp (maxSteps := 2000000) [go_sem, encM, encR, encE, encW, encL, ownW, ownL, encLD, encB, ownS, appendOwnA, encMD, encTD, encC, ownRT, hcp]
      rw [IntWalk.i64_in _ (by omega)]
    · have hfin1 : rs = tRows x m := by rw [hrs, tRows, List.take_of_length_le (by omega), List.take_of_length_le (by omega)]
      refine AWP.reg TTab_ok hC [2, 3, 4, 5, 7, 43] fun K hK => ?_
      simp (maxSteps := 2000000) [go_sem, encM, encR, encE, encW, encL, ownW, ownL, encLD, encB, ownS, appendOwnA, encMD, encTD, encC, g1]
      with_reducible refine hK _ ?_
      clear hK K
      refine AWP.condW fun T F hT hF => ?_
      simp (maxSteps := 2000000) [go_sem, encM, encR, encE, encW, encL, ownW, ownL, encLD, encB, ownS, appendOwnA, encMD, encTD, encC]
      refine hF ?_
      clear hT hF T F
      refine AWP.exit (hK6 () _ ?_ ?_)
      · trivial
      simp (maxSteps := 2000000) [go_sem, encM, encR, encE, encW, encL, ownW, ownL, encLD, encB, ownS, appendOwnA, encMD, encTD, encC, hfin1]
    · have g3 : ¬ (i : Int) < 2 := by omega
      have hfin1 : rs = tRows x m := by rw [hrs, tRows, show i = 2 by omega]
      refine AWP.reg TTab_ok hC [2, 3, 4, 5, 7, 43] fun K hK => ?_
      simp (maxSteps := 2000000) [go_sem, encM, encR, encE, encW, encL, ownW, ownL, encLD, encB, ownS, appendOwnA, encMD, encTD, encC, g1, g2, g3]
      with_reducible refine hK _ ?_
      clear hK K
      refine AWP.condW fun T F hT hF => ?_
      simp (maxSteps := 2000000) [go_sem, encM, encR, encE, encW, encL, ownW, ownL, encLD, encB, ownS, appendOwnA, encMD, encTD, encC]
      refine hF ?_
      clear hT hF T F
      refine AWP.exit (hK6 () _ ?_ ?_)
      · trivial
      simp (maxSteps := 2000000) [go_sem, encM, encR, encE, encW, encL, ownW, ownL, encLD, encB, ownS, appendOwnA, encMD, encTD, encC, hfin1]


end Go.Own
