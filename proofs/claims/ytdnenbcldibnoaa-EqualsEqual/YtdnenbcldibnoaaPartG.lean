/- Walks, further. -/
import Derived.Test.YtdnenbcldibnoaaPartF
import Derived.Test.YtdnenbcldibnoaaPartC
import Derived.Test.YtdnenbcldibnoaaPartE
set_option linter.unusedVariables false
set_option linter.unusedSimpArgs false
namespace Go.Own
open Go.Proofs
set_option linter.unusedVariables false
set_option maxRecDepth 100000
set_option maxHeartbeats 8000000
noncomputable def bd_ref04_Reached : Code := (Try.f101.body).getD .skip
noncomputable def sp_ref04_Reached : Spec := spF (α := S_api_Machine × Int) (ρ := List Bool) 101 (fun x => [F22_ x.1, (eI .i64) x.2]) (fun r => (eOs 1 true eB) r) (fun x => ref04_Reached x.1 x.2) [] (by
 rintro ⟨a0, a1⟩ ⟨b0, b1⟩ h
 simp only [List.cons.injEq, and_true] at h
 have e0 := EncI.inj (f := F22_) _ _ h.1
 have e1 := EncI.inj (f := (eI .i64)) _ _ h.2
 subst e0 e1
 rfl)
abbrev ST_ref04_Reached_J1 (out : List Bool) : List (Nat × T) := [(5, .own (eOs 1 true eB out))]
abbrev ST_ref04_Reached_J3 (m_ : S_api_Machine) (round : Int) (out2 : List Bool) : List (Nat × T) := [(2, .own (.box (F22_ m_))), (5, .own (eOs 1 true eB out2)), (6, .d (I round))]
abbrev ST_ref04_Reached_J5 (m_ : S_api_Machine) (round : Int) (s_ : Int) (out4 : List Bool) : List (Nat × T) := [(2, .own (.box (F22_ m_))), (5, .own (eOs 1 true eB out4)), (6, .d (I round)), (7, .d (I s_))]
abbrev ST_ref04_Reached_J7 (m_ : S_api_Machine) (round : Int) (s_ : Int) (i_ : Int) (out6 : List Bool) : List (Nat × T) := [(2, .own (.box (F22_ m_))), (5, .own (eOs 1 true eB out6)), (6, .d (I round)), (7, .d (I s_)), (8, .d (I i_))]
abbrev ST_ref04_Reached_L6 (m_ : S_api_Machine) (round : Int) (s_ : Int) (out5 : List Bool) (i_ : Int) : List (Nat × T) := [(2, .own (.box (F22_ m_))), (5, .own (eOs 1 true eB out5)), (6, .d (I round)), (7, .d (I s_)), (8, .d (I i_))]
abbrev ST_ref04_Reached_L4 (m_ : S_api_Machine) (round : Int) (out3 : List Bool) (s_ : Int) : List (Nat × T) := [(2, .own (.box (F22_ m_))), (5, .own (eOs 1 true eB out3)), (6, .d (I round)), (7, .d (I s_))]
abbrev ST_ref04_Reached_L2 (m_ : S_api_Machine) (out1 : List Bool) (round : Int) : List (Nat × T) := [(2, .own (.box (F22_ m_))), (5, .own (eOs 1 true eB out1)), (6, .d (I round))]
theorem w_ref04_Reached {ctr : Ctr} (hC : CtrOk Try.prog ctr) (hm : Try.prog.follows .mixedOrders = true) : sp_ref04_Reached.Ok Try.prog := by
 refine spF_ok ?_
 rintro ⟨m_, from_⟩ r0 hf0
 try unfold ref04_Reached at hf0
 refine callOk_h (tt := TTab) (keep := true) (rs := [(4, none)]) (n := ⟨58, []⟩) (body := bd_ref04_Reached) TTab_ok Try.func101 rfl (by kernel_rfl) rfl rfl (by show (2 : Nat) ≤ 58; decide) fun E hE => ?_
 have o0 := lnM F13_ m_.Rows
 obtain ⟨g0, hf0⟩ := gdE hf0
 have o1 := rM 1 eB ((m_.Rows.length : Nat) : Int) false
 obtain ⟨u_e, h0, hf0⟩ := bindE hf0
 have o2 := sM eB (List.replicate ((m_.Rows.length : Nat) : Int).toNat false) from_ true
 refine awpAt X0 TTab_ok hC hm [2,5] 4000 [aLn m_.Rows.length, .a (eOs 1 true eB (List.replicate ((m_.Rows.length : Nat) : Int).toNat false)), .a (eB u_e), .a (eB u_e), .l (((List.replicate ((m_.Rows.length : Nat) : Int).toNat false).set from_.toNat true).map eB), .cut 0] (sub [1,1,1] bd_ref04_Reached) (frs [1,1,1] [] bd_ref04_Reached []) [(2, .own (.box (F22_ m_))), (5, .own (eOs 1 true eB ((List.replicate ((m_.Rows.length : Nat) : Int).toNat false).set from_.toNat true)))] [ob o0, ob (rL g0), ob o1, ob (iL eB h0), ob (iM eB h0), ob (iM eB h0), ob o2] (by kernel_rfl) fun st0 h0 => ?_
 refine awpJoin' (X := List Bool) (x := (sub [1,1,1,2] bd_ref04_Reached)) (y := (sub [1,1,1,1] bd_ref04_Reached)) (by kernel_rfl) [5] [2,5] _ h0 (fun z => ref04_Reached_J1 z = some r0) (fun z => ST_ref04_Reached_J1 z) ?_ fun J1 hJ1 => ?_
 ·rintro out hf0
  unfold ref04_Reached_J1 at hf0
  obtain rfl := someE hf0
  exact awpEnd X0 TTab_ok hC hm hE 4000 (hs := []) (x := (eOs 1 true eB out)) [] (by kernel_rfl) (LeV.refl _)
 ·obtain ⟨t2, ht2, hf0⟩ := bindE hf0
  refine awpAt X0 TTab_ok hC hm [2,5,6] 4000 [] (sub [1,1,1,2,1,0] bd_ref04_Reached) (frs [1,1,1,2,1,0] [J1] bd_ref04_Reached []) [(2, .own (.box (F22_ m_))), (5, .own (eOs 1 true eB ((List.replicate ((m_.Rows.length : Nat) : Int).toNat false).set from_.toNat true))), (6, .d (I 0))] [] (by kernel_rfl) fun st0 h0 => ?_
  refine awpLoop' (X := (List Bool × Int) × Nat) (c' := (sub [1,1,1,2,1,0,0] bd_ref04_Reached)) (by kernel_rfl) [2,5,6] (fun x => loopN (fun s => ref04_Reached_L2 m_ s.1 s.2) x.2 x.1 = some t2) (fun x => x.2) (fun x => ST_ref04_Reached_L2 m_ x.1.1 x.1.2) ((((List.replicate ((m_.Rows.length : Nat) : Int).toNat false).set from_.toNat true), 0), fuel) _ h0 inferInstance ht2 ?_
  rintro ⟨⟨out1, round⟩, n2⟩ hn2 J2 hJ2
  obtain ⟨m2, lr1, rfl, hf1, hl1⟩ := loopE hn2
  try unfold ref04_Reached_L2 at hf1
  have o3 := lnM F13_ m_.Rows
  rcases bifE hf1 with ⟨c0, hf1⟩ | ⟨c0, hf1⟩
  ·refine awpAt X0 TTab_ok hC hm [2,5,6] 4000 [aLn m_.Rows.length, bT, .cut 0] (sub [1,1,1,2,1,0,0,1] bd_ref04_Reached) (frs [1,1,1,2,1,0,0,1] [J1, J2] bd_ref04_Reached []) [(2, .own (.box (F22_ m_))), (5, .own (eOs 1 true eB out1)), (6, .d (I round))] [ob o3, ob c0] (by kernel_rfl) fun st0 h0 => ?_
   refine awpJoin' (X := List Bool) (x := (sub [1,1,1,2,1,0,0,1,2] bd_ref04_Reached)) (y := (sub [1,1,1,2,1,0,0,1,1] bd_ref04_Reached)) (by kernel_rfl) [2,5,6] [2,5,6] _ h0 (fun z => ref04_Reached_J3 round z = some lr1) (fun z => ST_ref04_Reached_J3 m_ round z) ?_ fun J3 hJ3 => ?_
   ·rintro out2 hf1
    unfold ref04_Reached_J3 at hf1
    obtain rfl := someE hf1
    exact awpBack X0 TTab_ok hC hm [2,5,6] 4000 [] J2 [(2, .own (.box (F22_ m_))), (5, .own (eOs 1 true eB out2)), (6, .d (I (w64 (round + 1))))] [] (by kernel_rfl) fun st0 h0 => hJ2 st0 _ ((out2, w64 (round + 1)), m2) hl1 (Nat.lt_succ_self m2) h0 inferInstance
   ·obtain ⟨t4, ht4, hf1⟩ := bindE hf1
    refine awpAt X0 TTab_ok hC hm [2,5,6,7] 4000 [] (sub [1,1,1,2,1,0,0,1,2,0,1,0] bd_ref04_Reached) (frs [1,1,1,2,1,0,0,1,2,0,1,0] [J1, J2, J3] bd_ref04_Reached []) [(2, .own (.box (F22_ m_))), (5, .own (eOs 1 true eB out1)), (6, .d (I round)), (7, .d (I 0))] [] (by kernel_rfl) fun st0 h0 => ?_
    refine awpLoop' (X := (List Bool × Int) × Nat) (c' := (sub [1,1,1,2,1,0,0,1,2,0,1,0,0] bd_ref04_Reached)) (by kernel_rfl) [2,5,6,7] (fun x => loopN (fun s => ref04_Reached_L4 m_ s.1 s.2) x.2 x.1 = some t4) (fun x => x.2) (fun x => ST_ref04_Reached_L4 m_ round x.1.1 x.1.2) ((out1,0), fuel) _ h0 inferInstance ht4 ?_
    rintro ⟨⟨out3, s_⟩, n4⟩ hn4 J4 hJ4
    obtain ⟨m4, lr2, rfl, hf2, hl2⟩ := loopE hn4
    try unfold ref04_Reached_L4 at hf2
    have o4 := lnM F13_ m_.Rows
    rcases bifE hf2 with ⟨c1, hf2⟩ | ⟨c1, hf2⟩
    ·refine awpAt X0 TTab_ok hC hm [2,5,6,7] 4000 [aLn m_.Rows.length, bT, .cut 0] (sub [1,1,1,2,1,0,0,1,2,0,1,0,0,1] bd_ref04_Reached) (frs [1,1,1,2,1,0,0,1,2,0,1,0,0,1] [J1, J2, J3, J4] bd_ref04_Reached []) [(2, .own (.box (F22_ m_))), (5, .own (eOs 1 true eB out3)), (6, .d (I round)), (7, .d (I s_))] [ob o4, ob c1] (by kernel_rfl) fun st0 h0 => ?_
     refine awpJoin' (X := List Bool) (x := (sub [1,1,1,2,1,0,0,1,2,0,1,0,0,1,2] bd_ref04_Reached)) (y := (sub [1,1,1,2,1,0,0,1,2,0,1,0,0,1,1] bd_ref04_Reached)) (by kernel_rfl) [2,5,6,7] [2,5,6,7] _ h0 (fun z => ref04_Reached_J5 s_ z = some lr2) (fun z => ST_ref04_Reached_J5 m_ round s_ z) ?_ fun J5 hJ5 => ?_
     ·rintro out4 hf2
      unfold ref04_Reached_J5 at hf2
      obtain rfl := someE hf2
      exact awpBack X0 TTab_ok hC hm [2,5,6,7] 4000 [] J4 [(2, .own (.box (F22_ m_))), (5, .own (eOs 1 true eB out4)), (6, .d (I round)), (7, .d (I (w64 (s_ + 1))))] [] (by kernel_rfl) fun st0 h0 => hJ4 st0 _ ((out4, w64 (s_ + 1)), m4) hl2 (Nat.lt_succ_self m4) h0 inferInstance
     ·obtain ⟨t6, ht6, hf2⟩ := bindE hf2
      refine awpAt X0 TTab_ok hC hm [2,5,6,7,8] 4000 [] (sub [1,1,1,2,1,0,0,1,2,0,1,0,0,1,2,0,1,0] bd_ref04_Reached) (frs [1,1,1,2,1,0,0,1,2,0,1,0,0,1,2,0,1,0] [J1, J2, J3, J4, J5] bd_ref04_Reached []) [(2, .own (.box (F22_ m_))), (5, .own (eOs 1 true eB out3)), (6, .d (I round)), (7, .d (I s_)), (8, .d (I 0))] [] (by kernel_rfl) fun st0 h0 => ?_
      refine awpLoop' (X := (List Bool × Int) × Nat) (c' := (sub [1,1,1,2,1,0,0,1,2,0,1,0,0,1,2,0,1,0,0] bd_ref04_Reached)) (by kernel_rfl) [2,5,6,7,8] (fun x => loopN (fun s => ref04_Reached_L6 m_ s_ s.1 s.2) x.2 x.1 = some t6) (fun x => x.2) (fun x => ST_ref04_Reached_L6 m_ round s_ x.1.1 x.1.2) ((out3,0), fuel) _ h0 inferInstance ht6 ?_
      rintro ⟨⟨out5, i_⟩, n6⟩ hn6 J6 hJ6
      obtain ⟨m6, lr3, rfl, hf3, hl3⟩ := loopE hn6
      try unfold ref04_Reached_L6 at hf3
      rcases bifE hf3 with ⟨c2, hf3⟩ | ⟨c2, hf3⟩
      ·refine awpAt X0 TTab_ok hC hm [2,5,6,7,8] 4000 [bT, .cut 0] (sub [1,1,1,2,1,0,0,1,2,0,1,0,0,1,2,0,1,0,0,1] bd_ref04_Reached) (frs [1,1,1,2,1,0,0,1,2,0,1,0,0,1,2,0,1,0,0,1] [J1, J2, J3, J4, J5, J6] bd_ref04_Reached []) [(2, .own (.box (F22_ m_))), (5, .own (eOs 1 true eB out5)), (6, .d (I round)), (7, .d (I s_)), (8, .d (I i_))] [ob c2] (by kernel_rfl) fun st0 h0 => ?_
       refine awpJoin' (X := List Bool) (x := (sub [1,1,1,2,1,0,0,1,2,0,1,0,0,1,2,0,1,0,0,1,2] bd_ref04_Reached)) (y := (sub [1,1,1,2,1,0,0,1,2,0,1,0,0,1,2,0,1,0,0,1,1] bd_ref04_Reached)) (by kernel_rfl) [2,5,6,7,8] [2,5,6,7,8] _ h0 (fun z => ref04_Reached_J7 i_ z = some lr3) (fun z => ST_ref04_Reached_J7 m_ round s_ i_ z) ?_ fun J7 hJ7 => ?_
       ·rintro out6 hf3
        unfold ref04_Reached_J7 at hf3
        obtain rfl := someE hf3
        exact awpBack X0 TTab_ok hC hm [2,5,6,7,8] 4000 [] J6 [(2, .own (.box (F22_ m_))), (5, .own (eOs 1 true eB out6)), (6, .d (I round)), (7, .d (I s_)), (8, .d (I (w64 (i_ + 1))))] [] (by kernel_rfl) fun st0 h0 => hJ6 st0 _ ((out6, w64 (i_ + 1)), m6) hl3 (Nat.lt_succ_self m6) h0 inferInstance
       ·obtain ⟨Row_e, h1, hf3⟩ := bindE hf3
        have o5 := iM F13_ h1
        obtain ⟨Row_e_e, h2, hf3⟩ := bindE hf3
        have o6 := iM F9_ h2
        obtain ⟨out_e, h3, hf3⟩ := bindE hf3
        rcases bifE hf3 with ⟨c3, hf3⟩ | ⟨c3, hf3⟩
        ·rcases bifE hf3 with ⟨c4, hf3⟩ | ⟨c4, hf3⟩
         ·obtain ⟨out_e1, h4, hf3⟩ := bindE hf3
          exact awpBack X0 TTab_ok hC hm [2,5,6,7,8] 4000 (.a (F13_ Row_e) :: .a (F9_ Row_e_e) :: .a (eB out_e) :: (rpN 4 bT [.a (eB out_e1), .a (eB out_e1), .l ((out5.set Row_e_e.To.toNat true).map eB)])) J7 [(2, .own (.box (F22_ m_))), (5, .own (eOs 1 true eB (out5.set Row_e_e.To.toNat true))), (6, .d (I round)), (7, .d (I s_)), (8, .d (I i_))] [ob (i0 h1), ob o5, ob (i0 h2), ob o6, ob (iL eB h3), ob (iM eB h3), ob c3, ob c3, ob c3, ob c4, ob (iL eB h4), ob (iM eB h4), ob (iM eB h4), ob (sM eB out5 Row_e_e.To true)] (by kernel_rfl) fun st0 h0 => hJ7 st0 _ (out5.set Row_e_e.To.toNat true) hf3 h0 inferInstance
         ·exact awpBack X0 TTab_ok hC hm [2,5,6,7,8] 4000 [.a (F13_ Row_e), .a (F9_ Row_e_e), .a (eB out_e), bT, bT, bT, bF] J7 [(2, .own (.box (F22_ m_))), (5, .own (eOs 1 true eB out5)), (6, .d (I round)), (7, .d (I s_)), (8, .d (I i_))] [ob (i0 h1), ob o5, ob (i0 h2), ob o6, ob (iL eB h3), ob (iM eB h3), ob c3, ob c3, ob c3, ob c4] (by kernel_rfl) fun st0 h0 => hJ7 st0 _ out5 hf3 h0 inferInstance
        ·exact awpBack X0 TTab_ok hC hm [2,5,6,7,8] 4000 (.a (F13_ Row_e) :: .a (F9_ Row_e_e) :: .a (eB out_e) :: (rpN 4 bF [])) J7 [(2, .own (.box (F22_ m_))), (5, .own (eOs 1 true eB out5)), (6, .d (I round)), (7, .d (I s_)), (8, .d (I i_))] [ob (i0 h1), ob o5, ob (i0 h2), ob o6, ob (iL eB h3), ob (iM eB h3), ob c3, ob c3, ob c3, oF] (by kernel_rfl) fun st0 h0 => hJ7 st0 _ out5 hf3 h0 inferInstance
      ·obtain rfl := someE hf3
       obtain rfl := hl3
       exact awpBack X0 TTab_ok hC hm [2,5,6,7] 4000 [bF] J5 [(2, .own (.box (F22_ m_))), (5, .own (eOs 1 true eB out5)), (6, .d (I round)), (7, .d (I s_))] [ob c2] (by kernel_rfl) fun st0 h0 => hJ5 st0 _ out5 hf2 h0 inferInstance
    ·obtain rfl := someE hf2
     obtain rfl := hl2
     exact awpBack X0 TTab_ok hC hm [2,5,6] 4000 [aLn m_.Rows.length, bF] J3 [(2, .own (.box (F22_ m_))), (5, .own (eOs 1 true eB out3)), (6, .d (I round))] [ob o4, ob c1] (by kernel_rfl) fun st0 h0 => hJ3 st0 _ out3 hf1 h0 inferInstance
  ·obtain rfl := someE hf1
   obtain rfl := hl1
   exact awpBack X0 TTab_ok hC hm [5] 4000 [aLn m_.Rows.length, bF] J1 [(5, .own (eOs 1 true eB out1))] [ob o3, ob c0] (by kernel_rfl) fun st0 h0 => hJ1 st0 _ out1 hf0 h0 inferInstance
noncomputable def bd_ref09_Map : Code := (Try.f77.body).getD .skip
noncomputable def sp_ref09_Map : Spec := spF (α := S_api_Machine) (ρ := List Int) 77 (fun x => [F22_ x]) (fun r => F4_ r) (fun x => ref09_Map x) [] (by
 rintro a0 b0 h
 simp only [List.cons.injEq, and_true] at h
 have e0 := EncI.inj (f := F22_) _ _ h
 subst e0
 rfl)
abbrev ST_ref09_Map_J1 (out : List Int) : List (Nat × T) := [(6, .own (eOs 1 false (eI .i64) out))]
abbrev ST_ref09_Map_J3 (r_ : List Int) (r_1 : List Int) (r_2 : List Bool) (s_ : Int) (out2 : List Int) : List (Nat × T) := [(3, .own (eOs 1 false (eI .i64) r_)), (4, .own (eOs 1 false (eI .i64) r_1)), (5, .own (eOs 1 true eB r_2)), (6, .own (eOs 1 false (eI .i64) out2)), (7, .d (I s_))]
abbrev ST_ref09_Map_J4 (r_ : List Int) (r_1 : List Int) (r_2 : List Bool) (out1 : List Int) (s_ : Int) (k_ : Int) : List (Nat × T) := [(3, .own (eOs 1 false (eI .i64) r_)), (4, .own (eOs 1 false (eI .i64) r_1)), (5, .own (eOs 1 true eB r_2)), (6, .own (eOs 1 false (eI .i64) out1)), (7, .d (I s_)), (8, .d (I k_))]
abbrev ST_ref09_Map_J6 (r_ : List Int) (r_1 : List Int) (r_2 : List Bool) (out1 : List Int) (s_ : Int) (n_ : Int) (k_2 : Int) : List (Nat × T) := [(3, .own (eOs 1 false (eI .i64) r_)), (4, .own (eOs 1 false (eI .i64) r_1)), (5, .own (eOs 1 true eB r_2)), (6, .own (eOs 1 false (eI .i64) out1)), (7, .d (I s_)), (8, .d (I k_2)), (9, .d (I n_))]
abbrev ST_ref09_Map_L5 (r_ : List Int) (r_1 : List Int) (r_2 : List Bool) (out1 : List Int) (s_ : Int) (k_1 : Int) (n_ : Int) : List (Nat × T) := [(3, .own (eOs 1 false (eI .i64) r_)), (4, .own (eOs 1 false (eI .i64) r_1)), (5, .own (eOs 1 true eB r_2)), (6, .own (eOs 1 false (eI .i64) out1)), (7, .d (I s_)), (8, .d (I k_1)), (9, .d (I n_))]
abbrev ST_ref09_Map_L2 (r_ : List Int) (r_1 : List Int) (r_2 : List Bool) (out1 : List Int) (s_ : Int) : List (Nat × T) := [(3, .own (eOs 1 false (eI .i64) r_)), (4, .own (eOs 1 false (eI .i64) r_1)), (5, .own (eOs 1 true eB r_2)), (6, .own (eOs 1 false (eI .i64) out1)), (7, .d (I s_))]
theorem w_ref09_Map {ctr : Ctr} (hC : CtrOk Try.prog ctr) (hm : Try.prog.follows .mixedOrders = true) (h_ref07_Classes : ctr.Has sp_ref07_Classes) (h_ref09_Firsts : ctr.Has sp_ref09_Firsts) (h_ref04_Reached : ctr.Has sp_ref04_Reached) : sp_ref09_Map.Ok Try.prog := by
 refine spF_ok ?_
 rintro m_ r0 hf0
 try unfold ref09_Map at hf0
 refine callOk_h (tt := TTab) (keep := true) (rs := [(2, none)]) (n := ⟨52, []⟩) (body := bd_ref09_Map) TTab_ok Try.func77 rfl (by kernel_rfl) rfl rfl (by show (1 : Nat) ≤ 52; decide) fun E hE => ?_
 obtain ⟨r_, h0, hf0⟩ := bindE hf0
 have o0 := hasF h_ref07_Classes (x := m_) h0 (loC F22_ m_ <| loN)
 obtain ⟨r_1, h1, hf0⟩ := bindE hf0
 have o1 := hasF h_ref09_Firsts (x := m_) h1 (loC F22_ m_ <| loN)
 obtain ⟨r_2, h2, hf0⟩ := bindE hf0
 have o2 := hasF h_ref04_Reached (x := (m_, 0)) h2 (loC F22_ m_ <| loC (eI .i64) 0 <| loN)
 refine awpAt X0 TTab_ok hC hm [3,4,5,6] 4000 [.g [], .a (F4_ r_), .g [], .a (F4_ r_1), .g [], .a ((eOs 1 true eB) r_2), .cut 1] (sub [1,1,1,1,1] bd_ref09_Map) (frs [1,1,1,1,1] [] bd_ref09_Map []) [(3, .own (eOs 1 false (eI .i64) r_)), (4, .own (eOs 1 false (eI .i64) r_1)), (5, .own (eOs 1 true eB r_2)), (6, .own (eOs 1 true (eI .i64) []))] [ob (hasG h_ref07_Classes), ob o0, ob (hasG h_ref09_Firsts), ob o1, ob (hasG h_ref04_Reached), ob o2] (by kernel_rfl) fun st0 h0 => ?_
 refine awpJoin' (X := List Int) (x := (sub [1,1,1,1,1,2] bd_ref09_Map)) (y := (sub [1,1,1,1,1,1] bd_ref09_Map)) (by kernel_rfl) [6] [3,4,5,6] _ h0 (fun z => ref09_Map_J1 z = some r0) (fun z => ST_ref09_Map_J1 z) ?_ fun J1 hJ1 => ?_
 ·rintro out hf0
  unfold ref09_Map_J1 at hf0
  obtain rfl := someE hf0
  exact awpEnd X0 TTab_ok hC hm hE 4000 (hs := []) (x := (eOs 1 false (eI .i64) out)) [] (by kernel_rfl) (LeV.refl _)
 ·obtain ⟨t2, ht2, hf0⟩ := bindE hf0
  refine awpAt X0 TTab_ok hC hm [3,4,5,6,7] 4000 [] (sub [1,1,1,1,1,2,1,0] bd_ref09_Map) (frs [1,1,1,1,1,2,1,0] [J1] bd_ref09_Map []) [(3, .own (eOs 1 false (eI .i64) r_)), (4, .own (eOs 1 false (eI .i64) r_1)), (5, .own (eOs 1 true eB r_2)), (6, .own (eOs 1 true (eI .i64) [])), (7, .d (I 0))] [] (by kernel_rfl) fun st0 h0 => ?_
  refine awpLoop' (X := (List Int × Int) × Nat) (c' := (sub [1,1,1,1,1,2,1,0,0] bd_ref09_Map)) (by kernel_rfl) [3,4,5,6,7] (fun x => loopN (fun s => ref09_Map_L2 r_ r_1 r_2 s.1 s.2) x.2 x.1 = some t2) (fun x => x.2) (fun x => ST_ref09_Map_L2 r_ r_1 r_2 x.1.1 x.1.2) ((([] : List Int), 0), fuel) _ h0 inferInstance ht2 ?_
  rintro ⟨⟨out1, s_⟩, n2⟩ hn2 J2 hJ2
  obtain ⟨m2, lr1, rfl, hf1, hl1⟩ := loopE hn2
  try unfold ref09_Map_L2 at hf1
  rcases bifE hf1 with ⟨c0, hf1⟩ | ⟨c0, hf1⟩
  ·refine awpAt X0 TTab_ok hC hm [3,4,5,6,7] 4000 [aLn r_.length, bT, .cut 0] (sub [1,1,1,1,1,2,1,0,0,1] bd_ref09_Map) (frs [1,1,1,1,1,2,1,0,0,1] [J1, J2] bd_ref09_Map []) [(3, .own (eOs 1 false (eI .i64) r_)), (4, .own (eOs 1 false (eI .i64) r_1)), (5, .own (eOs 1 true eB r_2)), (6, .own (eOs 1 false (eI .i64) out1)), (7, .d (I s_))] [ob (lnM (eI .i64) r_), ob c0] (by kernel_rfl) fun st0 h0 => ?_
   refine awpJoin' (X := List Int) (x := (sub [1,1,1,1,1,2,1,0,0,1,2] bd_ref09_Map)) (y := (sub [1,1,1,1,1,2,1,0,0,1,1] bd_ref09_Map)) (by kernel_rfl) [3,4,5,6,7] [3,4,5,6,7] _ h0 (fun z => ref09_Map_J3 s_ z = some lr1) (fun z => ST_ref09_Map_J3 r_ r_1 r_2 s_ z) ?_ fun J3 hJ3 => ?_
   ·rintro out2 hf1
    unfold ref09_Map_J3 at hf1
    obtain rfl := someE hf1
    exact awpBack X0 TTab_ok hC hm [3,4,5,6,7] 4000 [] J2 [(3, .own (eOs 1 false (eI .i64) r_)), (4, .own (eOs 1 false (eI .i64) r_1)), (5, .own (eOs 1 true eB r_2)), (6, .own (eOs 1 false (eI .i64) out2)), (7, .d (I (w64 (s_ + 1))))] [] (by kernel_rfl) fun st0 h0 => hJ2 st0 _ ((out2, w64 (s_ + 1)), m2) hl1 (Nat.lt_succ_self m2) h0 inferInstance
   ·refine awpAt X0 TTab_ok hC hm [3,4,5,6,7,8] 4000 [.cut 1] (sub [1,1,1,1,1,2,1,0,0,1,2,0,1] bd_ref09_Map) (frs [1,1,1,1,1,2,1,0,0,1,2,0,1] [J1, J2, J3] bd_ref09_Map []) [(3, .own (eOs 1 false (eI .i64) r_)), (4, .own (eOs 1 false (eI .i64) r_1)), (5, .own (eOs 1 true eB r_2)), (6, .own (eOs 1 false (eI .i64) out1)), (7, .d (I s_)), (8, .d (I (-1)))] [] (by kernel_rfl) fun st0 h0 => ?_
    refine awpJoin' (X := Int) (x := (sub [1,1,1,1,1,2,1,0,0,1,2,0,1,2] bd_ref09_Map)) (y := (sub [1,1,1,1,1,2,1,0,0,1,2,0,1,1] bd_ref09_Map)) (by kernel_rfl) [3,4,5,6,7,8] [3,4,5,6,7,8] _ h0 (fun z => ref09_Map_J4 out1 s_ z = some lr1) (fun z => ST_ref09_Map_J4 r_ r_1 r_2 out1 s_ z) ?_ fun J4 hJ4 => ?_
    ·rintro k_ hf1
     unfold ref09_Map_J4 at hf1
     obtain ⟨g0, hf1⟩ := gdE hf1
     have o3 := aM (eI .i64) out1 ([k_] : List Int)
     exact awpBack X0 TTab_ok hC hm [3,4,5,6,7] 4000 [bT, .l ((out1 ++ ([k_] : List Int)).map (eI .i64))] J3 [(3, .own (eOs 1 false (eI .i64) r_)), (4, .own (eOs 1 false (eI .i64) r_1)), (5, .own (eOs 1 true eB r_2)), (6, .own (eOs 1 false (eI .i64) (out1 ++ ([k_] : List Int)))), (7, .d (I s_))] [ob (dM (eI .i64) ([k_] : List Int)), ob (dM (eI .i64) ([k_] : List Int)), ob (aL (eI .i64) (eI .i64) g0), ob o3] (by kernel_rfl) fun st0 h0 => hJ3 st0 _ (out1 ++ ([k_] : List Int)) hf1 h0 inferInstance
    ·obtain ⟨t5, ht5, hf1⟩ := bindE hf1
     refine awpAt X0 TTab_ok hC hm [3,4,5,6,7,8,9] 4000 [] (sub [1,1,1,1,1,2,1,0,0,1,2,0,1,2,1,0] bd_ref09_Map) (frs [1,1,1,1,1,2,1,0,0,1,2,0,1,2,1,0] [J1, J2, J3, J4] bd_ref09_Map []) [(3, .own (eOs 1 false (eI .i64) r_)), (4, .own (eOs 1 false (eI .i64) r_1)), (5, .own (eOs 1 true eB r_2)), (6, .own (eOs 1 false (eI .i64) out1)), (7, .d (I s_)), (8, .d (I (-1))), (9, .d (I 0))] [] (by kernel_rfl) fun st0 h0 => ?_
     refine awpLoop' (X := (Int × Int) × Nat) (c' := (sub [1,1,1,1,1,2,1,0,0,1,2,0,1,2,1,0,0] bd_ref09_Map)) (by kernel_rfl) [3,4,5,6,7,8,9] (fun x => loopN (fun s => ref09_Map_L5 r_ r_1 r_2 s_ s.1 s.2) x.2 x.1 = some t5) (fun x => x.2) (fun x => ST_ref09_Map_L5 r_ r_1 r_2 out1 s_ x.1.1 x.1.2) (((-1), 0), fuel) _ h0 inferInstance ht5 ?_
     rintro ⟨⟨k_1, n_⟩, n5⟩ hn5 J5 hJ5
     obtain ⟨m5, lr2, rfl, hf2, hl2⟩ := loopE hn5
     try unfold ref09_Map_L5 at hf2
     rcases bifE hf2 with ⟨c1, hf2⟩ | ⟨c1, hf2⟩
     ·refine awpAt X0 TTab_ok hC hm [3,4,5,6,7,8,9] 4000 [aLn r_1.length, bT, .cut 0] (sub [1,1,1,1,1,2,1,0,0,1,2,0,1,2,1,0,0,1] bd_ref09_Map) (frs [1,1,1,1,1,2,1,0,0,1,2,0,1,2,1,0,0,1] [J1, J2, J3, J4, J5] bd_ref09_Map []) [(3, .own (eOs 1 false (eI .i64) r_)), (4, .own (eOs 1 false (eI .i64) r_1)), (5, .own (eOs 1 true eB r_2)), (6, .own (eOs 1 false (eI .i64) out1)), (7, .d (I s_)), (8, .d (I k_1)), (9, .d (I n_))] [ob (lnM (eI .i64) r_1), ob c1] (by kernel_rfl) fun st0 h0 => ?_
      refine awpJoin' (X := Int) (x := (sub [1,1,1,1,1,2,1,0,0,1,2,0,1,2,1,0,0,1,2] bd_ref09_Map)) (y := (sub [1,1,1,1,1,2,1,0,0,1,2,0,1,2,1,0,0,1,1] bd_ref09_Map)) (by kernel_rfl) [3,4,5,6,7,8,9] [3,4,5,6,7,8,9] _ h0 (fun z => ref09_Map_J6 n_ z = some lr2) (fun z => ST_ref09_Map_J6 r_ r_1 r_2 out1 s_ n_ z) ?_ fun J6 hJ6 => ?_
      ·rintro k_2 hf2
       unfold ref09_Map_J6 at hf2
       obtain rfl := someE hf2
       exact awpBack X0 TTab_ok hC hm [3,4,5,6,7,8,9] 4000 [] J5 [(3, .own (eOs 1 false (eI .i64) r_)), (4, .own (eOs 1 false (eI .i64) r_1)), (5, .own (eOs 1 true eB r_2)), (6, .own (eOs 1 false (eI .i64) out1)), (7, .d (I s_)), (8, .d (I k_2)), (9, .d (I (w64 (n_ + 1))))] [] (by kernel_rfl) fun st0 h0 => hJ5 st0 _ ((k_2, w64 (n_ + 1)), m5) hl2 (Nat.lt_succ_self m5) h0 inferInstance
      ·obtain ⟨r__e, h3, hf2⟩ := bindE hf2
       rcases bifE hf2 with ⟨c2, hf2⟩ | ⟨c2, hf2⟩
       ·obtain ⟨r__e1, h4, hf2⟩ := bindE hf2
        obtain ⟨r__e2, h5, hf2⟩ := bindE hf2
        obtain ⟨r__e3, h6, hf2⟩ := bindE hf2
        rcases bifE hf2 with ⟨c3, hf2⟩ | ⟨c3, hf2⟩
        ·exact awpBack X0 TTab_ok hC hm [3,4,5,6,7,8,9] 4000 (.a (eB r__e) :: (rpN 5 bT (.a ((eI .i64) r__e1) :: bT :: bT :: .a ((eI .i64) r__e2) :: (rpN 4 bT [.a ((eI .i64) r__e3), bT, bT, bT])))) J6 [(3, .own (eOs 1 false (eI .i64) r_)), (4, .own (eOs 1 false (eI .i64) r_1)), (5, .own (eOs 1 true eB r_2)), (6, .own (eOs 1 false (eI .i64) out1)), (7, .d (I s_)), (8, .d (I n_)), (9, .d (I n_))] (ob (iL eB h3) :: ob (iM eB h3) :: (rpN 4 (ob c2) [ob (iL (eI .i64) h4), ob c2, ob (iM (eI .i64) h4), ob c2, ob (iL (eI .i64) h5), ob c2, ob (iM (eI .i64) h5), ob c2, ob c2, ob c2, ob (iL (eI .i64) h6), ob c2, ob (iM (eI .i64) h6), ob c2, ob c2, ob c3])) (by kernel_rfl) fun st0 h0 => hJ6 st0 _ n_ hf2 h0 inferInstance
        ·exact awpBack X0 TTab_ok hC hm [3,4,5,6,7,8,9] 4000 (.a (eB r__e) :: (rpN 5 bT (.a ((eI .i64) r__e1) :: bT :: bT :: .a ((eI .i64) r__e2) :: (rpN 4 bT [.a ((eI .i64) r__e3), bT, bT, bF])))) J6 [(3, .own (eOs 1 false (eI .i64) r_)), (4, .own (eOs 1 false (eI .i64) r_1)), (5, .own (eOs 1 true eB r_2)), (6, .own (eOs 1 false (eI .i64) out1)), (7, .d (I s_)), (8, .d (I k_1)), (9, .d (I n_))] (ob (iL eB h3) :: ob (iM eB h3) :: (rpN 4 (ob c2) [ob (iL (eI .i64) h4), ob c2, ob (iM (eI .i64) h4), ob c2, ob (iL (eI .i64) h5), ob c2, ob (iM (eI .i64) h5), ob c2, ob c2, ob c2, ob (iL (eI .i64) h6), ob c2, ob (iM (eI .i64) h6), ob c2, ob c2, ob c3])) (by kernel_rfl) fun st0 h0 => hJ6 st0 _ k_1 hf2 h0 inferInstance
       ·exact awpBack X0 TTab_ok hC hm [3,4,5,6,7,8,9] 4000 (.a (eB r__e) :: (rpN 14 bF [])) J6 [(3, .own (eOs 1 false (eI .i64) r_)), (4, .own (eOs 1 false (eI .i64) r_1)), (5, .own (eOs 1 true eB r_2)), (6, .own (eOs 1 false (eI .i64) out1)), (7, .d (I s_)), (8, .d (I k_1)), (9, .d (I n_))] (ob (iL eB h3) :: ob (iM eB h3) :: (rpN 13 (ob c2) [oF])) (by kernel_rfl) fun st0 h0 => hJ6 st0 _ k_1 hf2 h0 inferInstance
     ·obtain rfl := someE hf2
      obtain rfl := hl2
      exact awpBack X0 TTab_ok hC hm [3,4,5,6,7,8] 4000 [aLn r_1.length, bF] J4 [(3, .own (eOs 1 false (eI .i64) r_)), (4, .own (eOs 1 false (eI .i64) r_1)), (5, .own (eOs 1 true eB r_2)), (6, .own (eOs 1 false (eI .i64) out1)), (7, .d (I s_)), (8, .d (I k_1))] [ob (lnM (eI .i64) r_1), ob c1] (by kernel_rfl) fun st0 h0 => hJ4 st0 _ k_1 hf1 h0 inferInstance
  ·obtain rfl := someE hf1
   obtain rfl := hl1
   exact awpBack X0 TTab_ok hC hm [6] 4000 [aLn r_.length, bF] J1 [(6, .own (eOs 1 false (eI .i64) out1))] [ob (lnM (eI .i64) r_), ob c0] (by kernel_rfl) fun st0 h0 => hJ1 st0 _ out1 hf0 h0 inferInstance
noncomputable def bd_ref09_Minimal : Code := (Try.f39.body).getD .skip
noncomputable def sp_ref09_Minimal : Spec := spF (α := S_api_Machine) (ρ := S_api_Machine) 39 (fun x => [F22_ x]) (fun r => F22_ r) (fun x => ref09_Minimal x) [] (by
 rintro a0 b0 h
 simp only [List.cons.injEq, and_true] at h
 have e0 := EncI.inj (f := F22_) _ _ h
 subst e0
 rfl)
abbrev ST_ref09_Minimal_J1 (m_ : S_api_Machine) (out_Rows : List (List S_api_Edge)) : List (Nat × T) := [(2, .own (.box (.agg [I 0, I 0, eOs 1 true F13_ []]))), (5, .own (.box (.agg [I m_.Inputs, I m_.Outputs, eOs 1 false F14_ out_Rows])))]
abbrev ST_ref09_Minimal_J3 (m_ : S_api_Machine) (r_ : List Int) (r_1 : List Int) (k_ : Int) (out_Rows2 : List (List S_api_Edge)) : List (Nat × T) := [(1, .own (.box (F22_ m_))), (2, .own (.box (.agg [I 0, I 0, eOs 1 true F13_ []]))), (3, .own (eOs 1 false (eI .i64) r_)), (4, .own (eOs 1 false (eI .i64) r_1)), (5, .own (.box (.agg [I m_.Inputs, I m_.Outputs, eOs 1 false F14_ out_Rows2]))), (6, .d (I k_))]
abbrev ST_ref09_Minimal_J4 (m_ : S_api_Machine) (r_ : List Int) (r_1 : List Int) (out_Rows1 : List (List S_api_Edge)) (k_ : Int) (row : List S_api_Edge) : List (Nat × T) := [(1, .own (.box (F22_ m_))), (2, .own (.box (.agg [I 0, I 0, eOs 1 true F13_ []]))), (3, .own (eOs 1 false (eI .i64) r_)), (4, .own (eOs 1 false (eI .i64) r_1)), (5, .own (.box (.agg [I m_.Inputs, I m_.Outputs, eOs 1 false F14_ out_Rows1]))), (6, .d (I k_)), (7, .own (eOs 2 false F9_ row))]
abbrev ST_ref09_Minimal_J6 (m_ : S_api_Machine) (r_ : List Int) (r_1 : List Int) (out_Rows1 : List (List S_api_Edge)) (k_ : Int) (row1 : List S_api_Edge) (i_ : Int) (Row_e_e : S_api_Edge) (x_To : Int) : List (Nat × T) := [(1, .own (.box (F22_ m_))), (2, .own (.box (.agg [I 0, I 0, eOs 1 true F13_ []]))), (3, .own (eOs 1 false (eI .i64) r_)), (4, .own (eOs 1 false (eI .i64) r_1)), (5, .own (.box (.agg [I m_.Inputs, I m_.Outputs, eOs 1 false F14_ out_Rows1]))), (6, .d (I k_)), (7, .own (eOs 2 false F9_ row1)), (8, .d (I i_)), (9, .own (.box (.agg [I x_To, I Row_e_e.Out])))]
abbrev ST_ref09_Minimal_L5 (m_ : S_api_Machine) (r_ : List Int) (r_1 : List Int) (out_Rows1 : List (List S_api_Edge)) (k_ : Int) (row1 : List S_api_Edge) (i_ : Int) : List (Nat × T) := [(1, .own (.box (F22_ m_))), (2, .own (.box (.agg [I 0, I 0, eOs 1 true F13_ []]))), (3, .own (eOs 1 false (eI .i64) r_)), (4, .own (eOs 1 false (eI .i64) r_1)), (5, .own (.box (.agg [I m_.Inputs, I m_.Outputs, eOs 1 false F14_ out_Rows1]))), (6, .d (I k_)), (7, .own (eOs 2 false F9_ row1)), (8, .d (I i_))]
abbrev ST_ref09_Minimal_L2 (m_ : S_api_Machine) (r_ : List Int) (r_1 : List Int) (out_Rows1 : List (List S_api_Edge)) (k_ : Int) : List (Nat × T) := [(1, .own (.box (F22_ m_))), (2, .own (.box (.agg [I 0, I 0, eOs 1 true F13_ []]))), (3, .own (eOs 1 false (eI .i64) r_)), (4, .own (eOs 1 false (eI .i64) r_1)), (5, .own (.box (.agg [I m_.Inputs, I m_.Outputs, eOs 1 false F14_ out_Rows1]))), (6, .d (I k_))]
theorem w_ref09_Minimal {ctr : Ctr} (hC : CtrOk Try.prog ctr) (hm : Try.prog.follows .mixedOrders = true) (h_ref09_Firsts : ctr.Has sp_ref09_Firsts) (h_ref09_Map : ctr.Has sp_ref09_Map) : sp_ref09_Minimal.Ok Try.prog := by
 refine spF_ok ?_
 rintro m_ r0 hf0
 try unfold ref09_Minimal at hf0
 refine callOk_h (tt := TTab) (keep := false) (rs := [(2, some 34)]) (n := ⟨62, []⟩) (body := bd_ref09_Minimal) TTab_ok Try.func39 rfl (by kernel_rfl) rfl rfl (by show (1 : Nat) ≤ 62; decide) fun E hE => ?_
 obtain ⟨r_, h0, hf0⟩ := bindE hf0
 have o0 := hasF h_ref09_Firsts (x := m_) h0 (loC F22_ m_ <| loN)
 obtain ⟨r_1, h1, hf0⟩ := bindE hf0
 have o1 := hasF h_ref09_Map (x := m_) h1 (loC F22_ m_ <| loN)
 refine awpAt X0 TTab_ok hC hm [1,2,3,4,5] 4000 [.g [], .a (F4_ r_), .g [], .a (F4_ r_1), .cut 1] (sub [1,1,1,1] bd_ref09_Minimal) (frs [1,1,1,1] [] bd_ref09_Minimal []) [(1, .own (.box (F22_ m_))), (2, .own (.box (.agg [I 0, I 0, eOs 1 true F13_ []]))), (3, .own (eOs 1 false (eI .i64) r_)), (4, .own (eOs 1 false (eI .i64) r_1)), (5, .own (.box (.agg [I m_.Inputs, I m_.Outputs, eOs 1 true F13_ []])))] [ob (hasG h_ref09_Firsts), ob o0, ob (hasG h_ref09_Map), ob o1] (by kernel_rfl) fun st0 h0 => ?_
 refine awpJoin' (X := List (List S_api_Edge)) (x := (sub [1,1,1,1,2] bd_ref09_Minimal)) (y := (sub [1,1,1,1,1] bd_ref09_Minimal)) (by kernel_rfl) [2,5] [1,2,3,4,5] _ h0 (fun z => ref09_Minimal_J1 m_ z = some r0) (fun z => ST_ref09_Minimal_J1 m_ z) ?_ fun J1 hJ1 => ?_
 ·rintro out_Rows hf0
  unfold ref09_Minimal_J1 at hf0
  have o2 := shM F14_ F13_ out_Rows
  obtain rfl := someE hf0
  exact awpEnd X0 TTab_ok hC hm hE 4000 (hs := [.l (out_Rows.map F13_)]) (x := (.agg [I m_.Inputs, I m_.Outputs, eSl 1 false F13_ out_Rows])) [ob o2] (by kernel_rfl) (LeV.refl _)
 ·obtain ⟨t2, ht2, hf0⟩ := bindE hf0
  refine awpAt X0 TTab_ok hC hm [1,2,3,4,5,6] 4000 [] (sub [1,1,1,1,2,1,0] bd_ref09_Minimal) (frs [1,1,1,1,2,1,0] [J1] bd_ref09_Minimal []) [(1, .own (.box (F22_ m_))), (2, .own (.box (.agg [I 0, I 0, eOs 1 true F13_ []]))), (3, .own (eOs 1 false (eI .i64) r_)), (4, .own (eOs 1 false (eI .i64) r_1)), (5, .own (.box (.agg [I m_.Inputs, I m_.Outputs, eOs 1 true F14_ []]))), (6, .d (I 0))] [] (by kernel_rfl) fun st0 h0 => ?_
  refine awpLoop' (X := (List (List S_api_Edge) × Int) × Nat) (c' := (sub [1,1,1,1,2,1,0,0] bd_ref09_Minimal)) (by kernel_rfl) [1,2,3,4,5,6] (fun x => loopN (fun s => ref09_Minimal_L2 m_ r_ r_1 s.1 s.2) x.2 x.1 = some t2) (fun x => x.2) (fun x => ST_ref09_Minimal_L2 m_ r_ r_1 x.1.1 x.1.2) ((([] : List (List S_api_Edge)), 0), fuel) _ h0 inferInstance ht2 ?_
  rintro ⟨⟨out_Rows1, k_⟩, n2⟩ hn2 J2 hJ2
  obtain ⟨m2, lr1, rfl, hf1, hl1⟩ := loopE hn2
  try unfold ref09_Minimal_L2 at hf1
  rcases bifE hf1 with ⟨c0, hf1⟩ | ⟨c0, hf1⟩
  ·refine awpAt X0 TTab_ok hC hm [1,2,3,4,5,6] 4000 [aLn r_.length, bT, .cut 0] (sub [1,1,1,1,2,1,0,0,1] bd_ref09_Minimal) (frs [1,1,1,1,2,1,0,0,1] [J1, J2] bd_ref09_Minimal []) [(1, .own (.box (F22_ m_))), (2, .own (.box (.agg [I 0, I 0, eOs 1 true F13_ []]))), (3, .own (eOs 1 false (eI .i64) r_)), (4, .own (eOs 1 false (eI .i64) r_1)), (5, .own (.box (.agg [I m_.Inputs, I m_.Outputs, eOs 1 false F14_ out_Rows1]))), (6, .d (I k_))] [ob (lnM (eI .i64) r_), ob c0] (by kernel_rfl) fun st0 h0 => ?_
   refine awpJoin' (X := List (List S_api_Edge)) (x := (sub [1,1,1,1,2,1,0,0,1,2] bd_ref09_Minimal)) (y := (sub [1,1,1,1,2,1,0,0,1,1] bd_ref09_Minimal)) (by kernel_rfl) [1,2,3,4,5,6] [1,2,3,4,5,6] _ h0 (fun z => ref09_Minimal_J3 k_ z = some lr1) (fun z => ST_ref09_Minimal_J3 m_ r_ r_1 k_ z) ?_ fun J3 hJ3 => ?_
   ·rintro out_Rows2 hf1
    unfold ref09_Minimal_J3 at hf1
    obtain rfl := someE hf1
    exact awpBack X0 TTab_ok hC hm [1,2,3,4,5,6] 4000 [] J2 [(1, .own (.box (F22_ m_))), (2, .own (.box (.agg [I 0, I 0, eOs 1 true F13_ []]))), (3, .own (eOs 1 false (eI .i64) r_)), (4, .own (eOs 1 false (eI .i64) r_1)), (5, .own (.box (.agg [I m_.Inputs, I m_.Outputs, eOs 1 false F14_ out_Rows2]))), (6, .d (I (w64 (k_ + 1))))] [] (by kernel_rfl) fun st0 h0 => hJ2 st0 _ ((out_Rows2, w64 (k_ + 1)), m2) hl1 (Nat.lt_succ_self m2) h0 inferInstance
   ·refine awpAt X0 TTab_ok hC hm [1,2,3,4,5,6,7] 4000 [.cut 1] (sub [1,1,1,1,2,1,0,0,1,2,0,1] bd_ref09_Minimal) (frs [1,1,1,1,2,1,0,0,1,2,0,1] [J1, J2, J3] bd_ref09_Minimal []) [(1, .own (.box (F22_ m_))), (2, .own (.box (.agg [I 0, I 0, eOs 1 true F13_ []]))), (3, .own (eOs 1 false (eI .i64) r_)), (4, .own (eOs 1 false (eI .i64) r_1)), (5, .own (.box (.agg [I m_.Inputs, I m_.Outputs, eOs 1 false F14_ out_Rows1]))), (6, .d (I k_)), (7, .own (eOs 2 true F9_ []))] [] (by kernel_rfl) fun st0 h0 => ?_
    refine awpJoin' (X := List S_api_Edge) (x := (sub [1,1,1,1,2,1,0,0,1,2,0,1,2] bd_ref09_Minimal)) (y := (sub [1,1,1,1,2,1,0,0,1,2,0,1,1] bd_ref09_Minimal)) (by kernel_rfl) [1,2,3,4,5,6,7] [1,2,3,4,5,6,7] _ h0 (fun z => ref09_Minimal_J4 out_Rows1 k_ z = some lr1) (fun z => ST_ref09_Minimal_J4 m_ r_ r_1 out_Rows1 k_ z) ?_ fun J4 hJ4 => ?_
    ·rintro row hf1
     unfold ref09_Minimal_J4 at hf1
     have o3 := oC F14_ row []
     obtain ⟨g0, hf1⟩ := gdE hf1
     have o4 := aL F14_ F14_ g0
     have o5 := aM F14_ out_Rows1 ([row] : List (List S_api_Edge))
     exact awpBack X0 TTab_ok hC hm [1,2,3,4,5,6] 4000 [bF, .l ((out_Rows1 ++ ([row] : List (List S_api_Edge))).map F14_)] J3 [(1, .own (.box (F22_ m_))), (2, .own (.box (.agg [I 0, I 0, eOs 1 true F13_ []]))), (3, .own (eOs 1 false (eI .i64) r_)), (4, .own (eOs 1 false (eI .i64) r_1)), (5, .own (.box (.agg [I m_.Inputs, I m_.Outputs, eOs 1 false F14_ (out_Rows1 ++ ([row] : List (List S_api_Edge)))]))), (6, .d (I k_))] [ob o3, ob o4, ob o5] (by kernel_rfl) fun st0 h0 => hJ3 st0 _ (out_Rows1 ++ ([row] : List (List S_api_Edge))) hf1 h0 inferInstance
    ·obtain ⟨t5, ht5, hf1⟩ := bindE hf1
     refine awpAt X0 TTab_ok hC hm [1,2,3,4,5,6,7,8] 4000 [] (sub [1,1,1,1,2,1,0,0,1,2,0,1,2,1,0] bd_ref09_Minimal) (frs [1,1,1,1,2,1,0,0,1,2,0,1,2,1,0] [J1, J2, J3, J4] bd_ref09_Minimal []) [(1, .own (.box (F22_ m_))), (2, .own (.box (.agg [I 0, I 0, eOs 1 true F13_ []]))), (3, .own (eOs 1 false (eI .i64) r_)), (4, .own (eOs 1 false (eI .i64) r_1)), (5, .own (.box (.agg [I m_.Inputs, I m_.Outputs, eOs 1 false F14_ out_Rows1]))), (6, .d (I k_)), (7, .own (eOs 2 true F9_ [])), (8, .d (I 0))] [] (by kernel_rfl) fun st0 h0 => ?_
     refine awpLoop' (X := (List S_api_Edge × Int) × Nat) (c' := (sub [1,1,1,1,2,1,0,0,1,2,0,1,2,1,0,0] bd_ref09_Minimal)) (by kernel_rfl) [1,2,3,4,5,6,7,8] (fun x => loopN (fun s => ref09_Minimal_L5 m_ r_ r_1 k_ s.1 s.2) x.2 x.1 = some t5) (fun x => x.2) (fun x => ST_ref09_Minimal_L5 m_ r_ r_1 out_Rows1 k_ x.1.1 x.1.2) ((([] : List S_api_Edge), 0), fuel) _ h0 inferInstance ht5 ?_
     rintro ⟨⟨row1, i_⟩, n5⟩ hn5 J5 hJ5
     obtain ⟨m5, lr2, rfl, hf2, hl2⟩ := loopE hn5
     try unfold ref09_Minimal_L5 at hf2
     rcases bifE hf2 with ⟨c1, hf2⟩ | ⟨c1, hf2⟩
     ·obtain ⟨r__e, h2, hf2⟩ := bindE hf2
      obtain ⟨Row_e, h3, hf2⟩ := bindE hf2
      have o6 := iM F13_ h3
      obtain ⟨Row_e_e, h4, hf2⟩ := bindE hf2
      have o7 := iM F9_ h4
      refine awpAt X0 TTab_ok hC hm [1,2,3,4,5,6,7,8,9] 4000 [bT, .a ((eI .i64) r__e), .a (F13_ Row_e), .a (F9_ Row_e_e), .cut 0] (sub [1,1,1,1,2,1,0,0,1,2,0,1,2,1,0,0,1,0,0,1] bd_ref09_Minimal) (frs [1,1,1,1,2,1,0,0,1,2,0,1,2,1,0,0,1,0,0,1] [J1, J2, J3, J4, J5] bd_ref09_Minimal []) [(1, .own (.box (F22_ m_))), (2, .own (.box (.agg [I 0, I 0, eOs 1 true F13_ []]))), (3, .own (eOs 1 false (eI .i64) r_)), (4, .own (eOs 1 false (eI .i64) r_1)), (5, .own (.box (.agg [I m_.Inputs, I m_.Outputs, eOs 1 false F14_ out_Rows1]))), (6, .d (I k_)), (7, .own (eOs 2 false F9_ row1)), (8, .d (I i_)), (9, .own (.box (F9_ Row_e_e)))] [ob c1, ob (iL (eI .i64) h2), ob (iM (eI .i64) h2), ob (i0 h3), ob o6, ob (i0 h4), ob o7] (by kernel_rfl) fun st0 h0 => ?_
      refine awpJoin' (X := Int) (x := (sub [1,1,1,1,2,1,0,0,1,2,0,1,2,1,0,0,1,0,0,1,2] bd_ref09_Minimal)) (y := (sub [1,1,1,1,2,1,0,0,1,2,0,1,2,1,0,0,1,0,0,1,1] bd_ref09_Minimal)) (by kernel_rfl) [1,2,3,4,5,6,7,8,9] [1,2,3,4,5,6,7,8,9] _ h0 (fun z => ref09_Minimal_J6 row1 i_ Row_e_e z = some lr2) (fun z => ST_ref09_Minimal_J6 m_ r_ r_1 out_Rows1 k_ row1 i_ Row_e_e z) ?_ fun J6 hJ6 => ?_
      ·rintro x_To hf2
       unfold ref09_Minimal_J6 at hf2
       have o8 := dM F9_ ([(S_api_Edge.mk x_To Row_e_e.Out)] : List S_api_Edge)
       have o9 := dM F9_ ([(S_api_Edge.mk x_To Row_e_e.Out)] : List S_api_Edge)
       obtain ⟨g1, hf2⟩ := gdE hf2
       have o10 := aL F9_ F9_ g1
       have o11 := aM F9_ row1 ([(S_api_Edge.mk x_To Row_e_e.Out)] : List S_api_Edge)
       obtain rfl := someE hf2
       exact awpBack X0 TTab_ok hC hm [1,2,3,4,5,6,7,8] 4000 [bT, .l ((row1 ++ ([(S_api_Edge.mk x_To Row_e_e.Out)] : List S_api_Edge)).map F9_)] J5 [(1, .own (.box (F22_ m_))), (2, .own (.box (.agg [I 0, I 0, eOs 1 true F13_ []]))), (3, .own (eOs 1 false (eI .i64) r_)), (4, .own (eOs 1 false (eI .i64) r_1)), (5, .own (.box (.agg [I m_.Inputs, I m_.Outputs, eOs 1 false F14_ out_Rows1]))), (6, .d (I k_)), (7, .own (eOs 2 false F9_ (row1 ++ ([(S_api_Edge.mk x_To Row_e_e.Out)] : List S_api_Edge)))), (8, .d (I (w64 (i_ + 1))))] [ob o8, ob o9, ob o10, ob o11] (by kernel_rfl) fun st0 h0 => hJ5 st0 _ (((row1 ++ ([(S_api_Edge.mk x_To Row_e_e.Out)] : List S_api_Edge)), w64 (i_ + 1)), m5) hl2 (Nat.lt_succ_self m5) h0 inferInstance
      ·rcases bifE hf2 with ⟨c2, hf2⟩ | ⟨c2, hf2⟩
       ·obtain ⟨r__e1, h5, hf2⟩ := bindE hf2
        exact awpBack X0 TTab_ok hC hm [1,2,3,4,5,6,7,8,9] 4000 [bT, .a ((eI .i64) r__e1)] J6 [(1, .own (.box (F22_ m_))), (2, .own (.box (.agg [I 0, I 0, eOs 1 true F13_ []]))), (3, .own (eOs 1 false (eI .i64) r_)), (4, .own (eOs 1 false (eI .i64) r_1)), (5, .own (.box (.agg [I m_.Inputs, I m_.Outputs, eOs 1 false F14_ out_Rows1]))), (6, .d (I k_)), (7, .own (eOs 2 false F9_ row1)), (8, .d (I i_)), (9, .own (.box (.agg [I r__e1, I Row_e_e.Out])))] [ob c2, ob (iL (eI .i64) h5), ob (iM (eI .i64) h5)] (by kernel_rfl) fun st0 h0 => hJ6 st0 _ r__e1 hf2 h0 inferInstance
       ·exact awpBack X0 TTab_ok hC hm [1,2,3,4,5,6,7,8,9] 4000 [bF] J6 [(1, .own (.box (F22_ m_))), (2, .own (.box (.agg [I 0, I 0, eOs 1 true F13_ []]))), (3, .own (eOs 1 false (eI .i64) r_)), (4, .own (eOs 1 false (eI .i64) r_1)), (5, .own (.box (.agg [I m_.Inputs, I m_.Outputs, eOs 1 false F14_ out_Rows1]))), (6, .d (I k_)), (7, .own (eOs 2 false F9_ row1)), (8, .d (I i_)), (9, .own (.box (.agg [I Row_e_e.To, I Row_e_e.Out])))] [ob c2] (by kernel_rfl) fun st0 h0 => hJ6 st0 _ Row_e_e.To hf2 h0 inferInstance
     ·obtain rfl := someE hf2
      obtain rfl := hl2
      exact awpBack X0 TTab_ok hC hm [1,2,3,4,5,6,7] 4000 [bF] J4 [(1, .own (.box (F22_ m_))), (2, .own (.box (.agg [I 0, I 0, eOs 1 true F13_ []]))), (3, .own (eOs 1 false (eI .i64) r_)), (4, .own (eOs 1 false (eI .i64) r_1)), (5, .own (.box (.agg [I m_.Inputs, I m_.Outputs, eOs 1 false F14_ out_Rows1]))), (6, .d (I k_)), (7, .own (eOs 2 false F9_ row1))] [ob c1] (by kernel_rfl) fun st0 h0 => hJ4 st0 _ row1 hf1 h0 inferInstance
  ·obtain rfl := someE hf1
   obtain rfl := hl1
   exact awpBack X0 TTab_ok hC hm [2,5] 4000 [aLn r_.length, bF] J1 [(2, .own (.box (.agg [I 0, I 0, eOs 1 true F13_ []]))), (5, .own (.box (.agg [I m_.Inputs, I m_.Outputs, eOs 1 false F14_ out_Rows1])))] [ob (lnM (eI .i64) r_), ob c0] (by kernel_rfl) fun st0 h0 => hJ1 st0 _ out_Rows1 hf0 h0 inferInstance
noncomputable def bd_ref04_Same : Code := (Try.f40.body).getD .skip
noncomputable def sp_ref04_Same : Spec := spF (α := S_api_Machine × S_api_Machine) (ρ := Bool) 40 (fun x => [F22_ x.1, F22_ x.2]) (fun r => eB r) (fun x => ref04_Same x.1 x.2) [] (by
 rintro ⟨a0, a1⟩ ⟨b0, b1⟩ h
 simp only [List.cons.injEq, and_true] at h
 have e0 := EncI.inj (f := F22_) _ _ h.1
 have e1 := EncI.inj (f := F22_) _ _ h.2
 subst e0 e1
 rfl)
abbrev ST_ref04_Same_J1 : List (Nat × T) := []
abbrev ST_ref04_Same_J3 (a_ : S_api_Machine) (b_ : S_api_Machine) (s_ : Int) : List (Nat × T) := [(2, .own (.box (F22_ a_))), (3, .own (.box (F22_ b_))), (5, .d (I s_))]
abbrev ST_ref04_Same_L4 (a_ : S_api_Machine) (b_ : S_api_Machine) (s_ : Int) (i_ : Int) : List (Nat × T) := [(2, .own (.box (F22_ a_))), (3, .own (.box (F22_ b_))), (5, .d (I s_)), (6, .d (I i_))]
abbrev ST_ref04_Same_L2 (a_ : S_api_Machine) (b_ : S_api_Machine) (s_ : Int) : List (Nat × T) := [(2, .own (.box (F22_ a_))), (3, .own (.box (F22_ b_))), (5, .d (I s_))]
theorem w_ref04_Same {ctr : Ctr} (hC : CtrOk Try.prog ctr) (hm : Try.prog.follows .mixedOrders = true) : sp_ref04_Same.Ok Try.prog := by
 refine spF_ok ?_
 rintro ⟨a_, b_⟩ r0 hf0
 try unfold ref04_Same at hf0
 refine callOk_h (tt := TTab) (keep := true) (rs := [(4, none)]) (n := ⟨75, []⟩) (body := bd_ref04_Same) TTab_ok Try.func40 rfl (by kernel_rfl) rfl rfl (by show (2 : Nat) ≤ 75; decide) fun E hE => ?_
 rcases bifE hf0 with ⟨c0, hf0⟩ | ⟨c0, hf0⟩
 ·obtain rfl := someE hf0
  exact awpEnd X0 TTab_ok hC hm hE 4000 (hs := (rpN 15 bT [])) (x := (B false)) (rpN 6 (ob c0) (rpN 9 oT [])) (by kernel_rfl) (LeV.refl _)
 ·rcases bifE hf0 with ⟨c1, hf0⟩ | ⟨c1, hf0⟩
  ·obtain rfl := someE hf0
   exact awpEnd X0 TTab_ok hC hm hE 4000 (hs := (rpN 6 bF (rpN 9 bT []))) (x := (B false)) (rpN 6 (ob c0) (rpN 8 (ob c1) [oT])) (by kernel_rfl) (LeV.refl _)
  ·have o0 := lnM F13_ a_.Rows
   have o1 := lnM F13_ b_.Rows
   rcases bifE hf0 with ⟨c2, hf0⟩ | ⟨c2, hf0⟩
   ·obtain rfl := someE hf0
    exact awpEnd X0 TTab_ok hC hm hE 4000 (hs := (rpN 9 bF [aLn a_.Rows.length, bF, bF, bF, aLn b_.Rows.length, bF, bF, bT])) (x := (B false)) (rpN 6 (ob c0) [ob c1, ob c1, ob c1, ob o0, ob c1, ob c1, ob c1, ob o1, ob c1, ob c1, ob c2]) (by kernel_rfl) (LeV.refl _)
   ·refine awpAt X0 TTab_ok hC hm [2,3] 4000 (rpN 9 bF [aLn a_.Rows.length, bF, bF, bF, aLn b_.Rows.length, bF, bF, bF, .cut 0]) (sub [1,1] bd_ref04_Same) (frs [1,1] [] bd_ref04_Same []) [(2, .own (.box (F22_ a_))), (3, .own (.box (F22_ b_)))] (rpN 6 (ob c0) [ob c1, ob c1, ob c1, ob o0, ob c1, ob c1, ob c1, ob o1, ob c1, ob c1, ob c2]) (by kernel_rfl) fun st0 h0 => ?_
    refine awpJoin' (X := Unit) (x := (sub [1,1,2] bd_ref04_Same)) (y := (sub [1,1,1] bd_ref04_Same)) (by kernel_rfl) [] [2,3] _ h0 (fun z => ref04_Same_J1 = some r0) (fun z => ST_ref04_Same_J1) ?_ fun J1 hJ1 => ?_
    ·rintro ⟨⟩ hf0
     unfold ref04_Same_J1 at hf0
     obtain rfl := someE hf0
     exact awpEnd X0 TTab_ok hC hm hE 4000 (hs := []) (x := (B true)) [] (by kernel_rfl) (LeV.refl _)
    ·obtain ⟨t2, ht2, hf0⟩ := bindE hf0
     refine awpAt X0 TTab_ok hC hm [2,3,5] 4000 [] (sub [1,1,2,1,0] bd_ref04_Same) (frs [1,1,2,1,0] [J1] bd_ref04_Same []) [(2, .own (.box (F22_ a_))), (3, .own (.box (F22_ b_))), (5, .d (I 0))] [] (by kernel_rfl) fun st0 h0 => ?_
     refine awpLoop' (X := Int × Nat) (c' := (sub [1,1,2,1,0,0] bd_ref04_Same)) (by kernel_rfl) [2,3,5] (fun x => loopN (fun s => ref04_Same_L2 a_ b_ s) x.2 x.1 = some t2) (fun x => x.2) (fun x => ST_ref04_Same_L2 a_ b_ x.1) (0, fuel) _ h0 inferInstance ht2 ?_
     rintro ⟨s_, n2⟩ hn2 J2 hJ2
     obtain ⟨m2, lr1, rfl, hf1, hl1⟩ := loopE hn2
     try unfold ref04_Same_L2 at hf1
     have o2 := lnM F13_ a_.Rows
     rcases bifE hf1 with ⟨c3, hf1⟩ | ⟨c3, hf1⟩
     ·refine awpAt X0 TTab_ok hC hm [2,3,5] 4000 [aLn a_.Rows.length, bT, .cut 0] (sub [1,1,2,1,0,0,1] bd_ref04_Same) (frs [1,1,2,1,0,0,1] [J1, J2] bd_ref04_Same []) [(2, .own (.box (F22_ a_))), (3, .own (.box (F22_ b_))), (5, .d (I s_))] [ob o2, ob c3] (by kernel_rfl) fun st0 h0 => ?_
      refine awpJoin' (X := Unit) (x := (sub [1,1,2,1,0,0,1,2] bd_ref04_Same)) (y := (sub [1,1,2,1,0,0,1,1] bd_ref04_Same)) (by kernel_rfl) [2,3,5] [2,3,5] _ h0 (fun z => ref04_Same_J3 s_ = some lr1) (fun z => ST_ref04_Same_J3 a_ b_ s_) ?_ fun J3 hJ3 => ?_
      ·rintro ⟨⟩ hf1
       unfold ref04_Same_J3 at hf1
       obtain rfl := someE hf1
       exact awpBack X0 TTab_ok hC hm [2,3,5] 4000 [] J2 [(2, .own (.box (F22_ a_))), (3, .own (.box (F22_ b_))), (5, .d (I (w64 (s_ + 1))))] [] (by kernel_rfl) fun st0 h0 => hJ2 st0 _ (w64 (s_ + 1), m2) hl1 (Nat.lt_succ_self m2) h0 inferInstance
      ·obtain ⟨Row_e, h0, hf1⟩ := bindE hf1
       have o3 := iM F13_ h0
       have o4 := lnM F9_ Row_e
       obtain ⟨Row_e1, h1, hf1⟩ := bindE hf1
       have o5 := iM F13_ h1
       have o6 := lnM F9_ Row_e1
       rcases bifE hf1 with ⟨c4, hf1⟩ | ⟨c4, hf1⟩
       ·obtain rfl := someE hf1
        obtain rfl := hl1
        obtain rfl := someE hf0
        exact awpEnd X0 TTab_ok hC hm hE 4000 (hs := [.a (F13_ Row_e), aLn Row_e.length, .a (F13_ Row_e1), aLn Row_e1.length, bT]) (x := (B false)) [ob (i0 h0), ob o3, ob o4, ob (i0 h1), ob o5, ob o6, ob c4] (by kernel_rfl) (LeV.refl _)
       ·obtain ⟨t4, ht4, hf1⟩ := bindE hf1
        refine awpAt X0 TTab_ok hC hm [2,3,5,6] 4000 [.a (F13_ Row_e), aLn Row_e.length, .a (F13_ Row_e1), aLn Row_e1.length, bF] (sub [1,1,2,1,0,0,1,2,0,1,1,0] bd_ref04_Same) (frs [1,1,2,1,0,0,1,2,0,1,1,0] [J1, J2, J3] bd_ref04_Same []) [(2, .own (.box (F22_ a_))), (3, .own (.box (F22_ b_))), (5, .d (I s_)), (6, .d (I 0))] [ob (i0 h0), ob o3, ob o4, ob (i0 h1), ob o5, ob o6, ob c4] (by kernel_rfl) fun st0 h0 => ?_
        refine awpLoop' (X := Int × Nat) (c' := (sub [1,1,2,1,0,0,1,2,0,1,1,0,0] bd_ref04_Same)) (by kernel_rfl) [2,3,5,6] (fun x => loopN (fun s => ref04_Same_L4 a_ b_ s_ s) x.2 x.1 = some t4) (fun x => x.2) (fun x => ST_ref04_Same_L4 a_ b_ s_ x.1) (0, fuel) _ h0 inferInstance ht4 ?_
        rintro ⟨i_, n4⟩ hn4 J4 hJ4
        obtain ⟨m4, lr2, rfl, hf2, hl2⟩ := loopE hn4
        try unfold ref04_Same_L4 at hf2
        obtain ⟨Row_e2, h2, hf2⟩ := bindE hf2
        have o7 := iM F13_ h2
        have o8 := lnM F9_ Row_e2
        rcases bifE hf2 with ⟨c5, hf2⟩ | ⟨c5, hf2⟩
        ·obtain ⟨Row_e3, h3, hf2⟩ := bindE hf2
         have o9 := iM F13_ h3
         obtain ⟨Row_e_e, h4, hf2⟩ := bindE hf2
         have o10 := iM F9_ h4
         obtain ⟨Row_e4, h5, hf2⟩ := bindE hf2
         have o11 := iM F13_ h5
         obtain ⟨Row_e_e1, h6, hf2⟩ := bindE hf2
         have o12 := iM F9_ h6
         rcases bifE hf2 with ⟨c6, hf2⟩ | ⟨c6, hf2⟩
         ·obtain rfl := someE hf2
          obtain rfl := hl2
          obtain rfl := someE hf1
          obtain rfl := hl1
          obtain rfl := someE hf0
          exact awpEnd X0 TTab_ok hC hm hE 4000 (hs := [.a (F13_ Row_e2), aLn Row_e2.length, bT, .a (F13_ Row_e3), .a (F9_ Row_e_e), .a (F13_ Row_e4), .a (F9_ Row_e_e1), bT]) (x := (B false)) [ob (i0 h2), ob o7, ob o8, ob c5, ob (i0 h3), ob o9, ob (i0 h4), ob o10, ob (i0 h5), ob o11, ob (i0 h6), ob o12, ob c6] (by kernel_rfl) (LeV.refl _)
         ·obtain rfl := someE hf2
          exact awpBack X0 TTab_ok hC hm [2,3,5,6] 4000 [.a (F13_ Row_e2), aLn Row_e2.length, bT, .a (F13_ Row_e3), .a (F9_ Row_e_e), .a (F13_ Row_e4), .a (F9_ Row_e_e1), bF] J4 [(2, .own (.box (F22_ a_))), (3, .own (.box (F22_ b_))), (5, .d (I s_)), (6, .d (I (w64 (i_ + 1))))] [ob (i0 h2), ob o7, ob o8, ob c5, ob (i0 h3), ob o9, ob (i0 h4), ob o10, ob (i0 h5), ob o11, ob (i0 h6), ob o12, ob c6] (by kernel_rfl) fun st0 h0 => hJ4 st0 _ (w64 (i_ + 1), m4) hl2 (Nat.lt_succ_self m4) h0 inferInstance
        ·obtain rfl := someE hf2
         obtain rfl := hl2
         exact awpBack X0 TTab_ok hC hm [2,3,5] 4000 [.a (F13_ Row_e2), aLn Row_e2.length, bF] J3 [(2, .own (.box (F22_ a_))), (3, .own (.box (F22_ b_))), (5, .d (I s_))] [ob (i0 h2), ob o7, ob o8, ob c5] (by kernel_rfl) fun st0 h0 => hJ3 st0 _ () hf1 h0 inferInstance
     ·obtain rfl := someE hf1
      obtain rfl := hl1
      exact awpBack X0 TTab_ok hC hm [] 4000 [aLn a_.Rows.length, bF] J1 [] [ob o2, ob c3] (by kernel_rfl) fun st0 h0 => hJ1 st0 _ () hf0 h0 inferInstance
noncomputable def bd_law10_edge : Code := (Try.f48.body).getD .skip
noncomputable def sp_law10_edge : Spec := spF (α := Int × Int) (ρ := S_api_Edge) 48 (fun x => [(eI .i64) x.1, (eI .i64) x.2]) (fun r => F9_ r) (fun x => law10_edge x.1 x.2) [] (by
 rintro ⟨a0, a1⟩ ⟨b0, b1⟩ h
 simp only [List.cons.injEq, and_true] at h
 have e0 := EncI.inj (f := (eI .i64)) _ _ h.1
 have e1 := EncI.inj (f := (eI .i64)) _ _ h.2
 subst e0 e1
 rfl)
theorem w_law10_edge {ctr : Ctr} (hC : CtrOk Try.prog ctr) (hm : Try.prog.follows .mixedOrders = true) : sp_law10_edge.Ok Try.prog := by
 refine spF_ok ?_
 rintro ⟨to, out⟩ r0 hf0
 try unfold law10_edge at hf0
 refine callOk_h (tt := TTab) (keep := false) (rs := [(4, some 67)]) (n := ⟨8, []⟩) (body := bd_law10_edge) TTab_ok Try.func48 rfl (by kernel_rfl) rfl rfl (by show (2 : Nat) ≤ 8; decide) fun E hE => ?_
 obtain rfl := someE hf0
 exact awpEnd X0 TTab_ok hC hm hE 4000 (hs := []) (x := (.agg [I to, I out])) [] (by kernel_rfl) (LeV.refl _)
noncomputable def bd_cmp_isNaN_int : Code := (Try.f131.body).getD .skip
noncomputable def sp_cmp_isNaN_int : Spec := spF (α := Int) (ρ := Bool) 131 (fun x => [(eI .i64) x]) (fun r => eB r) (fun x => cmp_isNaN_int x) [] (by
 rintro a0 b0 h
 simp only [List.cons.injEq, and_true] at h
 have e0 := EncI.inj (f := (eI .i64)) _ _ h
 subst e0
 rfl)
theorem w_cmp_isNaN_int {ctr : Ctr} (hC : CtrOk Try.prog ctr) (hm : Try.prog.follows .mixedOrders = true) : sp_cmp_isNaN_int.Ok Try.prog := by
 refine spF_ok ?_
 rintro x_ r0 hf0
 try unfold cmp_isNaN_int at hf0
 refine callOk_h (tt := TTab) (keep := true) (rs := [(2, none)]) (n := ⟨6, []⟩) (body := bd_cmp_isNaN_int) TTab_ok Try.func131 rfl (by kernel_rfl) rfl rfl (by show (1 : Nat) ≤ 6; decide) fun E hE => ?_
 obtain rfl := someE hf0
 exact awpEnd X0 TTab_ok hC hm hE 4000 (hs := []) (x := (B (x_ != x_))) [] (by kernel_rfl) (LeV.refl _)
noncomputable def bd_cmp_Compare_int : Code := (Try.f104.body).getD .skip
noncomputable def sp_cmp_Compare_int : Spec := spF (α := Int × Int) (ρ := Int) 104 (fun x => [(eI .i64) x.1, (eI .i64) x.2]) (fun r => (eI .i64) r) (fun x => cmp_Compare_int x.1 x.2) [] (by
 rintro ⟨a0, a1⟩ ⟨b0, b1⟩ h
 simp only [List.cons.injEq, and_true] at h
 have e0 := EncI.inj (f := (eI .i64)) _ _ h.1
 have e1 := EncI.inj (f := (eI .i64)) _ _ h.2
 subst e0 e1
 rfl)
theorem w_cmp_Compare_int {ctr : Ctr} (hC : CtrOk Try.prog ctr) (hm : Try.prog.follows .mixedOrders = true) (h_cmp_isNaN_int : ctr.Has sp_cmp_isNaN_int) : sp_cmp_Compare_int.Ok Try.prog := by
 refine spF_ok ?_
 rintro ⟨x_, y_⟩ r0 hf0
 try unfold cmp_Compare_int at hf0
 refine callOk_h (tt := TTab) (keep := true) (rs := [(4, none)]) (n := ⟨20, []⟩) (body := bd_cmp_Compare_int) TTab_ok Try.func104 rfl (by kernel_rfl) rfl rfl (by show (2 : Nat) ≤ 20; decide) fun E hE => ?_
 obtain ⟨r_, h0, hf0⟩ := bindE hf0
 have o0 := hasF h_cmp_isNaN_int (x := x_) h0 (loC (eI .i64) x_ <| loN)
 obtain ⟨r_1, h1, hf0⟩ := bindE hf0
 have o1 := hasF h_cmp_isNaN_int (x := y_) h1 (loC (eI .i64) y_ <| loN)
 rcases bifE hf0 with ⟨c0, hf0⟩ | ⟨c0, hf0⟩
 ·rcases bifE hf0 with ⟨c1, hf0⟩ | ⟨c1, hf0⟩
  ·obtain rfl := someE hf0
   exact awpEnd X0 TTab_ok hC hm hE 4000 (hs := [.g [], .a (eB r_), .g [], .a (eB r_1), bT, bT]) (x := (I 0)) [ob (hasG h_cmp_isNaN_int), ob o0, ob (hasG h_cmp_isNaN_int), ob o1, ob c0, ob c1] (by kernel_rfl) (LeV.refl _)
  ·obtain rfl := someE hf0
   exact awpEnd X0 TTab_ok hC hm hE 4000 (hs := [.g [], .a (eB r_), .g [], .a (eB r_1), bT, bF]) (x := (I (-1))) [ob (hasG h_cmp_isNaN_int), ob o0, ob (hasG h_cmp_isNaN_int), ob o1, ob c0, ob c1] (by kernel_rfl) (LeV.refl _)
 ·rcases bifE hf0 with ⟨c2, hf0⟩ | ⟨c2, hf0⟩
  ·obtain rfl := someE hf0
   exact awpEnd X0 TTab_ok hC hm hE 4000 (hs := [.g [], .a (eB r_), .g [], .a (eB r_1), bF, bT]) (x := (I 1)) [ob (hasG h_cmp_isNaN_int), ob o0, ob (hasG h_cmp_isNaN_int), ob o1, ob c0, ob c2] (by kernel_rfl) (LeV.refl _)
  ·rcases bifE hf0 with ⟨c3, hf0⟩ | ⟨c3, hf0⟩
   ·obtain rfl := someE hf0
    exact awpEnd X0 TTab_ok hC hm hE 4000 (hs := [.g [], .a (eB r_), .g [], .a (eB r_1), bF, bF, bT]) (x := (I (-1))) [ob (hasG h_cmp_isNaN_int), ob o0, ob (hasG h_cmp_isNaN_int), ob o1, ob c0, ob c2, ob c3] (by kernel_rfl) (LeV.refl _)
   ·rcases bifE hf0 with ⟨c4, hf0⟩ | ⟨c4, hf0⟩
    ·obtain rfl := someE hf0
     exact awpEnd X0 TTab_ok hC hm hE 4000 (hs := [.g [], .a (eB r_), .g [], .a (eB r_1), bF, bF, bF, bT]) (x := (I 1)) [ob (hasG h_cmp_isNaN_int), ob o0, ob (hasG h_cmp_isNaN_int), ob o1, ob c0, ob c2, ob c3, ob c4] (by kernel_rfl) (LeV.refl _)
    ·obtain rfl := someE hf0
     exact awpEnd X0 TTab_ok hC hm hE 4000 (hs := (.g [] :: .a (eB r_) :: .g [] :: .a (eB r_1) :: (rpN 4 bF []))) (x := (I 0)) [ob (hasG h_cmp_isNaN_int), ob o0, ob (hasG h_cmp_isNaN_int), ob o1, ob c0, ob c2, ob c3, ob c4] (by kernel_rfl) (LeV.refl _)
noncomputable def bd_slices_Compare_int_int : Code := (Try.f80.body).getD .skip
noncomputable def sp_slices_Compare_int_int : Spec := spF (α := List Int × List Int) (ρ := Int) 80 (fun x => [F5_ x.1, F5_ x.2]) (fun r => (eI .i64) r) (fun x => slices_Compare_int_int x.1 x.2) [] (by
 rintro ⟨a0, a1⟩ ⟨b0, b1⟩ h
 simp only [List.cons.injEq, and_true] at h
 have e0 := EncI.inj (f := F5_) _ _ h.1
 have e1 := EncI.inj (f := F5_) _ _ h.2
 subst e0 e1
 rfl)
abbrev ST_slices_Compare_int_int_J1 (s1 : List Int) (s2 : List Int) : List (Nat × T) := [(0, .d (eSl 1 false (eI .i64) s1)), (1, .d (eSl 1 false (eI .i64) s2))]
abbrev ST_slices_Compare_int_int_L2 (s1 : List Int) (s2 : List Int) (x11 : Int) : List (Nat × T) := [(0, .d (eSl 1 false (eI .i64) s1)), (1, .d (eSl 1 false (eI .i64) s2)), (9, .d (eSl 1 false (eI .i64) s1)), (10, .d (I ((s1.length : Nat) : Int))), (11, .d (I x11))]
theorem w_slices_Compare_int_int {ctr : Ctr} (hC : CtrOk Try.prog ctr) (hm : Try.prog.follows .mixedOrders = true) (h_cmp_Compare_int : ctr.Has sp_cmp_Compare_int) : sp_slices_Compare_int_int.Ok Try.prog := by
 refine spF_ok ?_
 rintro ⟨s1, s2⟩ r0 hf0
 try unfold slices_Compare_int_int at hf0
 refine callOk_h (tt := TTab) (keep := true) (rs := [(4, none)]) (n := ⟨36, []⟩) (body := bd_slices_Compare_int_int) TTab_ok Try.func80 rfl (by kernel_rfl) rfl rfl (by show (2 : Nat) ≤ 36; decide) fun E hE => ?_
 refine awpAt X0 TTab_ok hC hm [0,1] 4000 [.cut 1] (sub [1] bd_slices_Compare_int_int) (frs [1] [] bd_slices_Compare_int_int []) [(0, .d (eSl 1 false (eI .i64) s1)), (1, .d (eSl 1 false (eI .i64) s2))] [] (by kernel_rfl) fun st0 h0 => ?_
 refine awpJoin' (X := Unit) (x := (sub [1,2] bd_slices_Compare_int_int)) (y := (sub [1,1] bd_slices_Compare_int_int)) (by kernel_rfl) [0,1] [0,1] _ h0 (fun z => slices_Compare_int_int_J1 s1 s2 = some r0) (fun z => ST_slices_Compare_int_int_J1 s1 s2) ?_ fun J1 hJ1 => ?_
 ·rintro ⟨⟩ hf0
  unfold slices_Compare_int_int_J1 at hf0
  rcases bifE hf0 with ⟨c0, hf0⟩ | ⟨c0, hf0⟩
  ·obtain rfl := someE hf0
   exact awpEnd X0 TTab_ok hC hm hE 4000 (hs := [aLn s1.length, aLn s2.length, bT]) (x := (I (-1))) [ob (lnM (eI .i64) s1), ob (lnM (eI .i64) s2), ob c0] (by kernel_rfl) (LeV.refl _)
  ·obtain rfl := someE hf0
   exact awpEnd X0 TTab_ok hC hm hE 4000 (hs := [aLn s1.length, aLn s2.length, bF]) (x := (I 0)) [ob (lnM (eI .i64) s1), ob (lnM (eI .i64) s2), ob c0] (by kernel_rfl) (LeV.refl _)
 ·obtain ⟨t2, ht2, hf0⟩ := bindE hf0
  refine awpAt X0 TTab_ok hC hm [0,1,9,10,11] 4000 [aLn s1.length] (sub [1,2,1,0] bd_slices_Compare_int_int) (frs [1,2,1,0] [J1] bd_slices_Compare_int_int []) [(0, .d (eSl 1 false (eI .i64) s1)), (1, .d (eSl 1 false (eI .i64) s2)), (9, .d (eSl 1 false (eI .i64) s1)), (10, .d (I ((s1.length : Nat) : Int))), (11, .d (I 0))] [ob (lnM (eI .i64) s1)] (by kernel_rfl) fun st0 h0 => ?_
  refine awpLoop' (X := Int × Nat) (c' := (sub [1,2,1,0,0] bd_slices_Compare_int_int)) (by kernel_rfl) [0,1,9,10,11] (fun x => loopN (fun s => slices_Compare_int_int_L2 s1 s2 s) x.2 x.1 = some t2) (fun x => x.2) (fun x => ST_slices_Compare_int_int_L2 s1 s2 x.1) (0, fuel) _ h0 inferInstance ht2 ?_
  rintro ⟨x11, n2⟩ hn2 J2 hJ2
  obtain ⟨m2, lr1, rfl, hf1, hl1⟩ := loopE hn2
  try unfold slices_Compare_int_int_L2 at hf1
  rcases bifE hf1 with ⟨c1, hf1⟩ | ⟨c1, hf1⟩
  ·obtain ⟨s_e, h0, hf1⟩ := bindE hf1
   rcases bifE hf1 with ⟨c2, hf1⟩ | ⟨c2, hf1⟩
   ·obtain rfl := someE hf1
    obtain rfl := hl1
    obtain rfl := someE hf0
    exact awpEnd X0 TTab_ok hC hm hE 4000 (hs := [bT, .a ((eI .i64) s_e), aLn s2.length, bT]) (x := (I 1)) [ob c1, ob (i0 h0), ob (iM (eI .i64) h0), ob (lnM (eI .i64) s2), ob c2] (by kernel_rfl) (LeV.refl _)
   ·obtain ⟨s_e1, h1, hf1⟩ := bindE hf1
    obtain ⟨r_, h2, hf1⟩ := bindE hf1
    have o0 := hasF h_cmp_Compare_int (x := (s_e, s_e1)) h2 (loC (eI .i64) s_e <| loC (eI .i64) s_e1 <| loN)
    rcases bifE hf1 with ⟨c3, hf1⟩ | ⟨c3, hf1⟩
    ·obtain rfl := someE hf1
     obtain rfl := hl1
     obtain rfl := someE hf0
     exact awpEnd X0 TTab_ok hC hm hE 4000 (hs := [bT, .a ((eI .i64) s_e), aLn s2.length, bF, .a ((eI .i64) s_e1), .g [], .a ((eI .i64) r_), bT]) (x := (I r_)) [ob c1, ob (i0 h0), ob (iM (eI .i64) h0), ob (lnM (eI .i64) s2), ob c2, ob (i0 h1), ob (iM (eI .i64) h1), ob (hasG h_cmp_Compare_int), ob o0, ob c3] (by kernel_rfl) (LeV.refl _)
    ·obtain rfl := someE hf1
     exact awpBack X0 TTab_ok hC hm [0,1,9,10,11] 4000 [bT, .a ((eI .i64) s_e), aLn s2.length, bF, .a ((eI .i64) s_e1), .g [], .a ((eI .i64) r_), bF] J2 [(0, .d (eSl 1 false (eI .i64) s1)), (1, .d (eSl 1 false (eI .i64) s2)), (9, .d (eSl 1 false (eI .i64) s1)), (10, .d (I ((s1.length : Nat) : Int))), (11, .d (I (w64 (x11 + 1))))] [ob c1, ob (i0 h0), ob (iM (eI .i64) h0), ob (lnM (eI .i64) s2), ob c2, ob (i0 h1), ob (iM (eI .i64) h1), ob (hasG h_cmp_Compare_int), ob o0, ob c3] (by kernel_rfl) fun st0 h0 => hJ2 st0 _ (w64 (x11 + 1), m2) hl1 (Nat.lt_succ_self m2) h0 inferInstance
  ·obtain rfl := someE hf1
   obtain rfl := hl1
   exact awpBack X0 TTab_ok hC hm [0,1] 4000 [bF] J1 [(0, .d (eSl 1 false (eI .i64) s1)), (1, .d (eSl 1 false (eI .i64) s2))] [ob c1] (by kernel_rfl) fun st0 h0 => hJ1 st0 _ () hf0 h0 inferInstance
noncomputable def bd_equals_Relate_1 : Code := (Try.f79.body).getD .skip
noncomputable def sp_equals_Relate_1 : Spec := spF (α := Arr2 Int × Arr2 Int) (ρ := Int) 79 (fun x => [F0_ x.1, F0_ x.2]) (fun r => (eI .i64) r) (fun x => equals_Relate_1 x.1 x.2) [] (by
 rintro ⟨a0, a1⟩ ⟨b0, b1⟩ h
 simp only [List.cons.injEq, and_true] at h
 have e0 := EncI.inj (f := F0_) _ _ h.1
 have e1 := EncI.inj (f := F0_) _ _ h.2
 subst e0 e1
 rfl)
theorem w_equals_Relate_1 {ctr : Ctr} (hC : CtrOk Try.prog ctr) (hm : Try.prog.follows .mixedOrders = true) (h_slices_Compare_int_int : ctr.Has sp_slices_Compare_int_int) : sp_equals_Relate_1.Ok Try.prog := by
 refine spF_ok ?_
 rintro ⟨p_, q_⟩ r0 hf0
 try unfold equals_Relate_1 at hf0
 refine callOk_h (tt := TTab) (keep := true) (rs := [(4, none)]) (n := ⟨8, []⟩) (body := bd_equals_Relate_1) TTab_ok Try.func79 rfl (by kernel_rfl) rfl rfl (by show (2 : Nat) ≤ 8; decide) fun E hE => ?_
 obtain ⟨r_, h0, hf0⟩ := bindE hf0
 have o0 := hasF h_slices_Compare_int_int (x := ([p_.e0, p_.e1], [q_.e0, q_.e1])) h0 (loC F2_ ([p_.e0, p_.e1] : List Int) <| loC F2_ ([q_.e0, q_.e1] : List Int) <| loN)
 obtain rfl := someE hf0
 exact awpEnd ((xArr TTab_ok 6).or ((xArr TTab_ok 5).or X0)) TTab_ok hC hm hE 4000 (hs := [.g [], .a ((eI .i64) r_)]) (x := (I r_)) [ob (hasG h_slices_Compare_int_int), ob o0] (by kernel_rfl) (LeV.refl _)
noncomputable def bd_slices_Clip_2_int_2_int : Code := (Try.f81.body).getD .skip
noncomputable def sp_slices_Clip_2_int_2_int : Spec := spF (α := List (Arr2 Int)) (ρ := List (Arr2 Int)) 81 (fun x => [F8_ x]) (fun r => F7_ r) (fun x => slices_Clip_2_int_2_int x) [] (by
 rintro a0 b0 h
 simp only [List.cons.injEq, and_true] at h
 have e0 := EncI.inj (f := F8_) _ _ h
 subst e0
 rfl)
theorem w_slices_Clip_2_int_2_int {ctr : Ctr} (hC : CtrOk Try.prog ctr) (hm : Try.prog.follows .mixedOrders = true) : sp_slices_Clip_2_int_2_int.Ok Try.prog := by
 refine spF_ok ?_
 rintro s_ r0 hf0
 try unfold slices_Clip_2_int_2_int at hf0
 refine callOk_h (tt := TTab) (keep := true) (rs := [(2, none)]) (n := ⟨9, []⟩) (body := bd_slices_Clip_2_int_2_int) TTab_ok Try.func81 rfl (by kernel_rfl) rfl rfl (by show (1 : Nat) ≤ 9; decide) fun E hE => ?_
 obtain ⟨g0, hf0⟩ := gdE hf0
 have o0 := slT1 2 F0_ s_ 0 ((s_.length : Nat) : Int).toNat
 obtain rfl := someE hf0
 exact awpEnd X0 TTab_ok hC hm hE 4000 (hs := [aLn s_.length, aLn s_.length, .a (eSl 2 true F0_ ((s_.drop 0).take (((s_.length : Nat) : Int).toNat - 0)))]) (x := (eSl 2 true F0_ ((s_.drop 0).take (((s_.length : Nat) : Int).toNat - 0)))) [ob (lnM F0_ s_), ob (lnM F0_ s_), ob (slB g0), ob (slC g0), ob (sl011 F0_ g0), ob o0] (by kernel_rfl) (LeV.refl _)
noncomputable def bd_equals_Relate : Code := (Try.f42.body).getD .skip
noncomputable def sp_equals_Relate : Spec := spF (α := S_api_Machine × S_api_Machine) (ρ := List (Arr2 Int) × Bool × Int) 42 (fun x => [F22_ x.1, F22_ x.2]) (fun r => .tup [F7_ r.1, eB r.2.1, (eI .i64) r.2.2]) (fun x => equals_Relate x.1 x.2) [] (by
 rintro ⟨a0, a1⟩ ⟨b0, b1⟩ h
 simp only [List.cons.injEq, and_true] at h
 have e0 := EncI.inj (f := F22_) _ _ h.1
 have e1 := EncI.inj (f := F22_) _ _ h.2
 subst e0 e1
 rfl)
theorem w_equals_Relate {ctr : Ctr} (hC : CtrOk Try.prog ctr) (hm : Try.prog.follows .mixedOrders = true) (h_equals_both : ctr.Has sp_equals_both) (h_equals_differ : ctr.Has sp_equals_differ) (h_equals_Relate_1 : ctr.Has sp_equals_Relate_1) (h_slices_Clip_2_int_2_int : ctr.Has sp_slices_Clip_2_int_2_int) : sp_equals_Relate.Ok Try.prog := by
 refine spF_ok ?_
 rintro ⟨a_, b_⟩ r0 hf0
 try unfold equals_Relate at hf0
 refine callOk_h (tt := TTab) (keep := false) (rs := [(4, none), (5, none), (6, none)]) (n := ⟨29, []⟩) (body := bd_equals_Relate) TTab_ok Try.func42 rfl (by kernel_rfl) rfl rfl (by show (2 : Nat) ≤ 29; decide) fun E hE => ?_
 obtain ⟨r_, h0, hf0⟩ := bindE hf0
 have o0 := hasF h_equals_both (x := (a_, b_)) h0 (loC F22_ a_ <| loC F22_ b_ <| loN)
 rcases bifE hf0 with ⟨c0, hf0⟩ | ⟨c0, hf0⟩
 ·have o1 := shM F0_ F0_ []
  obtain rfl := someE hf0
  exact awpEnd X0 TTab_ok hC hm hE 4000 (hs := [.g [], .a ((eI .i64) r_), bT, .l ([].map F0_)]) (x := (.tup [eSl 2 true F0_ [], B false, I r_])) [ob (hasG h_equals_both), ob o0, ob c0, ob o1] (by kernel_rfl) (show LeV (.tup [eSl 2 true F0_ [], B false, I r_]) (.tup [eSl 2 true F0_ ([] : List (Arr2 Int)), B false, I r_]) from inferInstance)
 ·obtain ⟨r_1, h1, hf0⟩ := bindE hf0
  have o2 := hasF h_equals_differ (x := (a_, b_)) h1 (loC F22_ a_ <| loC F22_ b_ <| loN)
  have o3 := (⟨rfl, rfl⟩ : T.own (.opq (tupQ [some (eSl 1 true (eI .i64) r_1.1), some (eOs 2 false F0_ r_1.2)])) = T.own (.opq (tupQ [some (eSl 1 true (eI .i64) r_1.1), some (eOs 2 false F0_ r_1.2)])) ∧ 1 = 1)
  have o4 := (⟨rfl, rfl⟩ : T.own (.opq (tupQ [some (eSl 1 true (eI .i64) r_1.1), some (eOs 2 false F0_ r_1.2)])) = T.own (.opq (tupQ [some (eSl 1 true (eI .i64) r_1.1), some (eOs 2 false F0_ r_1.2)])) ∧ 1 = 1)
  refine awpAt ((xExtr Try.prog 21 [some (eSl 1 true (eI .i64) r_1.1), some (eOs 2 false F0_ r_1.2)]).or ((xExtr Try.prog 20 [some (eSl 1 true (eI .i64) r_1.1), some (eOs 2 false F0_ r_1.2)]).or X0)) TTab_ok hC hm [8,9] 4000 [.g [], .a ((eI .i64) r_), bF, .g [], .a (.opq (tupQ [some (eSl 1 true (eI .i64) r_1.1), some (eOs 2 false F0_ r_1.2)])), .cut 0] (sub [1,1,1] bd_equals_Relate) (frs [1,1,1] [] bd_equals_Relate []) [(8, .d (eSl 1 true (eI .i64) r_1.1)), (9, .own (eOs 2 false F0_ r_1.2))] [ob (hasG h_equals_both), ob o0, ob c0, ob (hasG h_equals_differ), ob o2, ob o3, ob o4] (by kernel_rfl) fun st0 h0 => awpOf h0 ?_
  refine awpPin (by kernel_rfl) 9 fun pv9 => ?_
  obtain ⟨sorted, h2, hf0⟩ := bindE hf0
  have o5 := shM F0_ F0_ sorted
  obtain ⟨r_2, h3, hf0⟩ := bindE hf0
  have o6 := hasF h_slices_Clip_2_int_2_int (x := sorted) h3 (loC F8_ sorted <| loN)
  have o7 := shM F0_ F0_ sorted
  obtain rfl := someE hf0
  exact awpEnd ((xLend (P := Try.prog) TTab [9] (sort_lent so_78 (f := F0_) (t := false) (v := pv9) (fun _ => rfl) (fun _ => rfl) (fun x y c h => hasCall hC h_equals_Relate_1 (x := (x, y)) h) h2) 23).or X0) TTab_ok hC hm hE 4000 (hs := [.g [], .l (sorted.map F0_), .a (F7_ r_2), .l (sorted.map F0_), aLn r_1.1.length]) (x := (.tup [eSl 2 true F0_ r_2, B (((r_1.1.length : Nat) : Int) == 0), I 0])) [ob (tabC_at (f := .fn 78 []) (xs := [.atom pv9, .fn 79 []]) (ls := [(pv9, eOs 2 false F0_ r_1.2)]) (r := .tup []) (ys := [eOs 2 false F0_ sorted]) [.atom pv9, .fn 79 []] (show LeTs [.atom pv9, .fn 79 []] [.atom pv9, .fn 79 []] from inferInstance)), ob (hasG h_slices_Clip_2_int_2_int), ob o5, ob o6, ob o7, ob (lnM (eI .i64) r_1.1)] (by kernel_rfl) (LeV.refl _)
noncomputable def bd_equals_Within : Code := (Try.f41.body).getD .skip
noncomputable def sp_equals_Within : Spec := spF (α := S_api_Machine × S_api_Machine × Int) (ρ := Bool × Int) 41 (fun x => [F22_ x.1, F22_ x.2.1, (eI .i64) x.2.2]) (fun r => .tup [eB r.1, (eI .i64) r.2]) (fun x => equals_Within x.1 x.2.1 x.2.2) [] (by
 rintro ⟨a0, a1, a2⟩ ⟨b0, b1, b2⟩ h
 simp only [List.cons.injEq, and_true] at h
 have e0 := EncI.inj (f := F22_) _ _ h.1
 have e1 := EncI.inj (f := F22_) _ _ h.2.1
 have e2 := EncI.inj (f := (eI .i64)) _ _ h.2.2
 subst e0 e1 e2
 rfl)
theorem w_equals_Within {ctr : Ctr} (hC : CtrOk Try.prog ctr) (hm : Try.prog.follows .mixedOrders = true) (h_equals_Differ : ctr.Has sp_equals_Differ) : sp_equals_Within.Ok Try.prog := by
 refine spF_ok ?_
 rintro ⟨a_, b_, k_⟩ r0 hf0
 try unfold equals_Within at hf0
 refine callOk_h (tt := TTab) (keep := false) (rs := [(6, none), (7, none)]) (n := ⟨33, []⟩) (body := bd_equals_Within) TTab_ok Try.func41 rfl (by kernel_rfl) rfl rfl (by show (3 : Nat) ≤ 33; decide) fun E hE => ?_
 obtain ⟨r_, h0, hf0⟩ := bindE hf0
 have o0 := hasF h_equals_Differ (x := (a_, b_)) h0 (loC F22_ a_ <| loC F22_ b_ <| loN)
 rcases bifE hf0 with ⟨c0, hf0⟩ | ⟨c0, hf0⟩
 ·obtain rfl := someE hf0
  exact awpEnd X0 TTab_ok hC hm hE 4000 (hs := [.g [], .a (.tup [eSl 1 true (eI .i64) r_.1, B r_.2.1, I r_.2.2]), bT]) (x := (.tup [B false, I r_.2.2])) [ob (hasG h_equals_Differ), ob o0, ob c0] (by kernel_rfl) (LeV.refl _)
 ·rcases bifE hf0 with ⟨c1, hf0⟩ | ⟨c1, hf0⟩
  ·obtain rfl := someE hf0
   exact awpEnd X0 TTab_ok hC hm hE 4000 (hs := [.g [], .a (.tup [eSl 1 true (eI .i64) r_.1, B r_.2.1, I r_.2.2]), bF, bT]) (x := (.tup [B false, I 1])) [ob (hasG h_equals_Differ), ob o0, ob c0, ob c1] (by kernel_rfl) (LeV.refl _)
  ·rcases bifE hf0 with ⟨c2, hf0⟩ | ⟨c2, hf0⟩
   ·obtain rfl := someE hf0
    exact awpEnd X0 TTab_ok hC hm hE 4000 (hs := (.g [] :: .a (.tup [eSl 1 true (eI .i64) r_.1, B r_.2.1, I r_.2.2]) :: bF :: bF :: (rpN 5 bT []))) (x := (.tup [B true, I 0])) (ob (hasG h_equals_Differ) :: ob o0 :: ob c0 :: ob c1 :: (rpN 5 (ob c2) [])) (by kernel_rfl) (LeV.refl _)
   ·obtain rfl := someE hf0
    exact awpEnd X0 TTab_ok hC hm hE 4000 (hs := (.g [] :: .a (.tup [eSl 1 true (eI .i64) r_.1, B r_.2.1, I r_.2.2]) :: (rpN 4 bF [aLn r_.1.length, bF, bF, bF]))) (x := (.tup [B (decide (((r_.1.length : Nat) : Int) > k_)), I 0])) [ob (hasG h_equals_Differ), ob o0, ob c0, ob c1, ob c2, ob c2, ob (lnM (eI .i64) r_.1), ob c2, ob c2, ob c2] (by kernel_rfl) (LeV.refl _)
noncomputable def bd_equals_CheckRelation : Code := (Try.f45.body).getD .skip
noncomputable def sp_equals_CheckRelation : Spec := spF (α := S_api_Machine × S_api_Machine × List (Arr2 Int)) (ρ := Bool × Int) 45 (fun x => [F22_ x.1, F22_ x.2.1, F8_ x.2.2]) (fun r => .tup [eB r.1, (eI .i64) r.2]) (fun x => equals_CheckRelation x.1 x.2.1 x.2.2) [] (by
 rintro ⟨a0, a1, a2⟩ ⟨b0, b1, b2⟩ h
 simp only [List.cons.injEq, and_true] at h
 have e0 := EncI.inj (f := F22_) _ _ h.1
 have e1 := EncI.inj (f := F22_) _ _ h.2.1
 have e2 := EncI.inj (f := F8_) _ _ h.2.2
 subst e0 e1 e2
 rfl)
abbrev ST_equals_CheckRelation_J2 (is : Bool) : List (Nat × T) := [(12, .d (B is))]
abbrev ST_equals_CheckRelation_J4 (a_ : S_api_Machine) (b_ : S_api_Machine) (r_ : List (Arr2 Int)) (in_ : List ((Arr2 Int) × Bool)) (x64 : Int) (is2 : Bool) : List (Nat × T) := [(3, .own (.box (F22_ a_))), (4, .own (.box (F22_ b_))), (9, .own (.opq (mapQ (entL F0_ eB in_)))), (12, .d (B is2)), (62, .d (eSl 2 false F0_ r_)), (63, .d (I ((r_.length : Nat) : Int))), (64, .d (I x64))]
abbrev ST_equals_CheckRelation_L5 (a_ : S_api_Machine) (b_ : S_api_Machine) (r_ : List (Arr2 Int)) (in_ : List ((Arr2 Int) × Bool)) (x64 : Int) (r__e : Arr2 Int) (Row_e : List S_api_Edge) (is3 : Bool) (x75 : Int) : List (Nat × T) := [(3, .own (.box (F22_ a_))), (4, .own (.box (F22_ b_))), (9, .own (.opq (mapQ (entL F0_ eB in_)))), (12, .d (B is3)), (14, .own (.box (F0_ r__e))), (62, .d (eSl 2 false F0_ r_)), (63, .d (I ((r_.length : Nat) : Int))), (64, .d (I x64)), (73, .d (eSl 2 false F9_ Row_e)), (74, .d (I ((Row_e.length : Nat) : Int))), (75, .d (I x75))]
abbrev ST_equals_CheckRelation_L3 (a_ : S_api_Machine) (b_ : S_api_Machine) (r_ : List (Arr2 Int)) (in_ : List ((Arr2 Int) × Bool)) (is1 : Bool) (x64 : Int) : List (Nat × T) := [(3, .own (.box (F22_ a_))), (4, .own (.box (F22_ b_))), (9, .own (.opq (mapQ (entL F0_ eB in_)))), (12, .d (B is1)), (62, .d (eSl 2 false F0_ r_)), (63, .d (I ((r_.length : Nat) : Int))), (64, .d (I x64))]
abbrev ST_equals_CheckRelation_J1 (a_ : S_api_Machine) (b_ : S_api_Machine) (r_ : List (Arr2 Int)) (in_ : List ((Arr2 Int) × Bool)) : List (Nat × T) := [(2, .d (eSl 2 false F0_ r_)), (3, .own (.box (F22_ a_))), (4, .own (.box (F22_ b_))), (9, .own (.opq (mapQ (entL F0_ eB in_))))]
abbrev ST_equals_CheckRelation_L6 (a_ : S_api_Machine) (b_ : S_api_Machine) (r_ : List (Arr2 Int)) (in_1 : List ((Arr2 Int) × Bool)) (x30 : Int) : List (Nat × T) := [(2, .d (eSl 2 false F0_ r_)), (3, .own (.box (F22_ a_))), (4, .own (.box (F22_ b_))), (9, .own (.opq (mapQ (entL F0_ eB in_1)))), (28, .d (eSl 2 false F0_ r_)), (29, .d (I ((r_.length : Nat) : Int))), (30, .d (I x30))]
theorem w_equals_CheckRelation {ctr : Ctr} (hC : CtrOk Try.prog ctr) (hm : Try.prog.follows .mixedOrders = true) (h_equals_both : ctr.Has sp_equals_both) : sp_equals_CheckRelation.Ok Try.prog := by
 refine spF_ok ?_
 rintro ⟨a_, b_, r_⟩ r0 hf0
 try unfold equals_CheckRelation at hf0
 refine callOk_h (tt := TTab) (keep := false) (rs := [(6, none), (7, none)]) (n := ⟨114, []⟩) (body := bd_equals_CheckRelation) TTab_ok Try.func45 rfl (by kernel_rfl) rfl rfl (by show (3 : Nat) ≤ 114; decide) fun E hE => ?_
 obtain ⟨r_1, h0, hf0⟩ := bindE hf0
 have o0 := hasF h_equals_both (x := (a_, b_)) h0 (loC F22_ a_ <| loC F22_ b_ <| loN)
 rcases bifE hf0 with ⟨c0, hf0⟩ | ⟨c0, hf0⟩
 ·obtain rfl := someE hf0
  exact awpEnd X0 TTab_ok hC hm hE 4000 (hs := [.g [], .a ((eI .i64) r_1), bT]) (x := (.tup [B false, I r_1])) [ob (hasG h_equals_both), ob o0, ob c0] (by kernel_rfl) (LeV.refl _)
 ·rcases bifE hf0 with ⟨c1, hf0⟩ | ⟨c1, hf0⟩
  ·obtain rfl := someE hf0
   exact awpEnd X0 TTab_ok hC hm hE 4000 (hs := [.g [], .a ((eI .i64) r_1), bF, aLn r_.length, bT]) (x := (.tup [B false, I 3])) [ob (hasG h_equals_both), ob o0, ob c0, ob (lnM F0_ r_), ob c1] (by kernel_rfl) (LeV.refl _)
  ·refine awpAt ((xMake Try.prog 27).or X0) TTab_ok hC hm [2,3,4,9] 4000 [.g [], .a ((eI .i64) r_1), bF, aLn r_.length, bF, .cut 1] (sub [1,1,1,1] bd_equals_CheckRelation) (frs [1,1,1,1] [] bd_equals_CheckRelation []) [(2, .d (eSl 2 false F0_ r_)), (3, .own (.box (F22_ a_))), (4, .own (.box (F22_ b_))), (9, .own (.opq (mapQ (entL F0_ eB ([] : List ((Arr2 Int) × Bool))))))] [ob (hasG h_equals_both), ob o0, ob c0, ob (lnM F0_ r_), ob c1] (by kernel_rfl) fun st0 h0 => ?_
   refine awpJoin' (X := List ((Arr2 Int) × Bool)) (x := (sub [1,1,1,1,2] bd_equals_CheckRelation)) (y := (sub [1,1,1,1,1] bd_equals_CheckRelation)) (by kernel_rfl) [2,3,4,9] [2,3,4,9] _ h0 (fun z => equals_CheckRelation_J1 a_ b_ r_ z = some r0) (fun z => ST_equals_CheckRelation_J1 a_ b_ r_ z) ?_ fun J1 hJ1 => ?_
   ·rintro in_ hf0
    unfold equals_CheckRelation_J1 at hf0
    have o1 := (⟨rfl, rfl, ent_ok (fun _ => rfl) in_⟩ : A.opq (mapQ (entL F0_ eB in_)) = A.opq (mapQ (entL F0_ eB in_)) ∧ (okAgg [.i64, .i64]) (F0_ (Arr2.mk 0 0)) = true ∧ ∀ p ∈ entL F0_ eB in_, (okAgg [.i64, .i64]) p.1 = true)
    obtain ⟨val, h1, hf0⟩ := bindE hf0
    replace h1 := someE h1
    have o2 := (get1 (f := F0_) (g := eB) (z0 := false) (z := .atom (.bool false)) rfl (Arr2.mk 0 0) in_).trans (congrArg eB h1)
    refine awpAt ((xLook mt_130 61 (entL F0_ eB in_)).or X0) TTab_ok hC hm [2,3,4,9,12] 4000 [.a (eB val), .cut 0] (sub [1,1,1,1,1,1] bd_equals_CheckRelation) (frs [1,1,1,1,1,1] [] bd_equals_CheckRelation []) [(2, .d (eSl 2 false F0_ r_)), (3, .own (.box (F22_ a_))), (4, .own (.box (F22_ b_))), (9, .own (.opq (mapQ (entL F0_ eB in_)))), (12, .d (B val))] [ob o1, ob o2] (by kernel_rfl) fun st0 h0 => ?_
    refine awpJoin' (X := Bool) (x := (sub [1,1,1,1,1,1,2] bd_equals_CheckRelation)) (y := (sub [1,1,1,1,1,1,1] bd_equals_CheckRelation)) (by kernel_rfl) [12] [2,3,4,9,12] _ h0 (fun z => equals_CheckRelation_J2 z = some r0) (fun z => ST_equals_CheckRelation_J2 z) ?_ fun J2 hJ2 => ?_
    ·rintro is hf0
     unfold equals_CheckRelation_J2 at hf0
     obtain rfl := someE hf0
     exact awpEnd X0 TTab_ok hC hm hE 4000 (hs := []) (x := (.tup [B is, I 0])) [] (by kernel_rfl) (LeV.refl _)
    ·obtain ⟨t3, ht3, hf0⟩ := bindE hf0
     refine awpAt X0 TTab_ok hC hm [3,4,9,12,62,63,64] 4000 [aLn r_.length] (sub [1,1,1,1,1,1,2,1,0] bd_equals_CheckRelation) (frs [1,1,1,1,1,1,2,1,0] [J2] bd_equals_CheckRelation []) [(3, .own (.box (F22_ a_))), (4, .own (.box (F22_ b_))), (9, .own (.opq (mapQ (entL F0_ eB in_)))), (12, .d (B val)), (62, .d (eSl 2 false F0_ r_)), (63, .d (I ((r_.length : Nat) : Int))), (64, .d (I 0))] [ob (lnM F0_ r_)] (by kernel_rfl) fun st0 h0 => ?_
     refine awpLoop' (X := (Bool × Int) × Nat) (c' := (sub [1,1,1,1,1,1,2,1,0,0] bd_equals_CheckRelation)) (by kernel_rfl) [3,4,9,12,62,63,64] (fun x => loopN (fun s => equals_CheckRelation_L3 a_ b_ r_ in_ s.1 s.2) x.2 x.1 = some t3) (fun x => x.2) (fun x => ST_equals_CheckRelation_L3 a_ b_ r_ in_ x.1.1 x.1.2) ((val, 0), fuel) _ h0 inferInstance ht3 ?_
     rintro ⟨⟨is1, x64⟩, n3⟩ hn3 J3 hJ3
     obtain ⟨m3, lr1, rfl, hf1, hl1⟩ := loopE hn3
     try unfold equals_CheckRelation_L3 at hf1
     rcases bifE hf1 with ⟨c2, hf1⟩ | ⟨c2, hf1⟩
     ·refine awpAt X0 TTab_ok hC hm [3,4,9,12,62,63,64] 4000 [bT, .cut 0] (sub [1,1,1,1,1,1,2,1,0,0,1,1] bd_equals_CheckRelation) (frs [1,1,1,1,1,1,2,1,0,0,1,1] [J2, J3] bd_equals_CheckRelation []) [(3, .own (.box (F22_ a_))), (4, .own (.box (F22_ b_))), (9, .own (.opq (mapQ (entL F0_ eB in_)))), (12, .d (B is1)), (62, .d (eSl 2 false F0_ r_)), (63, .d (I ((r_.length : Nat) : Int))), (64, .d (I x64))] [ob c2] (by kernel_rfl) fun st0 h0 => ?_
      refine awpJoin' (X := Bool) (x := (sub [1,1,1,1,1,1,2,1,0,0,1,1,2] bd_equals_CheckRelation)) (y := (sub [1,1,1,1,1,1,2,1,0,0,1,1,1] bd_equals_CheckRelation)) (by kernel_rfl) [3,4,9,12,62,63,64] [3,4,9,12,62,63,64] _ h0 (fun z => equals_CheckRelation_J4 x64 z = some lr1) (fun z => ST_equals_CheckRelation_J4 a_ b_ r_ in_ x64 z) ?_ fun J4 hJ4 => ?_
      ·rintro is2 hf1
       unfold equals_CheckRelation_J4 at hf1
       obtain rfl := someE hf1
       exact awpBack X0 TTab_ok hC hm [3,4,9,12,62,63,64] 4000 [] J3 [(3, .own (.box (F22_ a_))), (4, .own (.box (F22_ b_))), (9, .own (.opq (mapQ (entL F0_ eB in_)))), (12, .d (B is2)), (62, .d (eSl 2 false F0_ r_)), (63, .d (I ((r_.length : Nat) : Int))), (64, .d (I (w64 (x64 + 1))))] [] (by kernel_rfl) fun st0 h0 => hJ3 st0 _ ((is2, w64 (x64 + 1)), m3) hl1 (Nat.lt_succ_self m3) h0 inferInstance
      ·obtain ⟨r__e, h2, hf1⟩ := bindE hf1
       have o3 := (⟨rfl, by decide⟩ : true = true ∧ 0 < 2)
       obtain ⟨Row_e, h3, hf1⟩ := bindE hf1
       have o4 := iM F13_ h3
       have o5 := lnM F9_ Row_e
       obtain ⟨t5, ht5, hf1⟩ := bindE hf1
       refine awpAt X0 TTab_ok hC hm [3,4,9,12,14,62,63,64,73,74,75] 4000 [.a (F0_ r__e), .a (F13_ Row_e), aLn Row_e.length] (sub [1,1,1,1,1,1,2,1,0,0,1,1,2,0,1,1,0] bd_equals_CheckRelation) (frs [1,1,1,1,1,1,2,1,0,0,1,1,2,0,1,1,0] [J2, J3, J4] bd_equals_CheckRelation []) [(3, .own (.box (F22_ a_))), (4, .own (.box (F22_ b_))), (9, .own (.opq (mapQ (entL F0_ eB in_)))), (12, .d (B is1)), (14, .own (.box (F0_ r__e))), (62, .d (eSl 2 false F0_ r_)), (63, .d (I ((r_.length : Nat) : Int))), (64, .d (I x64)), (73, .d (eSl 2 false F9_ Row_e)), (74, .d (I ((Row_e.length : Nat) : Int))), (75, .d (I 0))] [ob (i0 h2), ob (iM F0_ h2), ob o3, ob (i0 h3), ob o4, ob o5] (by kernel_rfl) fun st0 h0 => ?_
       refine awpLoop' (X := (Bool × Int) × Nat) (c' := (sub [1,1,1,1,1,1,2,1,0,0,1,1,2,0,1,1,0,0] bd_equals_CheckRelation)) (by kernel_rfl) [3,4,9,12,14,62,63,64,73,74,75] (fun x => loopN (fun s => equals_CheckRelation_L5 b_ in_ r__e Row_e s.1 s.2) x.2 x.1 = some t5) (fun x => x.2) (fun x => ST_equals_CheckRelation_L5 a_ b_ r_ in_ x64 r__e Row_e x.1.1 x.1.2) ((is1,0), fuel) _ h0 inferInstance ht5 ?_
       rintro ⟨⟨is3, x75⟩, n5⟩ hn5 J5 hJ5
       obtain ⟨m5, lr2, rfl, hf2, hl2⟩ := loopE hn5
       try unfold equals_CheckRelation_L5 at hf2
       rcases bifE hf2 with ⟨c3, hf2⟩ | ⟨c3, hf2⟩
       ·obtain ⟨Row_e_e, h4, hf2⟩ := bindE hf2
        have o6 := iM F9_ h4
        have o7 := (⟨rfl, by decide⟩ : true = true ∧ 1 < 2)
        obtain ⟨Row_e1, h5, hf2⟩ := bindE hf2
        have o8 := iM F13_ h5
        obtain ⟨Row_e_e1, h6, hf2⟩ := bindE hf2
        have o9 := iM F9_ h6
        rcases bifE hf2 with ⟨c4, hf2⟩ | ⟨c4, hf2⟩
        ·rcases bifE hf2 with ⟨c5, hf2⟩ | ⟨c5, hf2⟩
         ·rcases bifE hf2 with ⟨c6, hf2⟩ | ⟨c6, hf2⟩
          ·obtain rfl := someE hf2
           exact awpBack X0 TTab_ok hC hm [3,4,9,12,14,62,63,64,73,74,75] 4000 (bT :: .a (F9_ Row_e_e) :: .a (F13_ Row_e1) :: .a (F9_ Row_e_e1) :: (rpN 20 bT [])) J5 [(3, .own (.box (F22_ a_))), (4, .own (.box (F22_ b_))), (9, .own (.opq (mapQ (entL F0_ eB in_)))), (12, .d (B true)), (14, .own (.box (F0_ r__e))), (62, .d (eSl 2 false F0_ r_)), (63, .d (I ((r_.length : Nat) : Int))), (64, .d (I x64)), (73, .d (eSl 2 false F9_ Row_e)), (74, .d (I ((Row_e.length : Nat) : Int))), (75, .d (I (w64 (x75 + 1))))] (ob c3 :: ob (i0 h4) :: ob o6 :: ob o7 :: ob (i0 h5) :: ob o8 :: ob (i0 h6) :: ob o9 :: (rpN 6 (ob c4) (rpN 4 (ob c5) (rpN 7 (ob c6) [ob c5, ob c6, ob c5])))) (by kernel_rfl) fun st0 h0 => hJ5 st0 _ ((true, w64 (x75 + 1)), m5) hl2 (Nat.lt_succ_self m5) h0 inferInstance
          ·have o10 := (⟨rfl, rfl, ent_ok (fun _ => rfl) in_⟩ : A.opq (mapQ (entL F0_ eB in_)) = A.opq (mapQ (entL F0_ eB in_)) ∧ (okAgg [.i64, .i64]) (F0_ (Arr2.mk Row_e_e.To Row_e_e1.To)) = true ∧ ∀ p ∈ entL F0_ eB in_, (okAgg [.i64, .i64]) p.1 = true)
           obtain ⟨val1, h7, hf2⟩ := bindE hf2
           replace h7 := someE h7
           have o11 := (get1 (f := F0_) (g := eB) (z0 := false) (z := .atom (.bool false)) rfl (Arr2.mk Row_e_e.To Row_e_e1.To) in_).trans (congrArg eB h7)
           obtain rfl := someE hf2
           exact awpBack ((xLook mt_130 108 (entL F0_ eB in_)).or X0) TTab_ok hC hm [3,4,9,12,14,62,63,64,73,74,75] 4000 (bT :: .a (F9_ Row_e_e) :: .a (F13_ Row_e1) :: .a (F9_ Row_e_e1) :: (rpN 10 bT (rpN 7 bF [.a (eB val1), bT, bF, bT]))) J5 [(3, .own (.box (F22_ a_))), (4, .own (.box (F22_ b_))), (9, .own (.opq (mapQ (entL F0_ eB in_)))), (12, .d (B val1)), (14, .own (.box (F0_ r__e))), (62, .d (eSl 2 false F0_ r_)), (63, .d (I ((r_.length : Nat) : Int))), (64, .d (I x64)), (73, .d (eSl 2 false F9_ Row_e)), (74, .d (I ((Row_e.length : Nat) : Int))), (75, .d (I (w64 (x75 + 1))))] (ob c3 :: ob (i0 h4) :: ob o6 :: ob o7 :: ob (i0 h5) :: ob o8 :: ob (i0 h6) :: ob o9 :: (rpN 6 (ob c4) (rpN 4 (ob c5) (rpN 7 (ob c6) [ob o10, ob o11, ob c5, ob c6, ob c5])))) (by kernel_rfl) fun st0 h0 => hJ5 st0 _ ((val1, w64 (x75 + 1)), m5) hl2 (Nat.lt_succ_self m5) h0 inferInstance
         ·obtain rfl := someE hf2
          exact awpBack X0 TTab_ok hC hm [3,4,9,12,14,62,63,64,73,74,75] 4000 (bT :: .a (F9_ Row_e_e) :: .a (F13_ Row_e1) :: .a (F9_ Row_e_e1) :: (rpN 6 bT (rpN 6 bF []))) J5 [(3, .own (.box (F22_ a_))), (4, .own (.box (F22_ b_))), (9, .own (.opq (mapQ (entL F0_ eB in_)))), (12, .d (B false)), (14, .own (.box (F0_ r__e))), (62, .d (eSl 2 false F0_ r_)), (63, .d (I ((r_.length : Nat) : Int))), (64, .d (I x64)), (73, .d (eSl 2 false F9_ Row_e)), (74, .d (I ((Row_e.length : Nat) : Int))), (75, .d (I (w64 (x75 + 1))))] (ob c3 :: ob (i0 h4) :: ob o6 :: ob o7 :: ob (i0 h5) :: ob o8 :: ob (i0 h6) :: ob o9 :: (rpN 6 (ob c4) (rpN 6 (ob c5) []))) (by kernel_rfl) fun st0 h0 => hJ5 st0 _ ((false, w64 (x75 + 1)), m5) hl2 (Nat.lt_succ_self m5) h0 inferInstance
        ·obtain rfl := someE hf2
         exact awpBack X0 TTab_ok hC hm [3,4,9,12,14,62,63,64,73,74,75] 4000 (bT :: .a (F9_ Row_e_e) :: .a (F13_ Row_e1) :: .a (F9_ Row_e_e1) :: (rpN 12 bF [])) J5 [(3, .own (.box (F22_ a_))), (4, .own (.box (F22_ b_))), (9, .own (.opq (mapQ (entL F0_ eB in_)))), (12, .d (B false)), (14, .own (.box (F0_ r__e))), (62, .d (eSl 2 false F0_ r_)), (63, .d (I ((r_.length : Nat) : Int))), (64, .d (I x64)), (73, .d (eSl 2 false F9_ Row_e)), (74, .d (I ((Row_e.length : Nat) : Int))), (75, .d (I (w64 (x75 + 1))))] (ob c3 :: ob (i0 h4) :: ob o6 :: ob o7 :: ob (i0 h5) :: ob o8 :: ob (i0 h6) :: ob o9 :: (rpN 6 (ob c4) (rpN 6 oF []))) (by kernel_rfl) fun st0 h0 => hJ5 st0 _ ((false, w64 (x75 + 1)), m5) hl2 (Nat.lt_succ_self m5) h0 inferInstance
       ·obtain rfl := someE hf2
        obtain rfl := hl2
        exact awpBack X0 TTab_ok hC hm [3,4,9,12,62,63,64] 4000 [bF] J4 [(3, .own (.box (F22_ a_))), (4, .own (.box (F22_ b_))), (9, .own (.opq (mapQ (entL F0_ eB in_)))), (12, .d (B is3)), (62, .d (eSl 2 false F0_ r_)), (63, .d (I ((r_.length : Nat) : Int))), (64, .d (I x64))] [ob c3] (by kernel_rfl) fun st0 h0 => hJ4 st0 _ is3 hf1 h0 inferInstance
     ·obtain rfl := someE hf1
      obtain rfl := hl1
      exact awpBack X0 TTab_ok hC hm [12] 4000 [bF] J2 [(12, .d (B is1))] [ob c2] (by kernel_rfl) fun st0 h0 => hJ2 st0 _ is1 hf0 h0 inferInstance
   ·obtain ⟨t6, ht6, hf0⟩ := bindE hf0
    refine awpAt X0 TTab_ok hC hm [2,3,4,9,28,29,30] 4000 [aLn r_.length] (sub [1,1,1,1,2,1,0] bd_equals_CheckRelation) (frs [1,1,1,1,2,1,0] [J1] bd_equals_CheckRelation []) [(2, .d (eSl 2 false F0_ r_)), (3, .own (.box (F22_ a_))), (4, .own (.box (F22_ b_))), (9, .own (.opq (mapQ (entL F0_ eB ([] : List ((Arr2 Int) × Bool)))))), (28, .d (eSl 2 false F0_ r_)), (29, .d (I ((r_.length : Nat) : Int))), (30, .d (I 0))] [ob (lnM F0_ r_)] (by kernel_rfl) fun st0 h0 => ?_
    refine awpLoop' (X := ((List ((Arr2 Int) × Bool)) × Int) × Nat) (c' := (sub [1,1,1,1,2,1,0,0] bd_equals_CheckRelation)) (by kernel_rfl) [2,3,4,9,28,29,30] (fun x => loopN (fun s => equals_CheckRelation_L6 a_ b_ r_ s.1 s.2) x.2 x.1 = some t6) (fun x => x.2) (fun x => ST_equals_CheckRelation_L6 a_ b_ r_ x.1.1 x.1.2) ((([] : List ((Arr2 Int) × Bool)), 0), fuel) _ h0 inferInstance ht6 ?_
    rintro ⟨⟨in_1, x30⟩, n6⟩ hn6 J6 hJ6
    obtain ⟨m6, lr1, rfl, hf1, hl1⟩ := loopE hn6
    try unfold equals_CheckRelation_L6 at hf1
    rcases bifE hf1 with ⟨c7, hf1⟩ | ⟨c7, hf1⟩
    ·obtain ⟨r__e1, h8, hf1⟩ := bindE hf1
     have o12 := (⟨rfl, by decide⟩ : true = true ∧ 0 < 2)
     have o13 := (⟨rfl, by decide⟩ : true = true ∧ 1 < 2)
     rcases bifE hf1 with ⟨c8, hf1⟩ | ⟨c8, hf1⟩
     ·obtain rfl := someE hf1
      obtain rfl := hl1
      obtain rfl := someE hf0
      exact awpEnd X0 TTab_ok hC hm hE 4000 (hs := (bT :: .a (F0_ r__e1) :: (rpN 15 bT []))) (x := (.tup [B false, I 1])) (ob c7 :: ob (i0 h8) :: ob (iM F0_ h8) :: ob o12 :: ob o13 :: (rpN 7 (ob c8) (rpN 8 oT []))) (by kernel_rfl) (LeV.refl _)
     ·have o14 := (⟨rfl, by decide⟩ : true = true ∧ 0 < 2)
      have o15 := lnM F13_ a_.Rows
      rcases bifE hf1 with ⟨c9, hf1⟩ | ⟨c9, hf1⟩
      ·obtain rfl := someE hf1
       obtain rfl := hl1
       obtain rfl := someE hf0
       exact awpEnd X0 TTab_ok hC hm hE 4000 (hs := (bT :: .a (F0_ r__e1) :: (rpN 5 bF (aLn a_.Rows.length :: bF :: bF :: (rpN 8 bT []))))) (x := (.tup [B false, I 1])) (ob c7 :: ob (i0 h8) :: ob (iM F0_ h8) :: ob o12 :: ob o13 :: ob c8 :: ob o14 :: (rpN 4 (ob c8) (ob o15 :: ob c8 :: ob c8 :: (rpN 7 (ob c9) [oT])))) (by kernel_rfl) (LeV.refl _)
      ·have o16 := (⟨rfl, by decide⟩ : true = true ∧ 1 < 2)
       have o17 := lnM F13_ b_.Rows
       rcases bifE hf1 with ⟨c10, hf1⟩ | ⟨c10, hf1⟩
       ·obtain rfl := someE hf1
        obtain rfl := hl1
        obtain rfl := someE hf0
        exact awpEnd X0 TTab_ok hC hm hE 4000 (hs := (bT :: .a (F0_ r__e1) :: (rpN 5 bF (aLn a_.Rows.length :: (rpN 7 bF [aLn b_.Rows.length, bF, bF, bT]))))) (x := (.tup [B false, I 1])) (ob c7 :: ob (i0 h8) :: ob (iM F0_ h8) :: ob o12 :: ob o13 :: ob c8 :: ob o14 :: (rpN 4 (ob c8) (ob o15 :: ob c8 :: ob c8 :: ob c9 :: ob o16 :: (rpN 4 (ob c9) [ob o17, ob c9, ob c9, ob c10])))) (by kernel_rfl) (LeV.refl _)
       ·have o18 := (⟨rfl, rfl, rfl, rfl, ent_ok (fun _ => rfl) in_1⟩ : T.own (.opq (mapQ (entL F0_ eB in_1))) = T.own (.opq (mapQ (entL F0_ eB in_1))) ∧ 0 = 0 ∧ (okAgg [.i64, .i64]) (F0_ r__e1) = true ∧ (eB true).isD = true ∧ ∀ p ∈ entL F0_ eB in_1, (okAgg [.i64, .i64]) p.1 = true)
        have o19 := put_set (f := F0_) (g := eB) r__e1 true in_1
        obtain rfl := someE hf1
        exact awpBack ((xUpd mt_130 56 (entL F0_ eB in_1) (entL F0_ eB (mset in_1 r__e1 true))).or X0) TTab_ok hC hm [2,3,4,9,28,29,30] 4000 (bT :: .a (F0_ r__e1) :: (rpN 5 bF (aLn a_.Rows.length :: (rpN 7 bF [aLn b_.Rows.length, bF, bF, bF])))) J6 [(2, .d (eSl 2 false F0_ r_)), (3, .own (.box (F22_ a_))), (4, .own (.box (F22_ b_))), (9, .own (.opq (mapQ (entL F0_ eB (mset in_1 r__e1 true))))), (28, .d (eSl 2 false F0_ r_)), (29, .d (I ((r_.length : Nat) : Int))), (30, .d (I (w64 (x30 + 1))))] (ob c7 :: ob (i0 h8) :: ob (iM F0_ h8) :: ob o12 :: ob o13 :: ob c8 :: ob o14 :: (rpN 4 (ob c8) (ob o15 :: ob c8 :: ob c8 :: ob c9 :: ob o16 :: (rpN 4 (ob c9) [ob o17, ob c9, ob c9, ob c10, ob o18, ob o19])))) (by kernel_rfl) fun st0 h0 => hJ6 st0 _ (((mset in_1 r__e1 true), w64 (x30 + 1)), m6) hl1 (Nat.lt_succ_self m6) h0 inferInstance
    ·obtain rfl := someE hf1
     obtain rfl := hl1
     exact awpBack X0 TTab_ok hC hm [2,3,4,9] 4000 [bF] J1 [(2, .d (eSl 2 false F0_ r_)), (3, .own (.box (F22_ a_))), (4, .own (.box (F22_ b_))), (9, .own (.opq (mapQ (entL F0_ eB in_1))))] [ob c7] (by kernel_rfl) fun st0 h0 => hJ1 st0 _ in_1 hf0 h0 inferInstance
noncomputable def bd_ref01_Compare : Code := (Try.f74.body).getD .skip
noncomputable def sp_ref01_Compare : Spec := spF (α := List Int × List Int) (ρ := Int) 74 (fun x => [F5_ x.1, F5_ x.2]) (fun r => (eI .i64) r) (fun x => ref01_Compare x.1 x.2) [] (by
 rintro ⟨a0, a1⟩ ⟨b0, b1⟩ h
 simp only [List.cons.injEq, and_true] at h
 have e0 := EncI.inj (f := F5_) _ _ h.1
 have e1 := EncI.inj (f := F5_) _ _ h.2
 subst e0 e1
 rfl)
abbrev ST_ref01_Compare_J1 : List (Nat × T) := []
abbrev ST_ref01_Compare_L2 (a_ : List Int) (b_ : List Int) (i_ : Int) : List (Nat × T) := [(0, .d (eSl 1 false (eI .i64) a_)), (1, .d (eSl 1 false (eI .i64) b_)), (5, .d (I i_))]
theorem w_ref01_Compare {ctr : Ctr} (hC : CtrOk Try.prog ctr) (hm : Try.prog.follows .mixedOrders = true) : sp_ref01_Compare.Ok Try.prog := by
 refine spF_ok ?_
 rintro ⟨a_, b_⟩ r0 hf0
 try unfold ref01_Compare at hf0
 refine callOk_h (tt := TTab) (keep := true) (rs := [(4, none)]) (n := ⟨40, []⟩) (body := bd_ref01_Compare) TTab_ok Try.func74 rfl (by kernel_rfl) rfl rfl (by show (2 : Nat) ≤ 40; decide) fun E hE => ?_
 rcases bifE hf0 with ⟨c0, hf0⟩ | ⟨c0, hf0⟩
 ·obtain rfl := someE hf0
  exact awpEnd X0 TTab_ok hC hm hE 4000 (hs := [aLn a_.length, aLn b_.length, bT]) (x := (I (-1))) [ob (lnM (eI .i64) a_), ob (lnM (eI .i64) b_), ob c0] (by kernel_rfl) (LeV.refl _)
 ·rcases bifE hf0 with ⟨c1, hf0⟩ | ⟨c1, hf0⟩
  ·obtain rfl := someE hf0
   exact awpEnd X0 TTab_ok hC hm hE 4000 (hs := [aLn a_.length, aLn b_.length, bF, aLn a_.length, aLn b_.length, bT]) (x := (I 1)) [ob (lnM (eI .i64) a_), ob (lnM (eI .i64) b_), ob c0, ob (lnM (eI .i64) a_), ob (lnM (eI .i64) b_), ob c1] (by kernel_rfl) (LeV.refl _)
  ·refine awpAt X0 TTab_ok hC hm [0,1] 4000 [aLn a_.length, aLn b_.length, bF, aLn a_.length, aLn b_.length, bF, .cut 0] (sub [1,1,1] bd_ref01_Compare) (frs [1,1,1] [] bd_ref01_Compare []) [(0, .d (eSl 1 false (eI .i64) a_)), (1, .d (eSl 1 false (eI .i64) b_))] [ob (lnM (eI .i64) a_), ob (lnM (eI .i64) b_), ob c0, ob (lnM (eI .i64) a_), ob (lnM (eI .i64) b_), ob c1] (by kernel_rfl) fun st0 h0 => ?_
   refine awpJoin' (X := Unit) (x := (sub [1,1,1,2] bd_ref01_Compare)) (y := (sub [1,1,1,1] bd_ref01_Compare)) (by kernel_rfl) [] [0,1] _ h0 (fun z => ref01_Compare_J1 = some r0) (fun z => ST_ref01_Compare_J1) ?_ fun J1 hJ1 => ?_
   ·rintro ⟨⟩ hf0
    unfold ref01_Compare_J1 at hf0
    obtain rfl := someE hf0
    exact awpEnd X0 TTab_ok hC hm hE 4000 (hs := []) (x := (I 0)) [] (by kernel_rfl) (LeV.refl _)
   ·obtain ⟨t2, ht2, hf0⟩ := bindE hf0
    refine awpAt X0 TTab_ok hC hm [0,1,5] 4000 [] (sub [1,1,1,2,1,0] bd_ref01_Compare) (frs [1,1,1,2,1,0] [J1] bd_ref01_Compare []) [(0, .d (eSl 1 false (eI .i64) a_)), (1, .d (eSl 1 false (eI .i64) b_)), (5, .d (I 0))] [] (by kernel_rfl) fun st0 h0 => ?_
    refine awpLoop' (X := Int × Nat) (c' := (sub [1,1,1,2,1,0,0] bd_ref01_Compare)) (by kernel_rfl) [0,1,5] (fun x => loopN (fun s => ref01_Compare_L2 a_ b_ s) x.2 x.1 = some t2) (fun x => x.2) (fun x => ST_ref01_Compare_L2 a_ b_ x.1) (0, fuel) _ h0 inferInstance ht2 ?_
    rintro ⟨i_, n2⟩ hn2 J2 hJ2
    obtain ⟨m2, lr1, rfl, hf1, hl1⟩ := loopE hn2
    try unfold ref01_Compare_L2 at hf1
    rcases bifE hf1 with ⟨c2, hf1⟩ | ⟨c2, hf1⟩
    ·obtain ⟨a__e, h0, hf1⟩ := bindE hf1
     obtain ⟨b__e, h1, hf1⟩ := bindE hf1
     rcases bifE hf1 with ⟨c3, hf1⟩ | ⟨c3, hf1⟩
     ·obtain rfl := someE hf1
      obtain rfl := hl1
      obtain rfl := someE hf0
      exact awpEnd X0 TTab_ok hC hm hE 4000 (hs := [aLn a_.length, bT, .a ((eI .i64) a__e), .a ((eI .i64) b__e), bT]) (x := (I (-1))) [ob (lnM (eI .i64) a_), ob c2, ob (i0 h0), ob (iM (eI .i64) h0), ob (i0 h1), ob (iM (eI .i64) h1), ob c3] (by kernel_rfl) (LeV.refl _)
     ·obtain ⟨a__e1, h2, hf1⟩ := bindE hf1
      obtain ⟨b__e1, h3, hf1⟩ := bindE hf1
      rcases bifE hf1 with ⟨c4, hf1⟩ | ⟨c4, hf1⟩
      ·obtain rfl := someE hf1
       obtain rfl := hl1
       obtain rfl := someE hf0
       exact awpEnd X0 TTab_ok hC hm hE 4000 (hs := [aLn a_.length, bT, .a ((eI .i64) a__e), .a ((eI .i64) b__e), bF, .a ((eI .i64) a__e1), .a ((eI .i64) b__e1), bT]) (x := (I 1)) [ob (lnM (eI .i64) a_), ob c2, ob (i0 h0), ob (iM (eI .i64) h0), ob (i0 h1), ob (iM (eI .i64) h1), ob c3, ob (i0 h2), ob (iM (eI .i64) h2), ob (i0 h3), ob (iM (eI .i64) h3), ob c4] (by kernel_rfl) (LeV.refl _)
      ·obtain rfl := someE hf1
       exact awpBack X0 TTab_ok hC hm [0,1,5] 4000 [aLn a_.length, bT, .a ((eI .i64) a__e), .a ((eI .i64) b__e), bF, .a ((eI .i64) a__e1), .a ((eI .i64) b__e1), bF] J2 [(0, .d (eSl 1 false (eI .i64) a_)), (1, .d (eSl 1 false (eI .i64) b_)), (5, .d (I (w64 (i_ + 1))))] [ob (lnM (eI .i64) a_), ob c2, ob (i0 h0), ob (iM (eI .i64) h0), ob (i0 h1), ob (iM (eI .i64) h1), ob c3, ob (i0 h2), ob (iM (eI .i64) h2), ob (i0 h3), ob (iM (eI .i64) h3), ob c4] (by kernel_rfl) fun st0 h0 => hJ2 st0 _ (w64 (i_ + 1), m2) hl1 (Nat.lt_succ_self m2) h0 inferInstance
    ·obtain rfl := someE hf1
     obtain rfl := hl1
     exact awpBack X0 TTab_ok hC hm [] 4000 [aLn a_.length, bF] J1 [] [ob (lnM (eI .i64) a_), ob c2] (by kernel_rfl) fun st0 h0 => hJ1 st0 _ () hf0 h0 inferInstance
noncomputable def bd_ref01_Same : Code := (Try.f34.body).getD .skip
noncomputable def sp_ref01_Same : Spec := spF (α := List Int × List Int) (ρ := Bool) 34 (fun x => [F5_ x.1, F5_ x.2]) (fun r => eB r) (fun x => ref01_Same x.1 x.2) [] (by
 rintro ⟨a0, a1⟩ ⟨b0, b1⟩ h
 simp only [List.cons.injEq, and_true] at h
 have e0 := EncI.inj (f := F5_) _ _ h.1
 have e1 := EncI.inj (f := F5_) _ _ h.2
 subst e0 e1
 rfl)
theorem w_ref01_Same {ctr : Ctr} (hC : CtrOk Try.prog ctr) (hm : Try.prog.follows .mixedOrders = true) (h_ref01_Compare : ctr.Has sp_ref01_Compare) : sp_ref01_Same.Ok Try.prog := by
 refine spF_ok ?_
 rintro ⟨a_, b_⟩ r0 hf0
 try unfold ref01_Same at hf0
 refine callOk_h (tt := TTab) (keep := true) (rs := [(4, none)]) (n := ⟨9, []⟩) (body := bd_ref01_Same) TTab_ok Try.func34 rfl (by kernel_rfl) rfl rfl (by show (2 : Nat) ≤ 9; decide) fun E hE => ?_
 obtain ⟨r_, h0, hf0⟩ := bindE hf0
 have o0 := hasF h_ref01_Compare (x := (a_, b_)) h0 (loC F5_ a_ <| loC F5_ b_ <| loN)
 obtain rfl := someE hf0
 exact awpEnd X0 TTab_ok hC hm hE 4000 (hs := [.g [], .a ((eI .i64) r_)]) (x := (B (r_ == 0))) [ob (hasG h_ref01_Compare), ob o0] (by kernel_rfl) (LeV.refl _)
noncomputable def bd_law10_list : Code := (Try.f33.body).getD .skip
noncomputable def sp_law10_list : Spec := spF (α := List Int × Int × List Int × Int) (ρ := Bool) 33 (fun x => [F2_ x.1, (eI .i64) x.2.1, F5_ x.2.2.1, (eI .i64) x.2.2.2]) (fun r => eB r) (fun x => law10_list x.1 x.2.1 x.2.2.1 x.2.2.2) [] (by
 rintro ⟨a0, a1, a2, a3⟩ ⟨b0, b1, b2, b3⟩ h
 simp only [List.cons.injEq, and_true] at h
 have e0 := EncI.inj (f := F2_) _ _ h.1
 have e1 := EncI.inj (f := (eI .i64)) _ _ h.2.1
 have e2 := EncI.inj (f := F5_) _ _ h.2.2.1
 have e3 := EncI.inj (f := (eI .i64)) _ _ h.2.2.2
 subst e0 e1 e2 e3
 rfl)
theorem w_law10_list {ctr : Ctr} (hC : CtrOk Try.prog ctr) (hm : Try.prog.follows .mixedOrders = true) (h_ref01_Same : ctr.Has sp_ref01_Same) : sp_law10_list.Ok Try.prog := by
 refine spF_ok ?_
 rintro ⟨l_, e_, want, f_⟩ r0 hf0
 try unfold law10_list at hf0
 refine callOk_h (tt := TTab) (keep := true) (rs := [(8, none)]) (n := ⟨24, []⟩) (body := bd_law10_list) TTab_ok Try.func33 rfl (by kernel_rfl) rfl rfl (by show (4 : Nat) ≤ 24; decide) fun E hE => ?_
 rcases bifE hf0 with ⟨c0, hf0⟩ | ⟨c0, hf0⟩
 ·obtain ⟨r_, h0, hf0⟩ := bindE hf0
  have o0 := hasF h_ref01_Same (x := (l_, want)) h0 (loC F2_ l_ <| loC F5_ want <| loN)
  rcases bifE hf0 with ⟨c1, hf0⟩ | ⟨c1, hf0⟩
  ·obtain rfl := someE hf0
   exact awpEnd X0 TTab_ok hC hm hE 4000 (hs := [bT, bT, bT, .g [], .a (eB r_), bT, bT, bT, aLn l_.length, bT, bT, aLn l_.length, bT, bT]) (x := (B (((l_.length : Nat) : Int) == ((l_.length : Nat) : Int)))) [ob c0, ob c0, ob c0, ob (hasG h_ref01_Same), ob o0, ob c0, ob c1, ob c1, ob (lnM (eI .i64) l_), ob c1, ob c1, ob (lnM (eI .i64) l_), ob c1, ob c1] (by kernel_rfl) (LeV.refl _)
  ·obtain rfl := someE hf0
   exact awpEnd X0 TTab_ok hC hm hE 4000 (hs := (bT :: bT :: bT :: .g [] :: .a (eB r_) :: bT :: (rpN 6 bF []))) (x := (B false)) (ob c0 :: ob c0 :: ob c0 :: ob (hasG h_ref01_Same) :: ob o0 :: ob c0 :: (rpN 6 (ob c1) [])) (by kernel_rfl) (LeV.refl _)
 ·obtain rfl := someE hf0
  exact awpEnd X0 TTab_ok hC hm hE 4000 (hs := (rpN 10 bF [])) (x := (B false)) (rpN 4 (ob c0) (rpN 6 oF [])) (by kernel_rfl) (LeV.refl _)
noncomputable def bd_law10_pairs : Code := (Try.f43.body).getD .skip
noncomputable def sp_law10_pairs : Spec := spF (α := List (Arr2 Int) × List (Arr2 Int)) (ρ := Bool) 43 (fun x => [F7_ x.1, F8_ x.2]) (fun r => eB r) (fun x => law10_pairs x.1 x.2) [] (by
 rintro ⟨a0, a1⟩ ⟨b0, b1⟩ h
 simp only [List.cons.injEq, and_true] at h
 have e0 := EncI.inj (f := F7_) _ _ h.1
 have e1 := EncI.inj (f := F8_) _ _ h.2
 subst e0 e1
 rfl)
abbrev ST_law10_pairs_J1 : List (Nat × T) := []
abbrev ST_law10_pairs_L2 (a_ : List (Arr2 Int)) (b_ : List (Arr2 Int)) (k_ : Int) : List (Nat × T) := [(0, .d (eSl 2 true F0_ a_)), (1, .d (eSl 2 false F0_ b_)), (5, .d (I k_))]
theorem w_law10_pairs {ctr : Ctr} (hC : CtrOk Try.prog ctr) (hm : Try.prog.follows .mixedOrders = true) : sp_law10_pairs.Ok Try.prog := by
 refine spF_ok ?_
 rintro ⟨a_, b_⟩ r0 hf0
 try unfold law10_pairs at hf0
 refine callOk_h (tt := TTab) (keep := true) (rs := [(4, none)]) (n := ⟨33, []⟩) (body := bd_law10_pairs) TTab_ok Try.func43 rfl (by kernel_rfl) rfl rfl (by show (2 : Nat) ≤ 33; decide) fun E hE => ?_
 rcases bifE hf0 with ⟨c0, hf0⟩ | ⟨c0, hf0⟩
 ·obtain rfl := someE hf0
  exact awpEnd X0 TTab_ok hC hm hE 4000 (hs := (aLn a_.length :: aLn b_.length :: (rpN 7 bT []))) (x := (B false)) (ob (lnM F0_ a_) :: ob (lnM F0_ b_) :: (rpN 6 (ob c0) [oT])) (by kernel_rfl) (LeV.refl _)
 ·rcases bifE hf0 with ⟨c1, hf0⟩ | ⟨c1, hf0⟩
  ·obtain rfl := someE hf0
   exact awpEnd X0 TTab_ok hC hm hE 4000 (hs := [aLn a_.length, aLn b_.length, bF, bF, aLn a_.length, bF, bF, aLn a_.length, bF, bF, bT]) (x := (B false)) [ob (lnM F0_ a_), ob (lnM F0_ b_), ob c0, ob c0, ob (lnM F0_ a_), ob c0, ob c0, ob (lnM F0_ a_), ob c0, ob c0, ob c1] (by kernel_rfl) (LeV.refl _)
  ·refine awpAt X0 TTab_ok hC hm [0,1] 4000 [aLn a_.length, aLn b_.length, bF, bF, aLn a_.length, bF, bF, aLn a_.length, bF, bF, bF, .cut 0] (sub [1,1] bd_law10_pairs) (frs [1,1] [] bd_law10_pairs []) [(0, .d (eSl 2 true F0_ a_)), (1, .d (eSl 2 false F0_ b_))] [ob (lnM F0_ a_), ob (lnM F0_ b_), ob c0, ob c0, ob (lnM F0_ a_), ob c0, ob c0, ob (lnM F0_ a_), ob c0, ob c0, ob c1] (by kernel_rfl) fun st0 h0 => ?_
   refine awpJoin' (X := Unit) (x := (sub [1,1,2] bd_law10_pairs)) (y := (sub [1,1,1] bd_law10_pairs)) (by kernel_rfl) [] [0,1] _ h0 (fun z => law10_pairs_J1 = some r0) (fun z => ST_law10_pairs_J1) ?_ fun J1 hJ1 => ?_
   ·rintro ⟨⟩ hf0
    unfold law10_pairs_J1 at hf0
    obtain rfl := someE hf0
    exact awpEnd X0 TTab_ok hC hm hE 4000 (hs := []) (x := (B true)) [] (by kernel_rfl) (LeV.refl _)
   ·obtain ⟨t2, ht2, hf0⟩ := bindE hf0
    refine awpAt X0 TTab_ok hC hm [0,1,5] 4000 [] (sub [1,1,2,1,0] bd_law10_pairs) (frs [1,1,2,1,0] [J1] bd_law10_pairs []) [(0, .d (eSl 2 true F0_ a_)), (1, .d (eSl 2 false F0_ b_)), (5, .d (I 0))] [] (by kernel_rfl) fun st0 h0 => ?_
    refine awpLoop' (X := Int × Nat) (c' := (sub [1,1,2,1,0,0] bd_law10_pairs)) (by kernel_rfl) [0,1,5] (fun x => loopN (fun s => law10_pairs_L2 a_ b_ s) x.2 x.1 = some t2) (fun x => x.2) (fun x => ST_law10_pairs_L2 a_ b_ x.1) (0, fuel) _ h0 inferInstance ht2 ?_
    rintro ⟨k_, n2⟩ hn2 J2 hJ2
    obtain ⟨m2, lr1, rfl, hf1, hl1⟩ := loopE hn2
    try unfold law10_pairs_L2 at hf1
    rcases bifE hf1 with ⟨c2, hf1⟩ | ⟨c2, hf1⟩
    ·obtain ⟨a__e, h0, hf1⟩ := bindE hf1
     obtain ⟨b__e, h1, hf1⟩ := bindE hf1
     rcases bifE hf1 with ⟨c3, hf1⟩ | ⟨c3, hf1⟩
     ·obtain rfl := someE hf1
      obtain rfl := hl1
      obtain rfl := someE hf0
      exact awpEnd X0 TTab_ok hC hm hE 4000 (hs := [aLn a_.length, bT, .a (F0_ a__e), .a (F0_ b__e), bT]) (x := (B false)) [ob (lnM F0_ a_), ob c2, ob (i0 h0), ob (iM F0_ h0), ob (i0 h1), ob (iM F0_ h1), ob c3] (by kernel_rfl) (LeV.refl _)
     ·obtain rfl := someE hf1
      exact awpBack X0 TTab_ok hC hm [0,1,5] 4000 [aLn a_.length, bT, .a (F0_ a__e), .a (F0_ b__e), bF] J2 [(0, .d (eSl 2 true F0_ a_)), (1, .d (eSl 2 false F0_ b_)), (5, .d (I (w64 (k_ + 1))))] [ob (lnM F0_ a_), ob c2, ob (i0 h0), ob (iM F0_ h0), ob (i0 h1), ob (iM F0_ h1), ob c3] (by kernel_rfl) fun st0 h0 => hJ2 st0 _ (w64 (k_ + 1), m2) hl1 (Nat.lt_succ_self m2) h0 inferInstance
    ·obtain rfl := someE hf1
     obtain rfl := hl1
     exact awpBack X0 TTab_ok hC hm [] 4000 [aLn a_.length, bF] J1 [] [ob (lnM F0_ a_), ob c2] (by kernel_rfl) fun st0 h0 => hJ1 st0 _ () hf0 h0 inferInstance
noncomputable def bd_law10_lives : Code := (Try.f36.body).getD .skip
noncomputable def sp_law10_lives : Spec := spF (α := Unit) (ρ := Bool) 36 (fun x => []) (fun r => eB r) (fun x => law10_lives) [] (fun _ _ _ => rfl)
theorem w_law10_lives {ctr : Ctr} (hC : CtrOk Try.prog ctr) (hm : Try.prog.follows .mixedOrders = true) (h_law10_edge : ctr.Has sp_law10_edge) (h_equals_Differ : ctr.Has sp_equals_Differ) (h_equals_Equal : ctr.Has sp_equals_Equal) (h_equals_Relate : ctr.Has sp_equals_Relate) (h_equals_Within : ctr.Has sp_equals_Within) (h_equals_CheckRelation : ctr.Has sp_equals_CheckRelation) (h_law10_list : ctr.Has sp_law10_list) (h_law10_pairs : ctr.Has sp_law10_pairs) : sp_law10_lives.Ok Try.prog := by
 refine spF_ok ?_
 rintro ⟨⟩ r0 hf0
 try unfold law10_lives at hf0
 refine callOk_h (tt := TTab) (keep := true) (rs := [(0, none)]) (n := ⟨221, []⟩) (body := bd_law10_lives) TTab_ok Try.func36 rfl (by kernel_rfl) rfl rfl (by show (0 : Nat) ≤ 221; decide) fun E hE => ?_
 obtain ⟨r_, h0, hf0⟩ := bindE hf0
 have o0 := hasF h_law10_edge (x := (1,0)) h0 (loC (eI .i64) 1 <| loC (eI .i64) 0 <| loN)
 obtain ⟨r_1, h1, hf0⟩ := bindE hf0
 have o1 := hasF h_law10_edge (x := (2,0)) h1 (loC (eI .i64) 2 <| loC (eI .i64) 0 <| loN)
 obtain ⟨r_2, h2, hf0⟩ := bindE hf0
 have o2 := hasF h_law10_edge (x := (0,1)) h2 (loC (eI .i64) 0 <| loC (eI .i64) 1 <| loN)
 obtain ⟨r_3, h3, hf0⟩ := bindE hf0
 have o3 := hasF h_law10_edge (x := (1,0)) h3 (loC (eI .i64) 1 <| loC (eI .i64) 0 <| loN)
 obtain ⟨r_4, h4, hf0⟩ := bindE hf0
 have o4 := hasF h_law10_edge (x := (2,0)) h4 (loC (eI .i64) 2 <| loC (eI .i64) 0 <| loN)
 obtain ⟨r_5, h5, hf0⟩ := bindE hf0
 have o5 := hasF h_law10_edge (x := (3,1)) h5 (loC (eI .i64) 3 <| loC (eI .i64) 1 <| loN)
 obtain ⟨r_6, h6, hf0⟩ := bindE hf0
 have o6 := hasF h_law10_edge (x := (1,0)) h6 (loC (eI .i64) 1 <| loC (eI .i64) 0 <| loN)
 obtain ⟨r_7, h7, hf0⟩ := bindE hf0
 have o7 := hasF h_law10_edge (x := (1,0)) h7 (loC (eI .i64) 1 <| loC (eI .i64) 0 <| loN)
 obtain ⟨r_8, h8, hf0⟩ := bindE hf0
 have o8 := hasF h_law10_edge (x := (2,0)) h8 (loC (eI .i64) 2 <| loC (eI .i64) 0 <| loN)
 obtain ⟨r_9, h9, hf0⟩ := bindE hf0
 have o9 := hasF h_law10_edge (x := (2,0)) h9 (loC (eI .i64) 2 <| loC (eI .i64) 0 <| loN)
 obtain ⟨r_10, h10, hf0⟩ := bindE hf0
 have o10 := hasF h_law10_edge (x := (0,0)) h10 (loC (eI .i64) 0 <| loC (eI .i64) 0 <| loN)
 obtain ⟨r_11, h11, hf0⟩ := bindE hf0
 have o11 := hasF h_law10_edge (x := (0,0)) h11 (loC (eI .i64) 0 <| loC (eI .i64) 0 <| loN)
 have o12 := shM F11_ F12_ ([[r_], [r_1], [r_2]])
 have o13 := shM F11_ F12_ ([[r_3], [r_4], [r_5], [r_6]])
 obtain ⟨r_12, h12, hf0⟩ := bindE hf0
 have o14 := hasF h_equals_Differ (x := ((S_api_Machine.mk 1 2 ([[r_], [r_1], [r_2]])), (S_api_Machine.mk 1 2 ([[r_3], [r_4], [r_5], [r_6]])))) h12 (loC F21_ (S_api_Machine.mk 1 2 ([[r_], [r_1], [r_2]])) <| loC F21_ (S_api_Machine.mk 1 2 ([[r_3], [r_4], [r_5], [r_6]])) <| loN)
 have o15 := shM F11_ F12_ ([[r_], [r_1], [r_2]])
 have o16 := shM F11_ F12_ ([[r_3], [r_4], [r_5], [r_6]])
 obtain ⟨r_13, h13, hf0⟩ := bindE hf0
 have o17 := hasF h_equals_Equal (x := ((S_api_Machine.mk 1 2 ([[r_], [r_1], [r_2]])), (S_api_Machine.mk 1 2 ([[r_3], [r_4], [r_5], [r_6]])))) h13 (loC F21_ (S_api_Machine.mk 1 2 ([[r_], [r_1], [r_2]])) <| loC F21_ (S_api_Machine.mk 1 2 ([[r_3], [r_4], [r_5], [r_6]])) <| loN)
 obtain ⟨r_14, h14, hf0⟩ := bindE hf0
 have o18 := hasF h_equals_Relate (x := ((S_api_Machine.mk 1 2 ([[r_], [r_1], [r_2]])), (S_api_Machine.mk 1 2 ([[r_3], [r_4], [r_5], [r_6]])))) h14 (loC F21_ (S_api_Machine.mk 1 2 ([[r_], [r_1], [r_2]])) <| loC F21_ (S_api_Machine.mk 1 2 ([[r_3], [r_4], [r_5], [r_6]])) <| loN)
 have o19 := shM F11_ F12_ ([[r_7], [r_8], [r_9]])
 obtain ⟨r_15, h15, hf0⟩ := bindE hf0
 have o20 := hasF h_equals_Differ (x := ((S_api_Machine.mk 1 2 ([[r_], [r_1], [r_2]])), (S_api_Machine.mk 1 2 ([[r_7], [r_8], [r_9]])))) h15 (loC F21_ (S_api_Machine.mk 1 2 ([[r_], [r_1], [r_2]])) <| loC F21_ (S_api_Machine.mk 1 2 ([[r_7], [r_8], [r_9]])) <| loN)
 have o21 := shM F11_ F12_ ([[r_7], [r_8], [r_9]])
 obtain ⟨r_16, h16, hf0⟩ := bindE hf0
 have o22 := hasF h_equals_Within (x := ((S_api_Machine.mk 1 2 ([[r_], [r_1], [r_2]])), (S_api_Machine.mk 1 2 ([[r_7], [r_8], [r_9]])), 2)) h16 (loC F21_ (S_api_Machine.mk 1 2 ([[r_], [r_1], [r_2]])) <| loC F21_ (S_api_Machine.mk 1 2 ([[r_7], [r_8], [r_9]])) <| loC (eI .i64) 2 <| loN)
 obtain ⟨r_17, h17, hf0⟩ := bindE hf0
 have o23 := hasF h_equals_Within (x := ((S_api_Machine.mk 1 2 ([[r_], [r_1], [r_2]])), (S_api_Machine.mk 1 2 ([[r_7], [r_8], [r_9]])), 3)) h17 (loC F21_ (S_api_Machine.mk 1 2 ([[r_], [r_1], [r_2]])) <| loC F21_ (S_api_Machine.mk 1 2 ([[r_7], [r_8], [r_9]])) <| loC (eI .i64) 3 <| loN)
 have o24 := shM F0_ F0_ ([(Arr2.mk 0 0), (Arr2.mk 0 3), (Arr2.mk 1 1), (Arr2.mk 2 2)])
 obtain ⟨r_18, h18, hf0⟩ := bindE hf0
 have o25 := hasF h_equals_CheckRelation (x := ((S_api_Machine.mk 1 2 ([[r_], [r_1], [r_2]])), (S_api_Machine.mk 1 2 ([[r_3], [r_4], [r_5], [r_6]])), [(Arr2.mk 0 0), (Arr2.mk 0 3), (Arr2.mk 1 1), (Arr2.mk 2 2)])) h18 (loC F21_ (S_api_Machine.mk 1 2 ([[r_], [r_1], [r_2]])) <| loC F21_ (S_api_Machine.mk 1 2 ([[r_3], [r_4], [r_5], [r_6]])) <| loC F7_ ([(Arr2.mk 0 0), (Arr2.mk 0 3), (Arr2.mk 1 1), (Arr2.mk 2 2)] : List (Arr2 Int)) <| loN)
 have o26 := shM F0_ F0_ ([(Arr2.mk 0 0), (Arr2.mk 1 1)])
 obtain ⟨r_19, h19, hf0⟩ := bindE hf0
 have o27 := hasF h_equals_CheckRelation (x := ((S_api_Machine.mk 1 2 ([[r_], [r_1], [r_2]])), (S_api_Machine.mk 1 2 ([[r_3], [r_4], [r_5], [r_6]])), [(Arr2.mk 0 0), (Arr2.mk 1 1)])) h19 (loC F21_ (S_api_Machine.mk 1 2 ([[r_], [r_1], [r_2]])) <| loC F21_ (S_api_Machine.mk 1 2 ([[r_3], [r_4], [r_5], [r_6]])) <| loC F7_ ([(Arr2.mk 0 0), (Arr2.mk 1 1)] : List (Arr2 Int)) <| loN)
 have o28 := shM F11_ F12_ ([[r_10, r_11]])
 obtain ⟨r_20, h20, hf0⟩ := bindE hf0
 have o29 := hasF h_equals_Equal (x := ((S_api_Machine.mk 1 2 ([[r_], [r_1], [r_2]])), (S_api_Machine.mk 2 1 ([[r_10, r_11]])))) h20 (loC F21_ (S_api_Machine.mk 1 2 ([[r_], [r_1], [r_2]])) <| loC F21_ (S_api_Machine.mk 2 1 ([[r_10, r_11]])) <| loN)
 obtain ⟨r_21, h21, hf0⟩ := bindE hf0
 have o30 := hasF h_equals_Within (x := ((S_api_Machine.mk 1 2 ([[r_], [r_1], [r_2]])), (S_api_Machine.mk 1 2 ([[r_3], [r_4], [r_5], [r_6]])), (-1))) h21 (loC F21_ (S_api_Machine.mk 1 2 ([[r_], [r_1], [r_2]])) <| loC F21_ (S_api_Machine.mk 1 2 ([[r_3], [r_4], [r_5], [r_6]])) <| loC (eI .i64) (-1) <| loN)
 have o31 := shM F0_ F0_ ([(Arr2.mk 0 4)])
 obtain ⟨r_22, h22, hf0⟩ := bindE hf0
 have o32 := hasF h_equals_CheckRelation (x := ((S_api_Machine.mk 1 2 ([[r_], [r_1], [r_2]])), (S_api_Machine.mk 1 2 ([[r_3], [r_4], [r_5], [r_6]])), [(Arr2.mk 0 4)])) h22 (loC F21_ (S_api_Machine.mk 1 2 ([[r_], [r_1], [r_2]])) <| loC F21_ (S_api_Machine.mk 1 2 ([[r_3], [r_4], [r_5], [r_6]])) <| loC F7_ ([(Arr2.mk 0 4)] : List (Arr2 Int)) <| loN)
 refine awpAt X0 TTab_ok hC hm [5,6,7,8,9,10,11,12,13,14,15,16,17,18,19,20,21,22,23,25,27,29] 4000 [.g [], .a (F9_ r_), .g [], .a (F9_ r_1), .g [], .a (F9_ r_2), .g [], .a (F9_ r_3), .g [], .a (F9_ r_4), .g [], .a (F9_ r_5), .g [], .a (F9_ r_6), .g [], .a (F9_ r_7), .g [], .a (F9_ r_8), .g [], .a (F9_ r_9), .g [], .a (F9_ r_10), .g [], .a (F9_ r_11), .g [], .l (([[r_], [r_1], [r_2]]).map F12_), .l (([[r_3], [r_4], [r_5], [r_6]]).map F12_), .a (.tup [eSl 1 true (eI .i64) r_12.1, B r_12.2.1, I r_12.2.2]), .l (([[r_], [r_1], [r_2]]).map F12_), .l (([[r_3], [r_4], [r_5], [r_6]]).map F12_), .g [], .a (.tup [B r_13.1, I r_13.2]), .g [], .a (.tup [eSl 2 true F0_ r_14.1, B r_14.2.1, I r_14.2.2]), .g [], .l (([[r_7], [r_8], [r_9]]).map F12_), .a (.tup [eSl 1 true (eI .i64) r_15.1, B r_15.2.1, I r_15.2.2]), .l (([[r_7], [r_8], [r_9]]).map F12_), .g [], .a (.tup [B r_16.1, I r_16.2]), .g [], .a (.tup [B r_17.1, I r_17.2]), .g [], .l (([(Arr2.mk 0 0), (Arr2.mk 0 3), (Arr2.mk 1 1), (Arr2.mk 2 2)]).map F0_), .a (.tup [B r_18.1, I r_18.2]), .g [], .l (([(Arr2.mk 0 0), (Arr2.mk 1 1)]).map F0_), .a (.tup [B r_19.1, I r_19.2]), .g [], .l (([[r_10, r_11]]).map F12_), .a (.tup [B r_20.1, I r_20.2]), .g [], .a (.tup [B r_21.1, I r_21.2]), .g [], .l (([(Arr2.mk 0 4)]).map F0_), .a (.tup [B r_22.1, I r_22.2]), .cut 0] (sub [1,1,1,1,1,1,1,1,1,1,1,1,1,1,1,1] bd_law10_lives) (frs [1,1,1,1,1,1,1,1,1,1,1,1,1,1,1,1] [] bd_law10_lives []) [(5, .d (eSl 1 true (eI .i64) r_12.1)), (6, .d (B r_12.2.1)), (7, .d (I r_12.2.2)), (8, .d (B r_13.1)), (9, .d (I r_13.2)), (10, .d (eSl 2 true F0_ r_14.1)), (11, .d (B r_14.2.1)), (12, .d (I r_14.2.2)), (13, .d (eSl 1 true (eI .i64) r_15.1)), (14, .d (B r_15.2.1)), (15, .d (I r_15.2.2)), (16, .d (B r_16.1)), (17, .d (I r_16.2)), (18, .d (B r_17.1)), (19, .d (I r_17.2)), (20, .d (B r_18.1)), (21, .d (I r_18.2)), (22, .d (B r_19.1)), (23, .d (I r_19.2)), (25, .d (I r_20.2)), (27, .d (I r_21.2)), (29, .d (I r_22.2))] [ob (hasG h_law10_edge), ob o0, ob (hasG h_law10_edge), ob o1, ob (hasG h_law10_edge), ob o2, ob (hasG h_law10_edge), ob o3, ob (hasG h_law10_edge), ob o4, ob (hasG h_law10_edge), ob o5, ob (hasG h_law10_edge), ob o6, ob (hasG h_law10_edge), ob o7, ob (hasG h_law10_edge), ob o8, ob (hasG h_law10_edge), ob o9, ob (hasG h_law10_edge), ob o10, ob (hasG h_law10_edge), ob o11, ob (hasG h_equals_Differ), ob o12, ob o13, ob o14, ob o15, ob o16, ob (hasG h_equals_Equal), ob o17, ob (hasG h_equals_Relate), ob o18, ob (hasG h_equals_Differ), ob o19, ob o20, ob o21, ob (hasG h_equals_Within), ob o22, ob (hasG h_equals_Within), ob o23, ob (hasG h_equals_CheckRelation), ob o24, ob o25, ob (hasG h_equals_CheckRelation), ob o26, ob o27, ob (hasG h_equals_Equal), ob o28, ob o29, ob (hasG h_equals_Within), ob o30, ob (hasG h_equals_CheckRelation), ob o31, ob o32] (by kernel_rfl) fun st0 h0 => awpOf h0 ?_
 obtain ⟨r_23, h23, hf0⟩ := bindE hf0
 have o33 := tabC_at (f := .fn 33 []) (xs := [F2_ r_12.1, (eI .i64) r_12.2.2, F5_ ([] : List Int), (eI .i64) 0]) (ls := []) (r := B r_23) (ys := []) [F2_ r_12.1, (eI .i64) r_12.2.2, F2_ ([] : List Int), (eI .i64) 0] (show LeTs [F2_ r_12.1, (eI .i64) r_12.2.2, F2_ ([] : List Int), (eI .i64) 0] [F2_ r_12.1, (eI .i64) r_12.2.2, F5_ ([] : List Int), (eI .i64) 0] from inferInstance)
 rcases bifE hf0 with ⟨c0, hf0⟩ | ⟨c0, hf0⟩
 ·rcases bifE hf0 with ⟨c1, hf0⟩ | ⟨c1, hf0⟩
  ·rcases bifE hf0 with ⟨c2, hf0⟩ | ⟨c2, hf0⟩
   ·rcases bifE hf0 with ⟨c3, hf0⟩ | ⟨c3, hf0⟩
    ·have o34 := shM F0_ F0_ ([(Arr2.mk 0 0), (Arr2.mk 0 3), (Arr2.mk 1 1), (Arr2.mk 2 2)])
     obtain ⟨r_24, h24, hf0⟩ := bindE hf0
     have o35 := tabC_at (f := .fn 43 []) (xs := [F7_ r_14.1, F8_ ([(Arr2.mk 0 0), (Arr2.mk 0 3), (Arr2.mk 1 1), (Arr2.mk 2 2)] : List (Arr2 Int))]) (ls := []) (r := B r_24) (ys := []) [F7_ r_14.1, F7_ ([(Arr2.mk 0 0), (Arr2.mk 0 3), (Arr2.mk 1 1), (Arr2.mk 2 2)] : List (Arr2 Int))] (show LeTs [F7_ r_14.1, F7_ ([(Arr2.mk 0 0), (Arr2.mk 0 3), (Arr2.mk 1 1), (Arr2.mk 2 2)] : List (Arr2 Int))] [F7_ r_14.1, F8_ ([(Arr2.mk 0 0), (Arr2.mk 0 3), (Arr2.mk 1 1), (Arr2.mk 2 2)] : List (Arr2 Int))] from inferInstance)
     rcases bifE hf0 with ⟨c4, hf0⟩ | ⟨c4, hf0⟩
     ·rcases bifE hf0 with ⟨c5, hf0⟩ | ⟨c5, hf0⟩
      ·rcases bifE hf0 with ⟨c6, hf0⟩ | ⟨c6, hf0⟩
       ·have o36 := shM (eI .i64) (eI .i64) ([0,0,0])
        obtain ⟨r_25, h25, hf0⟩ := bindE hf0
        have o37 := tabC_at (f := .fn 33 []) (xs := [F2_ r_15.1, (eI .i64) r_15.2.2, F5_ ([0,0,0] : List Int), (eI .i64) 0]) (ls := []) (r := B r_25) (ys := []) [F2_ r_15.1, (eI .i64) r_15.2.2, F2_ ([0,0,0] : List Int), (eI .i64) 0] (show LeTs [F2_ r_15.1, (eI .i64) r_15.2.2, F2_ ([0,0,0] : List Int), (eI .i64) 0] [F2_ r_15.1, (eI .i64) r_15.2.2, F5_ ([0,0,0] : List Int), (eI .i64) 0] from inferInstance)
        rcases bifE hf0 with ⟨c7, hf0⟩ | ⟨c7, hf0⟩
        ·rcases bifE hf0 with ⟨c8, hf0⟩ | ⟨c8, hf0⟩
         ·rcases bifE hf0 with ⟨c9, hf0⟩ | ⟨c9, hf0⟩
          ·rcases bifE hf0 with ⟨c10, hf0⟩ | ⟨c10, hf0⟩
           ·rcases bifE hf0 with ⟨c11, hf0⟩ | ⟨c11, hf0⟩
            ·rcases bifE hf0 with ⟨c12, hf0⟩ | ⟨c12, hf0⟩
             ·rcases bifE hf0 with ⟨c13, hf0⟩ | ⟨c13, hf0⟩
              ·rcases bifE hf0 with ⟨c14, hf0⟩ | ⟨c14, hf0⟩
               ·rcases bifE hf0 with ⟨c15, hf0⟩ | ⟨c15, hf0⟩
                ·rcases bifE hf0 with ⟨c16, hf0⟩ | ⟨c16, hf0⟩
                 ·rcases bifE hf0 with ⟨c17, hf0⟩ | ⟨c17, hf0⟩
                  ·rcases bifE hf0 with ⟨c18, hf0⟩ | ⟨c18, hf0⟩
                   ·obtain rfl := someE hf0
                    exact awpEnd ((xLend (P := Try.prog) TTab [] (lentCall (hasCall hC h_law10_list (x := (r_15.1, r_15.2.2, ([0,0,0] : List Int), 0)) h25)) 174).or ((xLend (P := Try.prog) TTab [] (lentCall (hasCall hC h_law10_pairs (x := (r_14.1, ([(Arr2.mk 0 0), (Arr2.mk 0 3), (Arr2.mk 1 1), (Arr2.mk 2 2)] : List (Arr2 Int)))) h24)) 161).or ((xLend (P := Try.prog) TTab [] (lentCall (hasCall hC h_law10_list (x := (r_12.1, r_12.2.2, ([] : List Int), 0)) h23)) 142).or X0))) TTab_ok hC hm hE 4000 (hs := (rpN 15 bT (.l (([(Arr2.mk 0 0), (Arr2.mk 0 3), (Arr2.mk 1 1), (Arr2.mk 2 2)]).map F0_) :: (rpN 10 bT (.l (([0,0,0]).map (eI .i64)) :: (rpN 34 bT [])))))) (x := (B (r_22.2 == 1))) (ob o33 :: ob c0 :: ob c0 :: ob c0 :: ob c1 :: ob c1 :: ob c2 :: ob c2 :: ob c2 :: (rpN 7 (ob c3) (ob o34 :: ob o35 :: ob c3 :: ob c4 :: ob c4 :: ob c5 :: ob c5 :: ob c5 :: (rpN 4 (ob c6) [ob o36, ob o37, ob c6, ob c7, ob c7, ob c8, ob c8, ob c9, ob c9, ob c9, ob c10, ob c10, ob c10, ob c11, ob c11, ob c11, ob c12, ob c12, ob c13, ob c13, ob c13, ob c14, ob c14, ob c14, ob c15, ob c15, ob c15, ob c16, ob c16, ob c16, ob c17, ob c17, ob c17, ob c18, ob c18, ob c18])))) (by kernel_rfl) (LeV.refl _)
                   ·obtain rfl := someE hf0
                    exact awpEnd ((xLend (P := Try.prog) TTab [] (lentCall (hasCall hC h_law10_list (x := (r_15.1, r_15.2.2, ([0,0,0] : List Int), 0)) h25)) 174).or ((xLend (P := Try.prog) TTab [] (lentCall (hasCall hC h_law10_pairs (x := (r_14.1, ([(Arr2.mk 0 0), (Arr2.mk 0 3), (Arr2.mk 1 1), (Arr2.mk 2 2)] : List (Arr2 Int)))) h24)) 161).or ((xLend (P := Try.prog) TTab [] (lentCall (hasCall hC h_law10_list (x := (r_12.1, r_12.2.2, ([] : List Int), 0)) h23)) 142).or X0))) TTab_ok hC hm hE 4000 (hs := (rpN 15 bT (.l (([(Arr2.mk 0 0), (Arr2.mk 0 3), (Arr2.mk 1 1), (Arr2.mk 2 2)]).map F0_) :: (rpN 10 bT (.l (([0,0,0]).map (eI .i64)) :: (rpN 31 bT [bF, bF, bF])))))) (x := (B false)) (ob o33 :: ob c0 :: ob c0 :: ob c0 :: ob c1 :: ob c1 :: ob c2 :: ob c2 :: ob c2 :: (rpN 7 (ob c3) (ob o34 :: ob o35 :: ob c3 :: ob c4 :: ob c4 :: ob c5 :: ob c5 :: ob c5 :: (rpN 4 (ob c6) [ob o36, ob o37, ob c6, ob c7, ob c7, ob c8, ob c8, ob c9, ob c9, ob c9, ob c10, ob c10, ob c10, ob c11, ob c11, ob c11, ob c12, ob c12, ob c13, ob c13, ob c13, ob c14, ob c14, ob c14, ob c15, ob c15, ob c15, ob c16, ob c16, ob c16, ob c17, ob c17, ob c17, ob c18, ob c18, ob c18])))) (by kernel_rfl) (LeV.refl _)
                  ·obtain rfl := someE hf0
                   exact awpEnd ((xLend (P := Try.prog) TTab [] (lentCall (hasCall hC h_law10_list (x := (r_15.1, r_15.2.2, ([0,0,0] : List Int), 0)) h25)) 174).or ((xLend (P := Try.prog) TTab [] (lentCall (hasCall hC h_law10_pairs (x := (r_14.1, ([(Arr2.mk 0 0), (Arr2.mk 0 3), (Arr2.mk 1 1), (Arr2.mk 2 2)] : List (Arr2 Int)))) h24)) 161).or ((xLend (P := Try.prog) TTab [] (lentCall (hasCall hC h_law10_list (x := (r_12.1, r_12.2.2, ([] : List Int), 0)) h23)) 142).or X0))) TTab_ok hC hm hE 4000 (hs := (rpN 15 bT (.l (([(Arr2.mk 0 0), (Arr2.mk 0 3), (Arr2.mk 1 1), (Arr2.mk 2 2)]).map F0_) :: (rpN 10 bT (.l (([0,0,0]).map (eI .i64)) :: (rpN 28 bT (rpN 6 bF []))))))) (x := (B false)) (ob o33 :: ob c0 :: ob c0 :: ob c0 :: ob c1 :: ob c1 :: ob c2 :: ob c2 :: ob c2 :: (rpN 7 (ob c3) (ob o34 :: ob o35 :: ob c3 :: ob c4 :: ob c4 :: ob c5 :: ob c5 :: ob c5 :: (rpN 4 (ob c6) [ob o36, ob o37, ob c6, ob c7, ob c7, ob c8, ob c8, ob c9, ob c9, ob c9, ob c10, ob c10, ob c10, ob c11, ob c11, ob c11, ob c12, ob c12, ob c13, ob c13, ob c13, ob c14, ob c14, ob c14, ob c15, ob c15, ob c15, ob c16, ob c16, ob c16, ob c17, ob c17, ob c17, oF, oF, oF])))) (by kernel_rfl) (LeV.refl _)
                 ·obtain rfl := someE hf0
                  exact awpEnd ((xLend (P := Try.prog) TTab [] (lentCall (hasCall hC h_law10_list (x := (r_15.1, r_15.2.2, ([0,0,0] : List Int), 0)) h25)) 174).or ((xLend (P := Try.prog) TTab [] (lentCall (hasCall hC h_law10_pairs (x := (r_14.1, ([(Arr2.mk 0 0), (Arr2.mk 0 3), (Arr2.mk 1 1), (Arr2.mk 2 2)] : List (Arr2 Int)))) h24)) 161).or ((xLend (P := Try.prog) TTab [] (lentCall (hasCall hC h_law10_list (x := (r_12.1, r_12.2.2, ([] : List Int), 0)) h23)) 142).or X0))) TTab_ok hC hm hE 4000 (hs := (rpN 15 bT (.l (([(Arr2.mk 0 0), (Arr2.mk 0 3), (Arr2.mk 1 1), (Arr2.mk 2 2)]).map F0_) :: (rpN 10 bT (.l (([0,0,0]).map (eI .i64)) :: (rpN 25 bT (rpN 9 bF []))))))) (x := (B false)) (ob o33 :: ob c0 :: ob c0 :: ob c0 :: ob c1 :: ob c1 :: ob c2 :: ob c2 :: ob c2 :: (rpN 7 (ob c3) (ob o34 :: ob o35 :: ob c3 :: ob c4 :: ob c4 :: ob c5 :: ob c5 :: ob c5 :: (rpN 4 (ob c6) (ob o36 :: ob o37 :: ob c6 :: ob c7 :: ob c7 :: ob c8 :: ob c8 :: ob c9 :: ob c9 :: ob c9 :: ob c10 :: ob c10 :: ob c10 :: ob c11 :: ob c11 :: ob c11 :: ob c12 :: ob c12 :: ob c13 :: ob c13 :: ob c13 :: ob c14 :: ob c14 :: ob c14 :: ob c15 :: ob c15 :: ob c15 :: ob c16 :: ob c16 :: ob c16 :: (rpN 6 oF [])))))) (by kernel_rfl) (LeV.refl _)
                ·obtain rfl := someE hf0
                 exact awpEnd ((xLend (P := Try.prog) TTab [] (lentCall (hasCall hC h_law10_list (x := (r_15.1, r_15.2.2, ([0,0,0] : List Int), 0)) h25)) 174).or ((xLend (P := Try.prog) TTab [] (lentCall (hasCall hC h_law10_pairs (x := (r_14.1, ([(Arr2.mk 0 0), (Arr2.mk 0 3), (Arr2.mk 1 1), (Arr2.mk 2 2)] : List (Arr2 Int)))) h24)) 161).or ((xLend (P := Try.prog) TTab [] (lentCall (hasCall hC h_law10_list (x := (r_12.1, r_12.2.2, ([] : List Int), 0)) h23)) 142).or X0))) TTab_ok hC hm hE 4000 (hs := (rpN 15 bT (.l (([(Arr2.mk 0 0), (Arr2.mk 0 3), (Arr2.mk 1 1), (Arr2.mk 2 2)]).map F0_) :: (rpN 10 bT (.l (([0,0,0]).map (eI .i64)) :: (rpN 22 bT (rpN 12 bF []))))))) (x := (B false)) (ob o33 :: ob c0 :: ob c0 :: ob c0 :: ob c1 :: ob c1 :: ob c2 :: ob c2 :: ob c2 :: (rpN 7 (ob c3) (ob o34 :: ob o35 :: ob c3 :: ob c4 :: ob c4 :: ob c5 :: ob c5 :: ob c5 :: (rpN 4 (ob c6) (ob o36 :: ob o37 :: ob c6 :: ob c7 :: ob c7 :: ob c8 :: ob c8 :: ob c9 :: ob c9 :: ob c9 :: ob c10 :: ob c10 :: ob c10 :: ob c11 :: ob c11 :: ob c11 :: ob c12 :: ob c12 :: ob c13 :: ob c13 :: ob c13 :: ob c14 :: ob c14 :: ob c14 :: ob c15 :: ob c15 :: ob c15 :: (rpN 9 oF [])))))) (by kernel_rfl) (LeV.refl _)
               ·obtain rfl := someE hf0
                exact awpEnd ((xLend (P := Try.prog) TTab [] (lentCall (hasCall hC h_law10_list (x := (r_15.1, r_15.2.2, ([0,0,0] : List Int), 0)) h25)) 174).or ((xLend (P := Try.prog) TTab [] (lentCall (hasCall hC h_law10_pairs (x := (r_14.1, ([(Arr2.mk 0 0), (Arr2.mk 0 3), (Arr2.mk 1 1), (Arr2.mk 2 2)] : List (Arr2 Int)))) h24)) 161).or ((xLend (P := Try.prog) TTab [] (lentCall (hasCall hC h_law10_list (x := (r_12.1, r_12.2.2, ([] : List Int), 0)) h23)) 142).or X0))) TTab_ok hC hm hE 4000 (hs := (rpN 15 bT (.l (([(Arr2.mk 0 0), (Arr2.mk 0 3), (Arr2.mk 1 1), (Arr2.mk 2 2)]).map F0_) :: (rpN 10 bT (.l (([0,0,0]).map (eI .i64)) :: (rpN 19 bT (rpN 15 bF []))))))) (x := (B false)) (ob o33 :: ob c0 :: ob c0 :: ob c0 :: ob c1 :: ob c1 :: ob c2 :: ob c2 :: ob c2 :: (rpN 7 (ob c3) (ob o34 :: ob o35 :: ob c3 :: ob c4 :: ob c4 :: ob c5 :: ob c5 :: ob c5 :: (rpN 4 (ob c6) (ob o36 :: ob o37 :: ob c6 :: ob c7 :: ob c7 :: ob c8 :: ob c8 :: ob c9 :: ob c9 :: ob c9 :: ob c10 :: ob c10 :: ob c10 :: ob c11 :: ob c11 :: ob c11 :: ob c12 :: ob c12 :: ob c13 :: ob c13 :: ob c13 :: ob c14 :: ob c14 :: ob c14 :: (rpN 12 oF [])))))) (by kernel_rfl) (LeV.refl _)
              ·obtain rfl := someE hf0
               exact awpEnd ((xLend (P := Try.prog) TTab [] (lentCall (hasCall hC h_law10_list (x := (r_15.1, r_15.2.2, ([0,0,0] : List Int), 0)) h25)) 174).or ((xLend (P := Try.prog) TTab [] (lentCall (hasCall hC h_law10_pairs (x := (r_14.1, ([(Arr2.mk 0 0), (Arr2.mk 0 3), (Arr2.mk 1 1), (Arr2.mk 2 2)] : List (Arr2 Int)))) h24)) 161).or ((xLend (P := Try.prog) TTab [] (lentCall (hasCall hC h_law10_list (x := (r_12.1, r_12.2.2, ([] : List Int), 0)) h23)) 142).or X0))) TTab_ok hC hm hE 4000 (hs := (rpN 15 bT (.l (([(Arr2.mk 0 0), (Arr2.mk 0 3), (Arr2.mk 1 1), (Arr2.mk 2 2)]).map F0_) :: (rpN 10 bT (.l (([0,0,0]).map (eI .i64)) :: (rpN 16 bT (rpN 18 bF []))))))) (x := (B false)) (ob o33 :: ob c0 :: ob c0 :: ob c0 :: ob c1 :: ob c1 :: ob c2 :: ob c2 :: ob c2 :: (rpN 7 (ob c3) (ob o34 :: ob o35 :: ob c3 :: ob c4 :: ob c4 :: ob c5 :: ob c5 :: ob c5 :: (rpN 4 (ob c6) (ob o36 :: ob o37 :: ob c6 :: ob c7 :: ob c7 :: ob c8 :: ob c8 :: ob c9 :: ob c9 :: ob c9 :: ob c10 :: ob c10 :: ob c10 :: ob c11 :: ob c11 :: ob c11 :: ob c12 :: ob c12 :: ob c13 :: ob c13 :: ob c13 :: (rpN 15 oF [])))))) (by kernel_rfl) (LeV.refl _)
             ·obtain rfl := someE hf0
              exact awpEnd ((xLend (P := Try.prog) TTab [] (lentCall (hasCall hC h_law10_list (x := (r_15.1, r_15.2.2, ([0,0,0] : List Int), 0)) h25)) 174).or ((xLend (P := Try.prog) TTab [] (lentCall (hasCall hC h_law10_pairs (x := (r_14.1, ([(Arr2.mk 0 0), (Arr2.mk 0 3), (Arr2.mk 1 1), (Arr2.mk 2 2)] : List (Arr2 Int)))) h24)) 161).or ((xLend (P := Try.prog) TTab [] (lentCall (hasCall hC h_law10_list (x := (r_12.1, r_12.2.2, ([] : List Int), 0)) h23)) 142).or X0))) TTab_ok hC hm hE 4000 (hs := (rpN 15 bT (.l (([(Arr2.mk 0 0), (Arr2.mk 0 3), (Arr2.mk 1 1), (Arr2.mk 2 2)]).map F0_) :: (rpN 10 bT (.l (([0,0,0]).map (eI .i64)) :: (rpN 14 bT (rpN 20 bF []))))))) (x := (B false)) (ob o33 :: ob c0 :: ob c0 :: ob c0 :: ob c1 :: ob c1 :: ob c2 :: ob c2 :: ob c2 :: (rpN 7 (ob c3) (ob o34 :: ob o35 :: ob c3 :: ob c4 :: ob c4 :: ob c5 :: ob c5 :: ob c5 :: (rpN 4 (ob c6) (ob o36 :: ob o37 :: ob c6 :: ob c7 :: ob c7 :: ob c8 :: ob c8 :: ob c9 :: ob c9 :: ob c9 :: ob c10 :: ob c10 :: ob c10 :: ob c11 :: ob c11 :: ob c11 :: ob c12 :: ob c12 :: (rpN 18 oF [])))))) (by kernel_rfl) (LeV.refl _)
            ·obtain rfl := someE hf0
             exact awpEnd ((xLend (P := Try.prog) TTab [] (lentCall (hasCall hC h_law10_list (x := (r_15.1, r_15.2.2, ([0,0,0] : List Int), 0)) h25)) 174).or ((xLend (P := Try.prog) TTab [] (lentCall (hasCall hC h_law10_pairs (x := (r_14.1, ([(Arr2.mk 0 0), (Arr2.mk 0 3), (Arr2.mk 1 1), (Arr2.mk 2 2)] : List (Arr2 Int)))) h24)) 161).or ((xLend (P := Try.prog) TTab [] (lentCall (hasCall hC h_law10_list (x := (r_12.1, r_12.2.2, ([] : List Int), 0)) h23)) 142).or X0))) TTab_ok hC hm hE 4000 (hs := (rpN 15 bT (.l (([(Arr2.mk 0 0), (Arr2.mk 0 3), (Arr2.mk 1 1), (Arr2.mk 2 2)]).map F0_) :: (rpN 10 bT (.l (([0,0,0]).map (eI .i64)) :: (rpN 11 bT (rpN 23 bF []))))))) (x := (B false)) (ob o33 :: ob c0 :: ob c0 :: ob c0 :: ob c1 :: ob c1 :: ob c2 :: ob c2 :: ob c2 :: (rpN 7 (ob c3) (ob o34 :: ob o35 :: ob c3 :: ob c4 :: ob c4 :: ob c5 :: ob c5 :: ob c5 :: (rpN 4 (ob c6) (ob o36 :: ob o37 :: ob c6 :: ob c7 :: ob c7 :: ob c8 :: ob c8 :: ob c9 :: ob c9 :: ob c9 :: ob c10 :: ob c10 :: ob c10 :: ob c11 :: ob c11 :: ob c11 :: (rpN 20 oF [])))))) (by kernel_rfl) (LeV.refl _)
           ·obtain rfl := someE hf0
            exact awpEnd ((xLend (P := Try.prog) TTab [] (lentCall (hasCall hC h_law10_list (x := (r_15.1, r_15.2.2, ([0,0,0] : List Int), 0)) h25)) 174).or ((xLend (P := Try.prog) TTab [] (lentCall (hasCall hC h_law10_pairs (x := (r_14.1, ([(Arr2.mk 0 0), (Arr2.mk 0 3), (Arr2.mk 1 1), (Arr2.mk 2 2)] : List (Arr2 Int)))) h24)) 161).or ((xLend (P := Try.prog) TTab [] (lentCall (hasCall hC h_law10_list (x := (r_12.1, r_12.2.2, ([] : List Int), 0)) h23)) 142).or X0))) TTab_ok hC hm hE 4000 (hs := (rpN 15 bT (.l (([(Arr2.mk 0 0), (Arr2.mk 0 3), (Arr2.mk 1 1), (Arr2.mk 2 2)]).map F0_) :: (rpN 10 bT (.l (([0,0,0]).map (eI .i64)) :: (rpN 8 bT (rpN 26 bF []))))))) (x := (B false)) (ob o33 :: ob c0 :: ob c0 :: ob c0 :: ob c1 :: ob c1 :: ob c2 :: ob c2 :: ob c2 :: (rpN 7 (ob c3) (ob o34 :: ob o35 :: ob c3 :: ob c4 :: ob c4 :: ob c5 :: ob c5 :: ob c5 :: (rpN 4 (ob c6) (ob o36 :: ob o37 :: ob c6 :: ob c7 :: ob c7 :: ob c8 :: ob c8 :: ob c9 :: ob c9 :: ob c9 :: ob c10 :: ob c10 :: ob c10 :: (rpN 23 oF [])))))) (by kernel_rfl) (LeV.refl _)
          ·obtain rfl := someE hf0
           exact awpEnd ((xLend (P := Try.prog) TTab [] (lentCall (hasCall hC h_law10_list (x := (r_15.1, r_15.2.2, ([0,0,0] : List Int), 0)) h25)) 174).or ((xLend (P := Try.prog) TTab [] (lentCall (hasCall hC h_law10_pairs (x := (r_14.1, ([(Arr2.mk 0 0), (Arr2.mk 0 3), (Arr2.mk 1 1), (Arr2.mk 2 2)] : List (Arr2 Int)))) h24)) 161).or ((xLend (P := Try.prog) TTab [] (lentCall (hasCall hC h_law10_list (x := (r_12.1, r_12.2.2, ([] : List Int), 0)) h23)) 142).or X0))) TTab_ok hC hm hE 4000 (hs := (rpN 15 bT (.l (([(Arr2.mk 0 0), (Arr2.mk 0 3), (Arr2.mk 1 1), (Arr2.mk 2 2)]).map F0_) :: (rpN 10 bT (.l (([0,0,0]).map (eI .i64)) :: (rpN 5 bT (rpN 29 bF []))))))) (x := (B false)) (ob o33 :: ob c0 :: ob c0 :: ob c0 :: ob c1 :: ob c1 :: ob c2 :: ob c2 :: ob c2 :: (rpN 7 (ob c3) (ob o34 :: ob o35 :: ob c3 :: ob c4 :: ob c4 :: ob c5 :: ob c5 :: ob c5 :: (rpN 4 (ob c6) (ob o36 :: ob o37 :: ob c6 :: ob c7 :: ob c7 :: ob c8 :: ob c8 :: ob c9 :: ob c9 :: ob c9 :: (rpN 26 oF [])))))) (by kernel_rfl) (LeV.refl _)
         ·obtain rfl := someE hf0
          exact awpEnd ((xLend (P := Try.prog) TTab [] (lentCall (hasCall hC h_law10_list (x := (r_15.1, r_15.2.2, ([0,0,0] : List Int), 0)) h25)) 174).or ((xLend (P := Try.prog) TTab [] (lentCall (hasCall hC h_law10_pairs (x := (r_14.1, ([(Arr2.mk 0 0), (Arr2.mk 0 3), (Arr2.mk 1 1), (Arr2.mk 2 2)] : List (Arr2 Int)))) h24)) 161).or ((xLend (P := Try.prog) TTab [] (lentCall (hasCall hC h_law10_list (x := (r_12.1, r_12.2.2, ([] : List Int), 0)) h23)) 142).or X0))) TTab_ok hC hm hE 4000 (hs := (rpN 15 bT (.l (([(Arr2.mk 0 0), (Arr2.mk 0 3), (Arr2.mk 1 1), (Arr2.mk 2 2)]).map F0_) :: (rpN 10 bT (.l (([0,0,0]).map (eI .i64)) :: bT :: bT :: bT :: (rpN 31 bF [])))))) (x := (B false)) (ob o33 :: ob c0 :: ob c0 :: ob c0 :: ob c1 :: ob c1 :: ob c2 :: ob c2 :: ob c2 :: (rpN 7 (ob c3) (ob o34 :: ob o35 :: ob c3 :: ob c4 :: ob c4 :: ob c5 :: ob c5 :: ob c5 :: (rpN 4 (ob c6) (ob o36 :: ob o37 :: ob c6 :: ob c7 :: ob c7 :: ob c8 :: ob c8 :: (rpN 29 oF [])))))) (by kernel_rfl) (LeV.refl _)
        ·obtain rfl := someE hf0
         exact awpEnd ((xLend (P := Try.prog) TTab [] (lentCall (hasCall hC h_law10_list (x := (r_15.1, r_15.2.2, ([0,0,0] : List Int), 0)) h25)) 174).or ((xLend (P := Try.prog) TTab [] (lentCall (hasCall hC h_law10_pairs (x := (r_14.1, ([(Arr2.mk 0 0), (Arr2.mk 0 3), (Arr2.mk 1 1), (Arr2.mk 2 2)] : List (Arr2 Int)))) h24)) 161).or ((xLend (P := Try.prog) TTab [] (lentCall (hasCall hC h_law10_list (x := (r_12.1, r_12.2.2, ([] : List Int), 0)) h23)) 142).or X0))) TTab_ok hC hm hE 4000 (hs := (rpN 15 bT (.l (([(Arr2.mk 0 0), (Arr2.mk 0 3), (Arr2.mk 1 1), (Arr2.mk 2 2)]).map F0_) :: (rpN 10 bT (.l (([0,0,0]).map (eI .i64)) :: bT :: (rpN 33 bF [])))))) (x := (B false)) (ob o33 :: ob c0 :: ob c0 :: ob c0 :: ob c1 :: ob c1 :: ob c2 :: ob c2 :: ob c2 :: (rpN 7 (ob c3) (ob o34 :: ob o35 :: ob c3 :: ob c4 :: ob c4 :: ob c5 :: ob c5 :: ob c5 :: (rpN 4 (ob c6) (ob o36 :: ob o37 :: ob c6 :: ob c7 :: ob c7 :: (rpN 31 oF [])))))) (by kernel_rfl) (LeV.refl _)
       ·obtain rfl := someE hf0
        exact awpEnd ((xLend (P := Try.prog) TTab [] (lentCall (hasCall hC h_law10_pairs (x := (r_14.1, ([(Arr2.mk 0 0), (Arr2.mk 0 3), (Arr2.mk 1 1), (Arr2.mk 2 2)] : List (Arr2 Int)))) h24)) 161).or ((xLend (P := Try.prog) TTab [] (lentCall (hasCall hC h_law10_list (x := (r_12.1, r_12.2.2, ([] : List Int), 0)) h23)) 142).or X0)) TTab_ok hC hm hE 4000 (hs := (rpN 15 bT (.l (([(Arr2.mk 0 0), (Arr2.mk 0 3), (Arr2.mk 1 1), (Arr2.mk 2 2)]).map F0_) :: (rpN 6 bT (rpN 38 bF []))))) (x := (B false)) (ob o33 :: ob c0 :: ob c0 :: ob c0 :: ob c1 :: ob c1 :: ob c2 :: ob c2 :: ob c2 :: (rpN 7 (ob c3) (ob o34 :: ob o35 :: ob c3 :: ob c4 :: ob c4 :: ob c5 :: ob c5 :: ob c5 :: (rpN 5 (ob c6) (rpN 33 oF []))))) (by kernel_rfl) (LeV.refl _)
      ·obtain rfl := someE hf0
       exact awpEnd ((xLend (P := Try.prog) TTab [] (lentCall (hasCall hC h_law10_pairs (x := (r_14.1, ([(Arr2.mk 0 0), (Arr2.mk 0 3), (Arr2.mk 1 1), (Arr2.mk 2 2)] : List (Arr2 Int)))) h24)) 161).or ((xLend (P := Try.prog) TTab [] (lentCall (hasCall hC h_law10_list (x := (r_12.1, r_12.2.2, ([] : List Int), 0)) h23)) 142).or X0)) TTab_ok hC hm hE 4000 (hs := (rpN 15 bT (.l (([(Arr2.mk 0 0), (Arr2.mk 0 3), (Arr2.mk 1 1), (Arr2.mk 2 2)]).map F0_) :: bT :: bT :: bT :: (rpN 41 bF [])))) (x := (B false)) (ob o33 :: ob c0 :: ob c0 :: ob c0 :: ob c1 :: ob c1 :: ob c2 :: ob c2 :: ob c2 :: (rpN 7 (ob c3) (ob o34 :: ob o35 :: ob c3 :: ob c4 :: ob c4 :: ob c5 :: ob c5 :: ob c5 :: (rpN 38 oF [])))) (by kernel_rfl) (LeV.refl _)
     ·obtain rfl := someE hf0
      exact awpEnd ((xLend (P := Try.prog) TTab [] (lentCall (hasCall hC h_law10_pairs (x := (r_14.1, ([(Arr2.mk 0 0), (Arr2.mk 0 3), (Arr2.mk 1 1), (Arr2.mk 2 2)] : List (Arr2 Int)))) h24)) 161).or ((xLend (P := Try.prog) TTab [] (lentCall (hasCall hC h_law10_list (x := (r_12.1, r_12.2.2, ([] : List Int), 0)) h23)) 142).or X0)) TTab_ok hC hm hE 4000 (hs := (rpN 15 bT (.l (([(Arr2.mk 0 0), (Arr2.mk 0 3), (Arr2.mk 1 1), (Arr2.mk 2 2)]).map F0_) :: bT :: (rpN 43 bF [])))) (x := (B false)) (ob o33 :: ob c0 :: ob c0 :: ob c0 :: ob c1 :: ob c1 :: ob c2 :: ob c2 :: ob c2 :: (rpN 7 (ob c3) (ob o34 :: ob o35 :: ob c3 :: ob c4 :: ob c4 :: (rpN 41 oF [])))) (by kernel_rfl) (LeV.refl _)
    ·obtain rfl := someE hf0
     exact awpEnd ((xLend (P := Try.prog) TTab [] (lentCall (hasCall hC h_law10_list (x := (r_12.1, r_12.2.2, ([] : List Int), 0)) h23)) 142).or X0) TTab_ok hC hm hE 4000 (hs := (rpN 8 bT (rpN 51 bF []))) (x := (B false)) (ob o33 :: ob c0 :: ob c0 :: ob c0 :: ob c1 :: ob c1 :: ob c2 :: ob c2 :: ob c2 :: (rpN 8 (ob c3) (rpN 43 oF []))) (by kernel_rfl) (LeV.refl _)
   ·obtain rfl := someE hf0
    exact awpEnd ((xLend (P := Try.prog) TTab [] (lentCall (hasCall hC h_law10_list (x := (r_12.1, r_12.2.2, ([] : List Int), 0)) h23)) 142).or X0) TTab_ok hC hm hE 4000 (hs := (rpN 5 bT (rpN 54 bF []))) (x := (B false)) (ob o33 :: ob c0 :: ob c0 :: ob c0 :: ob c1 :: ob c1 :: ob c2 :: ob c2 :: ob c2 :: (rpN 51 oF [])) (by kernel_rfl) (LeV.refl _)
  ·obtain rfl := someE hf0
   exact awpEnd ((xLend (P := Try.prog) TTab [] (lentCall (hasCall hC h_law10_list (x := (r_12.1, r_12.2.2, ([] : List Int), 0)) h23)) 142).or X0) TTab_ok hC hm hE 4000 (hs := (bT :: bT :: bT :: (rpN 56 bF []))) (x := (B false)) (ob o33 :: ob c0 :: ob c0 :: ob c0 :: ob c1 :: ob c1 :: (rpN 54 oF [])) (by kernel_rfl) (LeV.refl _)
 ·obtain rfl := someE hf0
  exact awpEnd ((xLend (P := Try.prog) TTab [] (lentCall (hasCall hC h_law10_list (x := (r_12.1, r_12.2.2, ([] : List Int), 0)) h23)) 142).or X0) TTab_ok hC hm hE 4000 (hs := (rpN 59 bF [])) (x := (B false)) (ob o33 :: ob c0 :: ob c0 :: ob c0 :: (rpN 56 oF [])) (by kernel_rfl) (LeV.refl _)
noncomputable def bd_ref04_Run : Code := (Try.f35.body).getD .skip
noncomputable def sp_ref04_Run : Spec := spF (α := S_api_Machine × Int × List Int) (ρ := List Int) 35 (fun x => [F22_ x.1, (eI .i64) x.2.1, F5_ x.2.2]) (fun r => F4_ r) (fun x => ref04_Run x.1 x.2.1 x.2.2) [] (by
 rintro ⟨a0, a1, a2⟩ ⟨b0, b1, b2⟩ h
 simp only [List.cons.injEq, and_true] at h
 have e0 := EncI.inj (f := F22_) _ _ h.1
 have e1 := EncI.inj (f := (eI .i64)) _ _ h.2.1
 have e2 := EncI.inj (f := F5_) _ _ h.2.2
 subst e0 e1 e2
 rfl)
abbrev ST_ref04_Run_J1 (out : List Int) : List (Nat × T) := [(7, .own (eOs 1 false (eI .i64) out))]
abbrev ST_ref04_Run_L2 (m_ : S_api_Machine) (w_ : List Int) (s_1 : Int) (out1 : List Int) (k_ : Int) : List (Nat × T) := [(1, .d (I s_1)), (2, .d (eSl 1 false (eI .i64) w_)), (3, .own (.box (F22_ m_))), (7, .own (eOs 1 false (eI .i64) out1)), (8, .d (I k_))]
theorem w_ref04_Run {ctr : Ctr} (hC : CtrOk Try.prog ctr) (hm : Try.prog.follows .mixedOrders = true) (h_ref04_Next : ctr.Has sp_ref04_Next) : sp_ref04_Run.Ok Try.prog := by
 refine spF_ok ?_
 rintro ⟨m_, s_, w_⟩ r0 hf0
 try unfold ref04_Run at hf0
 refine callOk_h (tt := TTab) (keep := true) (rs := [(6, none)]) (n := ⟨31, []⟩) (body := bd_ref04_Run) TTab_ok Try.func35 rfl (by kernel_rfl) rfl rfl (by show (3 : Nat) ≤ 31; decide) fun E hE => ?_
 refine awpAt X0 TTab_ok hC hm [1,2,3,7] 4000 [.cut 2] (sub [1,1] bd_ref04_Run) (frs [1,1] [] bd_ref04_Run []) [(1, .d (I s_)), (2, .d (eSl 1 false (eI .i64) w_)), (3, .own (.box (F22_ m_))), (7, .own (eOs 1 true (eI .i64) []))] [] (by kernel_rfl) fun st0 h0 => ?_
 refine awpJoin' (X := List Int) (x := (sub [1,1,2] bd_ref04_Run)) (y := (sub [1,1,1] bd_ref04_Run)) (by kernel_rfl) [7] [1,2,3,7] _ h0 (fun z => ref04_Run_J1 z = some r0) (fun z => ST_ref04_Run_J1 z) ?_ fun J1 hJ1 => ?_
 ·rintro out hf0
  unfold ref04_Run_J1 at hf0
  obtain rfl := someE hf0
  exact awpEnd X0 TTab_ok hC hm hE 4000 (hs := []) (x := (eOs 1 false (eI .i64) out)) [] (by kernel_rfl) (LeV.refl _)
 ·obtain ⟨t2, ht2, hf0⟩ := bindE hf0
  refine awpAt X0 TTab_ok hC hm [1,2,3,7,8] 4000 [] (sub [1,1,2,1,0] bd_ref04_Run) (frs [1,1,2,1,0] [J1] bd_ref04_Run []) [(1, .d (I s_)), (2, .d (eSl 1 false (eI .i64) w_)), (3, .own (.box (F22_ m_))), (7, .own (eOs 1 true (eI .i64) [])), (8, .d (I 0))] [] (by kernel_rfl) fun st0 h0 => ?_
  refine awpLoop' (X := (Int × List Int × Int) × Nat) (c' := (sub [1,1,2,1,0,0] bd_ref04_Run)) (by kernel_rfl) [1,2,3,7,8] (fun x => loopN (fun s => ref04_Run_L2 m_ w_ s.1 s.2.1 s.2.2) x.2 x.1 = some t2) (fun x => x.2) (fun x => ST_ref04_Run_L2 m_ w_ x.1.1 x.1.2.1 x.1.2.2) ((s_, ([] : List Int), 0), fuel) _ h0 inferInstance ht2 ?_
  rintro ⟨⟨s_1, out1, k_⟩, n2⟩ hn2 J2 hJ2
  obtain ⟨m2, lr1, rfl, hf1, hl1⟩ := loopE hn2
  try unfold ref04_Run_L2 at hf1
  rcases bifE hf1 with ⟨c0, hf1⟩ | ⟨c0, hf1⟩
  ·obtain ⟨w__e, h0, hf1⟩ := bindE hf1
   obtain ⟨r_, h1, hf1⟩ := bindE hf1
   have o0 := hasF h_ref04_Next (x := (m_, s_1, w__e)) h1 (loC F22_ m_ <| loC (eI .i64) s_1 <| loC (eI .i64) w__e <| loN)
   obtain ⟨g0, hf1⟩ := gdE hf1
   have o1 := aM (eI .i64) out1 ([r_.Out] : List Int)
   obtain rfl := someE hf1
   exact awpBack X0 TTab_ok hC hm [1,2,3,7,8] 4000 [aLn w_.length, bT, .a ((eI .i64) w__e), .g [], .a (F9_ r_), bT, .l ((out1 ++ ([r_.Out] : List Int)).map (eI .i64))] J2 [(1, .d (I r_.To)), (2, .d (eSl 1 false (eI .i64) w_)), (3, .own (.box (F22_ m_))), (7, .own (eOs 1 false (eI .i64) (out1 ++ ([r_.Out] : List Int)))), (8, .d (I (w64 (k_ + 1))))] [ob (lnM (eI .i64) w_), ob c0, ob (i0 h0), ob (iM (eI .i64) h0), ob (hasG h_ref04_Next), ob o0, ob (dM (eI .i64) ([r_.Out] : List Int)), ob (dM (eI .i64) ([r_.Out] : List Int)), ob (aL (eI .i64) (eI .i64) g0), ob o1] (by kernel_rfl) fun st0 h0 => hJ2 st0 _ ((r_.To, (out1 ++ ([r_.Out] : List Int)), w64 (k_ + 1)), m2) hl1 (Nat.lt_succ_self m2) h0 inferInstance
  ·obtain rfl := someE hf1
   obtain rfl := hl1
   exact awpBack X0 TTab_ok hC hm [7] 4000 [aLn w_.length, bF] J1 [(7, .own (eOs 1 false (eI .i64) out1))] [ob (lnM (eI .i64) w_), ob c0] (by kernel_rfl) fun st0 h0 => hJ1 st0 _ out1 hf0 h0 inferInstance
noncomputable def bd_law10_EqualsEqual : Code := (Try.f6.body).getD .skip
noncomputable def sp_law10_EqualsEqual : Spec := spF (α := S_law10_D × S_law01_W) (ρ := Bool) 6 (fun x => [F26_ x.1, F10_ x.2]) (fun r => eB r) (fun x => law10_EqualsEqual x.1 x.2) [] (by
 rintro ⟨a0, a1⟩ ⟨b0, b1⟩ h
 simp only [List.cons.injEq, and_true] at h
 have e0 := EncI.inj (f := F26_) _ _ h.1
 have e1 := EncI.inj (f := F10_) _ _ h.2
 subst e0 e1
 rfl)
theorem w_law10_EqualsEqual {ctr : Ctr} (hC : CtrOk Try.prog ctr) (hm : Try.prog.follows .mixedOrders = true) (h_law10_D_Of : ctr.Has sp_law10_D_Of) (h_law01_W_Of : ctr.Has sp_law01_W_Of) (h_equals_Equal : ctr.Has sp_equals_Equal) (h_ref09_Minimal : ctr.Has sp_ref09_Minimal) (h_ref04_Same : ctr.Has sp_ref04_Same) (h_law10_lives : ctr.Has sp_law10_lives) (h_ref04_Run : ctr.Has sp_ref04_Run) (h_ref01_Same : ctr.Has sp_ref01_Same) : sp_law10_EqualsEqual.Ok Try.prog := by
 refine spF_ok ?_
 rintro ⟨x_, y_⟩ r0 hf0
 try unfold law10_EqualsEqual at hf0
 refine callOk_h (tt := TTab) (keep := true) (rs := [(4, none)]) (n := ⟨59, []⟩) (body := bd_law10_EqualsEqual) TTab_ok Try.func6 rfl (by kernel_rfl) rfl rfl (by show (2 : Nat) ≤ 59; decide) fun E hE => ?_
 obtain ⟨r_, h0, hf0⟩ := bindE hf0
 have o0 := hasF h_law10_D_Of (x := x_) h0 (loC F26_ x_ <| loN)
 obtain ⟨r_1, h1, hf0⟩ := bindE hf0
 have o1 := hasF h_law01_W_Of (x := (y_, r_.1.Inputs)) h1 (loC F10_ y_ <| loC (eI .i64) r_.1.Inputs <| loN)
 obtain ⟨r_2, h2, hf0⟩ := bindE hf0
 have o2 := hasF h_equals_Equal (x := (r_.1, r_.2)) h2 (loC F22_ r_.1 <| loC F22_ r_.2 <| loN)
 obtain ⟨r_3, h3, hf0⟩ := bindE hf0
 have o3 := hasF h_ref09_Minimal (x := r_.1) h3 (loC F22_ r_.1 <| loN)
 obtain ⟨r_4, h4, hf0⟩ := bindE hf0
 have o4 := hasF h_ref09_Minimal (x := r_.2) h4 (loC F22_ r_.2 <| loN)
 rcases bifE hf0 with ⟨c0, hf0⟩ | ⟨c0, hf0⟩
 ·obtain ⟨r_5, h5, hf0⟩ := bindE hf0
  have o5 := hasF h_ref04_Same (x := (r_3, (S_api_Machine.mk r_4.Inputs r_3.Outputs r_4.Rows))) h5 (loC F22_ r_3 <| loC F22_ (S_api_Machine.mk r_4.Inputs r_3.Outputs r_4.Rows) <| loN)
  rcases bifE hf0 with ⟨c1, hf0⟩ | ⟨c1, hf0⟩
  ·rcases bifE hf0 with ⟨c2, hf0⟩ | ⟨c2, hf0⟩
   ·obtain ⟨r_6, h6, hf0⟩ := bindE hf0
    have o6 := hasF h_law10_lives (x := ()) h6 (loN)
    obtain rfl := someE hf0
    exact awpEnd X0 TTab_ok hC hm hE 4000 (hs := (.g [] :: .a (.tup [.agg [I r_.1.Inputs, I r_.1.Outputs, eSl 1 false F13_ r_.1.Rows], .agg [I r_.2.Inputs, I r_.2.Outputs, eSl 1 false F13_ r_.2.Rows]]) :: .g [] :: .a (F4_ r_1) :: .n 0 [7] :: .l (r_1.map (eI .i64)) :: .g [] :: .a (.tup [B r_2.1, I r_2.2]) :: .g [] :: .a (F22_ r_3) :: .g [] :: .a (F22_ r_4) :: (rpN 4 bT (.g [] :: .a (eB r_5) :: (rpN 16 bT [.g [], .a (eB r_6), bT]))))) (x := (B r_6)) (ob (hasG h_law10_D_Of) :: ob o0 :: ob (hasG h_law01_W_Of) :: ob o1 :: ob (shM (eI .i64) (eI .i64) r_1) :: ob (hasG h_equals_Equal) :: ob o2 :: ob (hasG h_ref09_Minimal) :: ob o3 :: ob (hasG h_ref09_Minimal) :: ob o4 :: (rpN 4 (ob c0) (ob (hasG h_ref04_Same) :: ob o5 :: ob c0 :: ob c0 :: ob c1 :: ob c1 :: ob c1 :: (rpN 7 (ob c2) [ob c1, ob c2, ob c1, oT, ob (hasG h_law10_lives), ob o6, oT])))) (by kernel_rfl) (LeV.refl _)
   ·obtain ⟨r_7, h7, hf0⟩ := bindE hf0
    have o7 := hasF h_ref04_Run (x := (r_.1,0, r_1)) h7 (loC F22_ r_.1 <| loC (eI .i64) 0 <| loC F5_ r_1 <| loN)
    obtain ⟨r_8, h8, hf0⟩ := bindE hf0
    have o8 := hasF h_ref04_Run (x := (r_.2,0, r_1)) h8 (loC F22_ r_.2 <| loC (eI .i64) 0 <| loC F5_ r_1 <| loN)
    obtain ⟨r_9, h9, hf0⟩ := bindE hf0
    have o9 := hasF h_ref01_Same (x := (r_7, r_8)) h9 (loC F5_ r_7 <| loC F5_ r_8 <| loN)
    rcases bifE hf0 with ⟨c3, hf0⟩ | ⟨c3, hf0⟩
    ·obtain ⟨r_10, h10, hf0⟩ := bindE hf0
     have o10 := hasF h_law10_lives (x := ()) h10 (loN)
     obtain rfl := someE hf0
     exact awpEnd X0 TTab_ok hC hm hE 4000 (hs := (.g [] :: .a (.tup [.agg [I r_.1.Inputs, I r_.1.Outputs, eSl 1 false F13_ r_.1.Rows], .agg [I r_.2.Inputs, I r_.2.Outputs, eSl 1 false F13_ r_.2.Rows]]) :: .g [] :: .a (F4_ r_1) :: .n 0 [7] :: .l (r_1.map (eI .i64)) :: .g [] :: .a (.tup [B r_2.1, I r_2.2]) :: .g [] :: .a (F22_ r_3) :: .g [] :: .a (F22_ r_4) :: (rpN 4 bT (.g [] :: .a (eB r_5) :: (rpN 5 bT [bF, bF, bF, .g [], .a (F4_ r_7), bF, bF, bF, .g [], .a (F4_ r_8), bF, .g [], .l (r_7.map (eI .i64)), .l (r_8.map (eI .i64)), .a (eB r_9), bT, bF, bT, bT, .g [], .a (eB r_10), bT]))))) (x := (B r_10)) (ob (hasG h_law10_D_Of) :: ob o0 :: ob (hasG h_law01_W_Of) :: ob o1 :: ob (shM (eI .i64) (eI .i64) r_1) :: ob (hasG h_equals_Equal) :: ob o2 :: ob (hasG h_ref09_Minimal) :: ob o3 :: ob (hasG h_ref09_Minimal) :: ob o4 :: (rpN 4 (ob c0) [ob (hasG h_ref04_Same), ob o5, ob c0, ob c0, ob c1, ob c1, ob c1, ob c2, ob c2, ob c2, ob (hasG h_ref04_Run), ob o7, ob c2, ob c2, ob c2, ob (hasG h_ref04_Run), ob o8, ob c2, ob (hasG h_ref01_Same), ob (shM (eI .i64) (eI .i64) r_7), ob (shM (eI .i64) (eI .i64) r_8), ob o9, ob c1, ob c2, ob c1, ob c3, ob (hasG h_law10_lives), ob o10, ob c3])) (by kernel_rfl) (LeV.refl _)
    ·obtain rfl := someE hf0
     exact awpEnd X0 TTab_ok hC hm hE 4000 (hs := (.g [] :: .a (.tup [.agg [I r_.1.Inputs, I r_.1.Outputs, eSl 1 false F13_ r_.1.Rows], .agg [I r_.2.Inputs, I r_.2.Outputs, eSl 1 false F13_ r_.2.Rows]]) :: .g [] :: .a (F4_ r_1) :: .n 0 [7] :: .l (r_1.map (eI .i64)) :: .g [] :: .a (.tup [B r_2.1, I r_2.2]) :: .g [] :: .a (F22_ r_3) :: .g [] :: .a (F22_ r_4) :: (rpN 4 bT (.g [] :: .a (eB r_5) :: (rpN 5 bT [bF, bF, bF, .g [], .a (F4_ r_7), bF, bF, bF, .g [], .a (F4_ r_8), bF, .g [], .l (r_7.map (eI .i64)), .l (r_8.map (eI .i64)), .a (eB r_9), bT, bF, bT, bF, bF]))))) (x := (B false)) (ob (hasG h_law10_D_Of) :: ob o0 :: ob (hasG h_law01_W_Of) :: ob o1 :: ob (shM (eI .i64) (eI .i64) r_1) :: ob (hasG h_equals_Equal) :: ob o2 :: ob (hasG h_ref09_Minimal) :: ob o3 :: ob (hasG h_ref09_Minimal) :: ob o4 :: (rpN 4 (ob c0) [ob (hasG h_ref04_Same), ob o5, ob c0, ob c0, ob c1, ob c1, ob c1, ob c2, ob c2, ob c2, ob (hasG h_ref04_Run), ob o7, ob c2, ob c2, ob c2, ob (hasG h_ref04_Run), ob o8, ob c2, ob (hasG h_ref01_Same), ob (shM (eI .i64) (eI .i64) r_7), ob (shM (eI .i64) (eI .i64) r_8), ob o9, ob c1, ob c2, ob c1, ob c3, ob c3])) (by kernel_rfl) (LeV.refl _)
  ·obtain rfl := someE hf0
   exact awpEnd X0 TTab_ok hC hm hE 4000 (hs := (.g [] :: .a (.tup [.agg [I r_.1.Inputs, I r_.1.Outputs, eSl 1 false F13_ r_.1.Rows], .agg [I r_.2.Inputs, I r_.2.Outputs, eSl 1 false F13_ r_.2.Rows]]) :: .g [] :: .a (F4_ r_1) :: .n 0 [7] :: .l (r_1.map (eI .i64)) :: .g [] :: .a (.tup [B r_2.1, I r_2.2]) :: .g [] :: .a (F22_ r_3) :: .g [] :: .a (F22_ r_4) :: (rpN 4 bT (.g [] :: .a (eB r_5) :: bT :: bT :: (rpN 7 bF []))))) (x := (B false)) (ob (hasG h_law10_D_Of) :: ob o0 :: ob (hasG h_law01_W_Of) :: ob o1 :: ob (shM (eI .i64) (eI .i64) r_1) :: ob (hasG h_equals_Equal) :: ob o2 :: ob (hasG h_ref09_Minimal) :: ob o3 :: ob (hasG h_ref09_Minimal) :: ob o4 :: (rpN 4 (ob c0) (ob (hasG h_ref04_Same) :: ob o5 :: ob c0 :: ob c0 :: (rpN 5 (ob c1) [oF, oF])))) (by kernel_rfl) (LeV.refl _)
 ·obtain rfl := someE hf0
  exact awpEnd X0 TTab_ok hC hm hE 4000 (hs := (.g [] :: .a (.tup [.agg [I r_.1.Inputs, I r_.1.Outputs, eSl 1 false F13_ r_.1.Rows], .agg [I r_.2.Inputs, I r_.2.Outputs, eSl 1 false F13_ r_.2.Rows]]) :: .g [] :: .a (F4_ r_1) :: .n 0 [7] :: .l (r_1.map (eI .i64)) :: .g [] :: .a (.tup [B r_2.1, I r_2.2]) :: .g [] :: .a (F22_ r_3) :: .g [] :: .a (F22_ r_4) :: (rpN 13 bF []))) (x := (B false)) (ob (hasG h_law10_D_Of) :: ob o0 :: ob (hasG h_law01_W_Of) :: ob o1 :: ob (shM (eI .i64) (eI .i64) r_1) :: ob (hasG h_equals_Equal) :: ob o2 :: ob (hasG h_ref09_Minimal) :: ob o3 :: ob (hasG h_ref09_Minimal) :: ob o4 :: (rpN 6 (ob c0) (rpN 7 oF []))) (by kernel_rfl) (LeV.refl _)
end Go.Own

namespace Go.Own
open Go.Proofs
set_option linter.unusedVariables false
theorem ks_ne {l : List Spec} {s : Spec} (h : ((l.map Spec.k).contains s.k) = false) : ∀ t ∈ l, t.k ≠ s.k := by
 intro t ht e
 have : (l.map Spec.k).contains s.k = true := by
  rw [List.contains_iff_mem, ← e]
  exact List.mem_map_of_mem ht
 rw [h] at this
 cases this
theorem has_at {l : List Spec} {c : Ctr} (H : ∀ t ∈ l, c.Has t) (i : Nat) {s : Spec} (h : l[i]? = some s) : c.Has s := H _ (List.mem_of_getElem? h)
theorem orders : Try.prog.follows .mixedOrders = true := by kernel_rfl
noncomputable def L0 : List Spec := sp_law04_M_Of :: []
noncomputable def L1 : List Spec := sp_ref04_Copy :: L0
noncomputable def L2 : List Spec := sp_ref04_Check :: L1
noncomputable def L3 : List Spec := sp_law10_D_Of :: L2
noncomputable def L4 : List Spec := sp_law01_W_Of :: L3
noncomputable def L5 : List Spec := sp_machines_none :: L4
noncomputable def L6 : List Spec := sp_machines_fits :: L5
noncomputable def L7 : List Spec := sp_machines_Check_1 :: L6
noncomputable def L8 : List Spec := sp_slices_IndexFunc_api_Edge_api_Edge :: L7
noncomputable def L9 : List Spec := sp_slices_ContainsFunc_api_Edge_api_Edge :: L8
noncomputable def L10 : List Spec := sp_machines_Check :: L9
noncomputable def L11 : List Spec := sp_cmp_Or_api_Errno :: L10
noncomputable def L12 : List Spec := sp_equals_both :: L11
noncomputable def L13 : List Spec := sp_equals_meets :: L12
noncomputable def L14 : List Spec := sp_slices_Clip_int_int :: L13
noncomputable def L15 : List Spec := sp_equals_word :: L14
noncomputable def L16 : List Spec := sp_slices_Index_2_int_2_int :: L15
noncomputable def L17 : List Spec := sp_slices_Contains_2_int_2_int :: L16
noncomputable def L18 : List Spec := sp_equals_differ :: L17
noncomputable def L19 : List Spec := sp_equals_Differ :: L18
noncomputable def L20 : List Spec := sp_equals_Equal :: L19
noncomputable def L21 : List Spec := sp_ref07_apart :: L20
noncomputable def L22 : List Spec := sp_ref07_Marked :: L21
noncomputable def L23 : List Spec := sp_ref07_Partition :: L22
noncomputable def L24 : List Spec := sp_ref07_Rounds :: L23
noncomputable def L25 : List Spec := sp_ref07_Classes :: L24
noncomputable def L26 : List Spec := sp_ref04_Next :: L25
noncomputable def L27 : List Spec := sp_ref04_After :: L26
noncomputable def L28 : List Spec := sp_ref06_next :: L27
noncomputable def L29 : List Spec := sp_ref06_Paths :: L28
noncomputable def L30 : List Spec := sp_ref06_Access :: L29
noncomputable def L31 : List Spec := sp_ref06_less :: L30
noncomputable def L32 : List Spec := sp_ref06_Order :: L31
noncomputable def L33 : List Spec := sp_ref09_Firsts :: L32
noncomputable def L34 : List Spec := sp_ref04_Reached :: L33
noncomputable def L35 : List Spec := sp_ref09_Map :: L34
noncomputable def L36 : List Spec := sp_ref09_Minimal :: L35
noncomputable def L37 : List Spec := sp_ref04_Same :: L36
noncomputable def L38 : List Spec := sp_law10_edge :: L37
noncomputable def L39 : List Spec := sp_cmp_isNaN_int :: L38
noncomputable def L40 : List Spec := sp_cmp_Compare_int :: L39
noncomputable def L41 : List Spec := sp_slices_Compare_int_int :: L40
noncomputable def L42 : List Spec := sp_equals_Relate_1 :: L41
noncomputable def L43 : List Spec := sp_slices_Clip_2_int_2_int :: L42
noncomputable def L44 : List Spec := sp_equals_Relate :: L43
noncomputable def L45 : List Spec := sp_equals_Within :: L44
noncomputable def L46 : List Spec := sp_equals_CheckRelation :: L45
noncomputable def L47 : List Spec := sp_ref01_Compare :: L46
noncomputable def L48 : List Spec := sp_ref01_Same :: L47
noncomputable def L49 : List Spec := sp_law10_list :: L48
noncomputable def L50 : List Spec := sp_law10_pairs :: L49
noncomputable def L51 : List Spec := sp_law10_lives :: L50
noncomputable def L52 : List Spec := sp_ref04_Run :: L51
noncomputable def L53 : List Spec := sp_law10_EqualsEqual :: L52
theorem L0_ok : SpecsOk Try.prog L0 := ⟨fun _ hC H => w_law04_M_Of hC orders, ks_ne (by kernel_rfl), trivial⟩
theorem L1_ok : SpecsOk Try.prog L1 := ⟨fun _ hC H => w_ref04_Copy hC orders, ks_ne (by kernel_rfl), L0_ok⟩
theorem L2_ok : SpecsOk Try.prog L2 := ⟨fun _ hC H => w_ref04_Check hC orders, ks_ne (by kernel_rfl), L1_ok⟩
theorem L3_ok : SpecsOk Try.prog L3 := ⟨fun _ hC H => w_law10_D_Of hC orders (has_at H 2 rfl) (has_at H 1 rfl) (has_at H 0 rfl), ks_ne (by kernel_rfl), L2_ok⟩
theorem L4_ok : SpecsOk Try.prog L4 := ⟨fun _ hC H => w_law01_W_Of hC orders, ks_ne (by kernel_rfl), L3_ok⟩
theorem L5_ok : SpecsOk Try.prog L5 := ⟨fun _ hC H => w_machines_none hC orders, ks_ne (by kernel_rfl), L4_ok⟩
theorem L6_ok : SpecsOk Try.prog L6 := ⟨fun _ hC H => w_machines_fits hC orders (has_at H 0 rfl), ks_ne (by kernel_rfl), L5_ok⟩
theorem L7_ok : SpecsOk Try.prog L7 := ⟨fun _ hC H => w_machines_Check_1 hC orders (has_at H 0 rfl), ks_ne (by kernel_rfl), L6_ok⟩
theorem L8_ok : SpecsOk Try.prog L8 := ⟨fun _ hC H => w_slices_IndexFunc_api_Edge_api_Edge hC orders (has_at H 0 rfl), ks_ne (by kernel_rfl), L7_ok⟩
theorem L9_ok : SpecsOk Try.prog L9 := ⟨fun _ hC H => w_slices_ContainsFunc_api_Edge_api_Edge hC orders (has_at H 0 rfl), ks_ne (by kernel_rfl), L8_ok⟩
theorem L10_ok : SpecsOk Try.prog L10 := ⟨fun _ hC H => w_machines_Check hC orders (has_at H 0 rfl), ks_ne (by kernel_rfl), L9_ok⟩
theorem L11_ok : SpecsOk Try.prog L11 := ⟨fun _ hC H => w_cmp_Or_api_Errno hC orders, ks_ne (by kernel_rfl), L10_ok⟩
theorem L12_ok : SpecsOk Try.prog L12 := ⟨fun _ hC H => w_equals_both hC orders (has_at H 1 rfl) (has_at H 0 rfl), ks_ne (by kernel_rfl), L11_ok⟩
theorem L13_ok : SpecsOk Try.prog L13 := ⟨fun _ hC H => w_equals_meets hC orders, ks_ne (by kernel_rfl), L12_ok⟩
theorem L14_ok : SpecsOk Try.prog L14 := ⟨fun _ hC H => w_slices_Clip_int_int hC orders, ks_ne (by kernel_rfl), L13_ok⟩
theorem L15_ok : SpecsOk Try.prog L15 := ⟨fun _ hC H => w_equals_word hC orders (has_at H 0 rfl), ks_ne (by kernel_rfl), L14_ok⟩
theorem L16_ok : SpecsOk Try.prog L16 := ⟨fun _ hC H => w_slices_Index_2_int_2_int hC orders, ks_ne (by kernel_rfl), L15_ok⟩
theorem L17_ok : SpecsOk Try.prog L17 := ⟨fun _ hC H => w_slices_Contains_2_int_2_int hC orders (has_at H 0 rfl), ks_ne (by kernel_rfl), L16_ok⟩
theorem L18_ok : SpecsOk Try.prog L18 := ⟨fun _ hC H => w_equals_differ hC orders (has_at H 4 rfl) (has_at H 2 rfl) (has_at H 0 rfl), ks_ne (by kernel_rfl), L17_ok⟩
theorem L19_ok : SpecsOk Try.prog L19 := ⟨fun _ hC H => w_equals_Differ hC orders (has_at H 6 rfl) (has_at H 0 rfl), ks_ne (by kernel_rfl), L18_ok⟩
theorem L20_ok : SpecsOk Try.prog L20 := ⟨fun _ hC H => w_equals_Equal hC orders (has_at H 0 rfl), ks_ne (by kernel_rfl), L19_ok⟩
theorem L21_ok : SpecsOk Try.prog L21 := ⟨fun _ hC H => w_ref07_apart hC orders, ks_ne (by kernel_rfl), L20_ok⟩
theorem L22_ok : SpecsOk Try.prog L22 := ⟨fun _ hC H => w_ref07_Marked hC orders (has_at H 0 rfl), ks_ne (by kernel_rfl), L21_ok⟩
theorem L23_ok : SpecsOk Try.prog L23 := ⟨fun _ hC H => w_ref07_Partition hC orders, ks_ne (by kernel_rfl), L22_ok⟩
theorem L24_ok : SpecsOk Try.prog L24 := ⟨fun _ hC H => w_ref07_Rounds hC orders (has_at H 1 rfl) (has_at H 0 rfl), ks_ne (by kernel_rfl), L23_ok⟩
theorem L25_ok : SpecsOk Try.prog L25 := ⟨fun _ hC H => w_ref07_Classes hC orders (has_at H 0 rfl), ks_ne (by kernel_rfl), L24_ok⟩
theorem L26_ok : SpecsOk Try.prog L26 := ⟨fun _ hC H => w_ref04_Next hC orders, ks_ne (by kernel_rfl), L25_ok⟩
theorem L27_ok : SpecsOk Try.prog L27 := ⟨fun _ hC H => w_ref04_After hC orders (has_at H 0 rfl), ks_ne (by kernel_rfl), L26_ok⟩
theorem L28_ok : SpecsOk Try.prog L28 := ⟨fun _ hC H => w_ref06_next hC orders, ks_ne (by kernel_rfl), L27_ok⟩
theorem L29_ok : SpecsOk Try.prog L29 := ⟨fun _ hC H => w_ref06_Paths hC orders (has_at H 1 rfl) (has_at H 0 rfl), ks_ne (by kernel_rfl), L28_ok⟩
theorem L30_ok : SpecsOk Try.prog L30 := ⟨fun _ hC H => w_ref06_Access hC orders (has_at H 0 rfl), ks_ne (by kernel_rfl), L29_ok⟩
theorem L31_ok : SpecsOk Try.prog L31 := ⟨fun _ hC H => w_ref06_less hC orders, ks_ne (by kernel_rfl), L30_ok⟩
theorem L32_ok : SpecsOk Try.prog L32 := ⟨fun _ hC H => w_ref06_Order hC orders (has_at H 1 rfl) (has_at H 0 rfl), ks_ne (by kernel_rfl), L31_ok⟩
theorem L33_ok : SpecsOk Try.prog L33 := ⟨fun _ hC H => w_ref09_Firsts hC orders (has_at H 7 rfl) (has_at H 0 rfl), ks_ne (by kernel_rfl), L32_ok⟩
theorem L34_ok : SpecsOk Try.prog L34 := ⟨fun _ hC H => w_ref04_Reached hC orders, ks_ne (by kernel_rfl), L33_ok⟩
theorem L35_ok : SpecsOk Try.prog L35 := ⟨fun _ hC H => w_ref09_Map hC orders (has_at H 9 rfl) (has_at H 1 rfl) (has_at H 0 rfl), ks_ne (by kernel_rfl), L34_ok⟩
theorem L36_ok : SpecsOk Try.prog L36 := ⟨fun _ hC H => w_ref09_Minimal hC orders (has_at H 2 rfl) (has_at H 0 rfl), ks_ne (by kernel_rfl), L35_ok⟩
theorem L37_ok : SpecsOk Try.prog L37 := ⟨fun _ hC H => w_ref04_Same hC orders, ks_ne (by kernel_rfl), L36_ok⟩
theorem L38_ok : SpecsOk Try.prog L38 := ⟨fun _ hC H => w_law10_edge hC orders, ks_ne (by kernel_rfl), L37_ok⟩
theorem L39_ok : SpecsOk Try.prog L39 := ⟨fun _ hC H => w_cmp_isNaN_int hC orders, ks_ne (by kernel_rfl), L38_ok⟩
theorem L40_ok : SpecsOk Try.prog L40 := ⟨fun _ hC H => w_cmp_Compare_int hC orders (has_at H 0 rfl), ks_ne (by kernel_rfl), L39_ok⟩
theorem L41_ok : SpecsOk Try.prog L41 := ⟨fun _ hC H => w_slices_Compare_int_int hC orders (has_at H 0 rfl), ks_ne (by kernel_rfl), L40_ok⟩
theorem L42_ok : SpecsOk Try.prog L42 := ⟨fun _ hC H => w_equals_Relate_1 hC orders (has_at H 0 rfl), ks_ne (by kernel_rfl), L41_ok⟩
theorem L43_ok : SpecsOk Try.prog L43 := ⟨fun _ hC H => w_slices_Clip_2_int_2_int hC orders, ks_ne (by kernel_rfl), L42_ok⟩
theorem L44_ok : SpecsOk Try.prog L44 := ⟨fun _ hC H => w_equals_Relate hC orders (has_at H 31 rfl) (has_at H 25 rfl) (has_at H 1 rfl) (has_at H 0 rfl), ks_ne (by kernel_rfl), L43_ok⟩
theorem L45_ok : SpecsOk Try.prog L45 := ⟨fun _ hC H => w_equals_Within hC orders (has_at H 25 rfl), ks_ne (by kernel_rfl), L44_ok⟩
theorem L46_ok : SpecsOk Try.prog L46 := ⟨fun _ hC H => w_equals_CheckRelation hC orders (has_at H 33 rfl), ks_ne (by kernel_rfl), L45_ok⟩
theorem L47_ok : SpecsOk Try.prog L47 := ⟨fun _ hC H => w_ref01_Compare hC orders, ks_ne (by kernel_rfl), L46_ok⟩
theorem L48_ok : SpecsOk Try.prog L48 := ⟨fun _ hC H => w_ref01_Same hC orders (has_at H 0 rfl), ks_ne (by kernel_rfl), L47_ok⟩
theorem L49_ok : SpecsOk Try.prog L49 := ⟨fun _ hC H => w_law10_list hC orders (has_at H 0 rfl), ks_ne (by kernel_rfl), L48_ok⟩
theorem L50_ok : SpecsOk Try.prog L50 := ⟨fun _ hC H => w_law10_pairs hC orders, ks_ne (by kernel_rfl), L49_ok⟩
theorem L51_ok : SpecsOk Try.prog L51 := ⟨fun _ hC H => w_law10_lives hC orders (has_at H 12 rfl) (has_at H 31 rfl) (has_at H 30 rfl) (has_at H 6 rfl) (has_at H 5 rfl) (has_at H 4 rfl) (has_at H 1 rfl) (has_at H 0 rfl), ks_ne (by kernel_rfl), L50_ok⟩
theorem L52_ok : SpecsOk Try.prog L52 := ⟨fun _ hC H => w_ref04_Run hC orders (has_at H 25 rfl), ks_ne (by kernel_rfl), L51_ok⟩
theorem L53_ok : SpecsOk Try.prog L53 := ⟨fun _ hC H => w_law10_EqualsEqual hC orders (has_at H 49 rfl) (has_at H 48 rfl) (has_at H 32 rfl) (has_at H 16 rfl) (has_at H 15 rfl) (has_at H 1 rfl) (has_at H 0 rfl) (has_at H 4 rfl), ks_ne (by kernel_rfl), L52_ok⟩
end Go.Own

namespace Go.Own
set_option linter.unusedVariables false
theorem w64_in {x : Int} (h1 : -9223372036854775808 ≤ x) (h2 : x ≤ 9223372036854775807) : w64 x = x := by
 simp only [w64, IntKind.wrap, IntKind.bits, IntKind.signed]
 simp
 omega
section
variable {α β σ τ ρ : Type}
def Ret (x : Option α) (Q : α → Prop) : Prop := ∃ a, x = some a ∧ Q a
theorem Ret.mono {x : Option α} {Q R : α → Prop} (h : Ret x Q) (q : ∀ a, Q a → R a) : Ret x R := by
 obtain ⟨a, e, h⟩ := h
 exact ⟨a, e, q a h⟩
theorem Ret.eq {x : Option α} {a : α} (h : Ret x fun b => b = a) : x = some a := by
 obtain ⟨b, e, rfl⟩ := h
 exact e
theorem ret_some {a : α} {Q : α → Prop} : Ret (some a) Q ↔ Q a := ⟨fun ⟨b, e, q⟩ => by cases e; exact q, fun q => ⟨a, rfl, q⟩⟩
theorem ret_bind {x : Option α} {f : α → Option β} {Q : β → Prop} : Ret (Option.bind x f) Q ↔ Ret x fun a => Ret (f a) Q := by
 cases x with
 | none => exact ⟨fun ⟨b, e, _⟩ => (by cases e), fun ⟨b, e, _⟩ => (by cases e)⟩
 | some a => exact ⟨fun h => ⟨a, rfl, h⟩, fun ⟨b, e, h⟩ => by cases e; exact h⟩
theorem ret_gd {p : Prop} [Decidable p] {x : Option α} {Q : α → Prop} : Ret (gd p x) Q ↔ p ∧ Ret x Q := by
 unfold gd
 by_cases h : p
 ·rw [if_pos h]; exact ⟨fun q => ⟨h, q⟩, fun q => q.2⟩
 ·rw [if_neg h]; exact ⟨fun ⟨b, e, _⟩ => by (cases e), fun q => (h q.1).elim⟩
theorem ret_bif {c : Bool} {x y : Option α} {Q : α → Prop} : Ret (bif c then x else y) Q ↔ (c = true → Ret x Q) ∧ (c = false → Ret y Q) := by
 cases c <;> simp
theorem ret_idx {l : List α} {i : Int} {Q : α → Prop} : Ret (idx l i) Q ↔ 0 ≤ i ∧ ∃ x, l[i.toNat]? = some x ∧ Q x := by
 cases i with
 | ofNat n =>
  show (∃ a, l[n]? = some a ∧ Q a) ↔ _
  simp
 | negSucc n => exact ⟨fun ⟨b, e, _⟩ => by (cases e), fun ⟨h, _⟩ => by omega⟩
theorem idx_nat (l : List α) (i : Nat) : idx l (i : Int) = l[i]? := rfl
theorem gdT {p : Prop} [Decidable p] {x : Option α} (h : p) : gd p x = x := by unfold gd; rw [if_pos h]
theorem bdT {x : Option α} {u : α} {f : α → Option ρ} (h : x = some u) : Option.bind x f = f u := by rw [h]; rfl
theorem loopN_succ (step : σ → Option (LR σ τ)) (n : Nat) (s : σ) : loopN step (n + 1) s = (match step s with | none => none | some (.next s') => loopN step n s' | some (.done t) => some t) := rfl
def LRP (N : σ → Prop) (D : τ → Prop) : LR σ τ → Prop
 | .next s => N s
 | .done t => D t
theorem ret_loop {step : σ → Option (LR σ τ)} (I : σ → Prop) (m : σ → Nat) {R : τ → Prop} {s : σ} (hs : I s) (hm : m s < 18446744073709551616)
  (h : ∀ s, I s → Ret (step s) (LRP (fun s' => I s' ∧ m s' < m s) R)) : Ret (loop step s) R := by
 have gen : ∀ (n : Nat) (s : σ), I s → m s < n → Ret (loopN step n s) R := by
  intro n
  induction n with
  | zero => intro s _ h; omega
  | succ n ih =>
   intro s hs hm
   obtain ⟨a, e, q⟩ := h s hs
   rw [loopN_succ, e]
   cases a with
   | next s' => exact ih s' q.1 (by have := q.2; omega)
   | done t => exact ⟨t, rfl, q⟩
 exact gen fuel s hs hm
theorem loop_seq {step : σ → Option (LR σ τ)} (st : Nat → σ) (n : Nat) {t : τ} (hn : n < 9223372036854775808) (h : ∀ i, i < n → step (st i) = some (.next (st (i + 1)))) (hd : step (st n) = some (.done t)) : loop step (st 0) = some t := by
 have gen : ∀ (k : Nat) (i : Nat), i ≤ n → n - i < k → loopN step k (st i) = some t := by
  intro k
  induction k with
  | zero => intro i _ h; omega
  | succ k ih =>
   intro i hi hk
   rw [loopN_succ]
   rcases Nat.lt_or_ge i n with q | q
   ·rw [h i q]
    exact ih (i + 1) q (by omega)
   ·have : i = n := by omega
    subst this
    rw [hd]
 exact gen fuel 0 (Nat.zero_le _) (by show n - 0 < 18446744073709551616; omega)
def firstS (f : Nat → α → Option ρ) : List α → Nat → Option ρ
 | [], _ => none
 | x :: l, i => match f i x with | some r => some r | none => firstS f l (i + 1)
theorem firstS_none {f : Nat → α → Option ρ} : ∀ {l : List α} {k : Nat}, (∀ i x, l[i]? = some x → f (k + i) x = none) → firstS f l k = none
 | [], _, _ => rfl
 | x :: l, k, h => by
  have h0 := h 0 x rfl
  simp only [Nat.add_zero] at h0
  simp only [firstS, h0]
  exact firstS_none fun i y hy => by have := h (i + 1) y (by simpa using hy); rwa [show k + 1 + i = k + (i + 1) by omega]
theorem firstS_some {f : Nat → α → Option ρ} {r : ρ} : ∀ {l : List α} {k : Nat}, firstS f l k = some r → ∃ i x, l[i]? = some x ∧ f (k + i) x = some r
 | [], _, h => by cases h
 | x :: l, k, h => by
  simp only [firstS] at h
  cases hf : f k x with
  | some r' => rw [hf] at h; exact ⟨0, x, rfl, by rw [Nat.add_zero, hf]; exact h⟩
  | none =>
   rw [hf] at h
   obtain ⟨i, y, h1, h2⟩ := firstS_some h
   exact ⟨i + 1, y, by simpa using h1, by rw [← h2]; congr 1; omega⟩
theorem firstS_isNone {f : Nat → α → Option ρ} {l : List α} {k : Nat} (h : firstS f l k = none) : ∀ i x, l[i]? = some x → f (k + i) x = none := by
 induction l generalizing k with
 | nil => intro i x h; simp at h
 | cons y l ih =>
  intro i x hx
  simp only [firstS] at h
  cases hf : f k y with
  | some r' => rw [hf] at h; cases h
  | none =>
   rw [hf] at h
   cases i with
   | zero => simp at hx; subst hx; simpa using hf
   | succ i => have := ih h i x (by simpa using hx); rwa [show k + (i + 1) = k + 1 + i by omega]
def oS : Option ρ → Unit ⊕ ρ
 | some r => .inr r
 | none => .inl ()
def nS (i : Nat) : Option ρ → LR Int (Unit ⊕ ρ)
 | some r => .done (.inr r)
 | none => .next (w64 ((i : Int) + 1))
theorem loop_list (l : List α) (hl : l.length < 4611686018427387904) {step : Int → Option (LR Int (Unit ⊕ ρ))} (f : Nat → α → Option ρ)
  (h : ∀ (i : Nat) (x : α), l[i]? = some x → step (i : Int) = some (nS i (f i x))) (h2 : step (l.length : Int) = some (.done (.inl ()))) :
  loop step 0 = some (oS (firstS f l 0)) := by
 have gen : ∀ (n : Nat) (k : Nat), k ≤ l.length → l.length - k < n → loopN step n (k : Int) = some (oS (firstS f (l.drop k) k)) := by
  intro n
  induction n with
  | zero => intro k _ h; omega
  | succ n ih =>
   intro k hk hn
   rw [loopN_succ]
   rcases Nat.lt_or_ge k l.length with hlt | hge
   ·have hx : l[k]? = some l[k] := List.getElem?_eq_getElem hlt
    rw [h k _ hx, List.drop_eq_getElem_cons hlt]
    simp only [firstS]
    cases hf : f k l[k] with
    | some r => rfl
    | none =>
     simp only [nS]
     rw [w64_in (by omega) (by omega)]
     exact ih (k + 1) hlt (by omega)
   ·have : k = l.length := by omega
    subst this
    rw [h2, List.drop_length]
    rfl
 exact gen fuel 0 (Nat.zero_le _) (by show l.length - 0 < 18446744073709551616; omega)
end
end Go.Own

namespace Go.Own
set_option linter.unusedVariables false
def fitB (m : S_api_Machine) (x : S_api_Edge) : Bool := (x.To == -1 && x.Out == -1) || (decide (0 ≤ x.To) && decide (x.To < (m.Rows.length : Int)) && decide (0 ≤ x.Out) && decide (x.Out < m.Outputs))
def rowB (m : S_api_Machine) (r : List S_api_Edge) : Bool := decide ((r.length : Int) = m.Inputs) && r.all (fitB m)
def chk (m : S_api_Machine) : Int :=
 if m.Inputs > 16 ∨ m.Outputs > 16 ∨ (m.Rows.length : Int) > 64 then 3 else if m.Inputs < 1 ∨ m.Outputs < 1 ∨ m.Rows.length = 0 then 1 else if m.Rows.all (rowB m) = true then 0 else 1
theorem fits_eq (m : S_api_Machine) (x : S_api_Edge) : machines_fits m x = some (fitB m x) := by
 unfold machines_fits machines_none
 simp only [Option.bind_some, Bool.and_true]
 rcases Bool.eq_false_or_eq_true (x.To == (-1) && x.Out == (-1)) with h | h
 ·simp [fitB, h]
 ·rw [h]
  simp only [fitB, h, Bool.false_or, cond_false]
  by_cases h1 : (0 : Int) ≤ x.To
  ·by_cases h2 : x.To < (m.Rows.length : Int)
   ·by_cases h3 : (0 : Int) ≤ x.Out
    ·simp [Bool.cond_eq_ite, h1, h2, h3]
    ·simp [Bool.cond_eq_ite, h1, h2, h3]
   ·simp [Bool.cond_eq_ite, h1, h2]
  ·simp [h1]
theorem contains_eq (m : S_api_Machine) (r : List S_api_Edge) (hl : r.length < 4611686018427387904) : slices_ContainsFunc_api_Edge_api_Edge r m = some (!r.all (fitB m)) := by
 have hloop : loop (fun s => slices_IndexFunc_api_Edge_api_Edge_L2 r m s) 0 = some (oS (firstS (fun i x => if fitB m x = true then none else some (i : Int)) r 0)) := by
  refine loop_list r hl _ ?_ ?_
  ·intro i x hx
   have hi := (List.getElem?_eq_some_iff.1 hx).1
   unfold slices_IndexFunc_api_Edge_api_Edge_L2
   have hd : decide ((i : Int) < ((r.length : Nat) : Int)) = true := by simpa using hi
   rw [hd, cond_true, idx_nat, bdT hx]
   unfold machines_Check_1
   simp only [fits_eq, Option.bind_some]
   cases fitB m x <;> rfl
  ·unfold slices_IndexFunc_api_Edge_api_Edge_L2
   simp
 unfold slices_ContainsFunc_api_Edge_api_Edge slices_IndexFunc_api_Edge_api_Edge
 rw [hloop]
 simp only [Option.bind_some]
 cases hf : firstS (fun i x => if fitB m x = true then none else some (i : Int)) r 0 with
 | some q =>
  obtain ⟨i, x, h1, h2⟩ := firstS_some hf
  have hx : fitB m x ≠ true := by
   intro h; rw [if_pos h] at h2; cases h2
  rw [if_neg hx] at h2
  simp only [Option.some.injEq] at h2
  have : r.all (fitB m) = false := by
   rw [List.all_eq_false]
   exact ⟨x, List.mem_of_getElem? h1, hx⟩
  rw [this]
  have : (q : Int) ≥ 0 := by rw [← h2]; omega
  show some (decide (q ≥ 0)) = _
  simp [this]
 | none =>
  have : r.all (fitB m) = true := by
   rw [List.all_eq_true]
   intro x hx
   obtain ⟨i, hi⟩ := List.getElem?_of_mem hx
   have := firstS_isNone hf i x hi
   by_cases h : fitB m x = true
   ·exact h
   ·rw [if_neg h] at this; cases this
  rw [this]
  rfl
theorem check_rows {m : S_api_Machine} (h0 : (m.Rows.length : Int) ≤ 64) (h1 : m.Inputs ≤ 16) : loop (fun s => machines_Check_L2 m s) 0 = some (oS (firstS (fun _ r => if rowB m r = true then none else some (1 : Int)) m.Rows 0)) := by
 refine loop_list m.Rows (by omega) _ ?_ ?_
 ·intro i r hr
  have hi := (List.getElem?_eq_some_iff.1 hr).1
  unfold machines_Check_L2
  have hd : decide ((i : Int) < ((m.Rows.length : Nat) : Int)) = true := by simpa using hi
  rw [hd, cond_true, idx_nat, bdT hr]
  by_cases hlen : (r.length : Int) = m.Inputs
  ·have hne : (((r.length : Nat) : Int) != m.Inputs) = false := by simpa using hlen
   rw [hne, cond_false, bdT (contains_eq m r (by omega))]
   have : rowB m r = r.all (fitB m) := by simp [rowB, hlen]
   rw [this]
   cases r.all (fitB m) <;> rfl
  ·have hne : (((r.length : Nat) : Int) != m.Inputs) = true := by simpa using hlen
   rw [hne, cond_true]
   have : rowB m r = false := by simp [rowB, hlen]
   rw [this]; rfl
 ·unfold machines_Check_L2
  simp
theorem rows_first (m : S_api_Machine) : firstS (fun _ r => if rowB m r = true then none else some (1 : Int)) m.Rows 0 = if m.Rows.all (rowB m) = true then none else some 1 := by
 by_cases h : m.Rows.all (rowB m) = true
 ·rw [if_pos h]
  refine firstS_none fun i r hr => ?_
  rw [if_pos (List.all_eq_true.1 h r (List.mem_of_getElem? hr))]
 ·rw [if_neg h]
  cases hf : firstS (fun _ r => if rowB m r = true then none else some (1 : Int)) m.Rows 0 with
  | some q =>
   obtain ⟨i, x, h1, h2⟩ := firstS_some hf
   split at h2
   ·cases h2
   ·exact h2.symm ▸ rfl
  | none =>
   exfalso
   apply h
   rw [List.all_eq_true]
   intro x hx
   obtain ⟨i, hi⟩ := List.getElem?_of_mem hx
   have := firstS_isNone hf i x hi
   by_cases h : rowB m x = true
   ·exact h
   ·rw [if_neg h] at this; cases this
theorem check_eq (m : S_api_Machine) : machines_Check m = some (chk m) := by
 unfold machines_Check chk
 by_cases h1 : m.Inputs > 16
 ·simp [h1]
 by_cases h2 : m.Outputs > 16
 ·simp [Bool.cond_eq_ite, h1, h2]
 by_cases h3 : (m.Rows.length : Int) > 64
 ·simp [Bool.cond_eq_ite, h1, h2, h3]
 rw [if_neg (by simp [Bool.cond_eq_ite, h1, h2, h3])]
 by_cases h4 : m.Inputs < 1
 ·simp [Bool.cond_eq_ite, h1, h2, h3, h4]
 by_cases h5 : m.Outputs < 1
 ·simp [Bool.cond_eq_ite, h1, h2, h3, h4, h5]
 by_cases h6 : m.Rows.length = 0
 ·simp [Bool.cond_eq_ite, h1, h2, h4, h5, h6]
 rw [if_neg (by simp [h4, h5, h6])]
 have h6' : decide (((m.Rows.length : Nat) : Int) < 1) = false := by simp; omega
 have e1 : decide (m.Inputs > 16) = false := by simpa using h1
 have e2 : decide (m.Outputs > 16) = false := by simpa using h2
 have e3 : decide (((m.Rows.length : Nat) : Int) > 64) = false := by simpa using h3
 have e4 : decide (m.Inputs < 1) = false := by simpa using h4
 have e5 : decide (m.Outputs < 1) = false := by simpa using h5
 simp only [e1, e2, e3, e4, e5, h6', cond_false]
 rw [bdT (check_rows (by omega) (by omega)), rows_first]
 by_cases h : m.Rows.all (rowB m) = true
 ·rw [if_pos h, if_pos h]; rfl
 ·rw [if_neg h, if_neg h]; rfl
theorem ref_edges {m : S_api_Machine} {s : Nat} {r : List S_api_Edge} (hr : m.Rows[s]? = some r) (hlen : (r.length : Int) = m.Inputs) (h1 : m.Inputs ≤ 16) : loop (fun q => ref04_Check_L4 m (s : Int) q) 0 = some (if r.all (fitB m) = true then .inl () else .inr 1) := by
 have hl : loop (fun q => ref04_Check_L4 m (s : Int) q) 0 = some (oS (firstS (fun _ x => if fitB m x = true then none else some (1 : Int)) r 0)) := by
  refine loop_list r (by omega) _ ?_ ?_
  ·intro i x hx
   have hi := (List.getElem?_eq_some_iff.1 hx).1
   unfold ref04_Check_L4
   have hd : decide ((i : Int) < m.Inputs) = true := by rw [← hlen]; simpa using hi
   rw [hd, cond_true, idx_nat, bdT hr, idx_nat, bdT hx]
   unfold ref04_Check_J6 ref04_Check_J5 fitB
   by_cases a1 : x.To = -1
   ·by_cases a2 : x.Out = -1
    ·simp [nS, Bool.cond_eq_ite, a1, a2]
    ·simp [nS, Bool.cond_eq_ite, a1, a2]
   ·by_cases a2 : x.To < 0
    ·have : ¬ 0 ≤ x.To := by omega
     simp [nS, Bool.cond_eq_ite, a1, a2, this]
    ·by_cases a3 : (m.Rows.length : Int) ≤ x.To
     ·have : ¬ x.To < (m.Rows.length : Int) := by omega
      simp [nS, Bool.cond_eq_ite, a1, a2, a3, this]
     ·by_cases a4 : x.Out < 0
      ·have : ¬ 0 ≤ x.Out := by omega
       simp [nS, Bool.cond_eq_ite, a1, a2, a3, a4, this]
      ·by_cases a5 : m.Outputs ≤ x.Out
       ·have : ¬ x.Out < m.Outputs := by omega
        simp [nS, Bool.cond_eq_ite, a1, a2, a3, a4, a5, this]
       ·have b1 : 0 ≤ x.To := by omega
        have b2 : x.To < (m.Rows.length : Int) := by omega
        have b3 : 0 ≤ x.Out := by omega
        have b4 : x.Out < m.Outputs := by omega
        simp [nS, Bool.cond_eq_ite, a1, a2, a3, a4, a5, b1, b2, b3, b4]
  ·unfold ref04_Check_L4
   simp [hlen]
 rw [hl]
 by_cases h : r.all (fitB m) = true
 ·rw [if_pos h]
  rw [firstS_none fun i x hx => by rw [if_pos (List.all_eq_true.1 h x (List.mem_of_getElem? hx))]]
  rfl
 ·rw [if_neg h]
  cases hf : firstS (fun _ x => if fitB m x = true then none else some (1 : Int)) r 0 with
  | some q =>
   obtain ⟨i, x, h1, h2⟩ := firstS_some hf
   split at h2
   ·cases h2
   ·simp only [Option.some.injEq] at h2; rw [← h2]; rfl
  | none =>
   exfalso
   apply h
   rw [List.all_eq_true]
   intro x hx
   obtain ⟨i, hi⟩ := List.getElem?_of_mem hx
   have := firstS_isNone hf i x hi
   by_cases h : fitB m x = true
   ·exact h
   ·rw [if_neg h] at this; cases this
theorem ref_check (m : S_api_Machine) : ref04_Check m = some (chk m) := by
 unfold ref04_Check chk
 by_cases h1 : m.Inputs > 16
 ·simp [h1]
 by_cases h2 : m.Outputs > 16
 ·simp [Bool.cond_eq_ite, h1, h2]
 by_cases h3 : (m.Rows.length : Int) > 64
 ·simp [Bool.cond_eq_ite, h1, h2, h3]
 rw [if_neg (by simp [Bool.cond_eq_ite, h1, h2, h3])]
 by_cases h4 : m.Inputs < 1
 ·simp [Bool.cond_eq_ite, h1, h2, h3, h4]
 by_cases h5 : m.Outputs < 1
 ·simp [Bool.cond_eq_ite, h1, h2, h3, h4, h5]
 by_cases h6 : m.Rows.length = 0
 ·simp [Bool.cond_eq_ite, h1, h2, h4, h5, h6]
 rw [if_neg (by simp [h4, h5, h6])]
 have e1 : decide (m.Inputs > 16) = false := by simpa using h1
 have e2 : decide (m.Outputs > 16) = false := by simpa using h2
 have e3 : decide (((m.Rows.length : Nat) : Int) > 64) = false := by simpa using h3
 have e4 : decide (m.Inputs < 1) = false := by simpa using h4
 have e5 : decide (m.Outputs < 1) = false := by simpa using h5
 have e6 : (((m.Rows.length : Nat) : Int) == 0) = false := by simp; intro h; rw [h] at h6; exact h6 rfl
 simp only [e1, e2, e3, e4, e5, e6, cond_false]
 have hl : loop (fun s => ref04_Check_L2 m s) 0 = some (oS (firstS (fun _ r => if rowB m r = true then none else some (1 : Int)) m.Rows 0)) := by
  refine loop_list m.Rows (by omega) _ ?_ ?_
  ·intro i r hr
   have hi := (List.getElem?_eq_some_iff.1 hr).1
   unfold ref04_Check_L2
   have hd : decide ((i : Int) < ((m.Rows.length : Nat) : Int)) = true := by simpa using hi
   rw [hd, cond_true, idx_nat, bdT hr]
   by_cases hlen : (r.length : Int) = m.Inputs
   ·have hne : (((r.length : Nat) : Int) != m.Inputs) = false := by simpa using hlen
    rw [hne, cond_false, bdT (ref_edges hr hlen (by omega))]
    have : rowB m r = r.all (fitB m) := by simp [rowB, hlen]
    rw [this]
    cases r.all (fitB m) <;> rfl
   ·have hne : (((r.length : Nat) : Int) != m.Inputs) = true := by simpa using hlen
    rw [hne, cond_true]
    have : rowB m r = false := by simp [rowB, hlen]
    rw [this]; rfl
  ·unfold ref04_Check_L2
   simp
 rw [bdT hl, rows_first]
 by_cases h : m.Rows.all (rowB m) = true
 ·rw [if_pos h, if_pos h]; rfl
 ·rw [if_neg h, if_neg h]; rfl
end Go.Own

namespace Go.Own
set_option linter.unusedVariables false
structure VM (m : S_api_Machine) : Prop where
 in1 : 1 ≤ m.Inputs
 in16 : m.Inputs ≤ 16
 out1 : 1 ≤ m.Outputs
 out16 : m.Outputs ≤ 16
 len1 : 1 ≤ m.Rows.length
 len64 : m.Rows.length ≤ 64
 row : ∀ r ∈ m.Rows, (r.length : Int) = m.Inputs
 edge : ∀ r ∈ m.Rows, ∀ x ∈ r, (x.To = -1 ∧ x.Out = -1) ∨ (0 ≤ x.To ∧ x.To < (m.Rows.length : Int) ∧ 0 ≤ x.Out ∧ x.Out < m.Outputs)
theorem vm_of {m : S_api_Machine} (h : chk m = 0) : VM m := by
 unfold chk at h
 split at h
 ·cases h
 split at h
 ·cases h
 split at h
 ·rename_i h1 h2 h3
  rw [List.all_eq_true] at h3
  refine ⟨by omega, by omega, by omega, by omega, by omega, by omega, fun r hr => ?_, fun r hr x hx => ?_⟩
  ·have := h3 r hr
   simp only [rowB, Bool.and_eq_true, decide_eq_true_eq] at this
   exact this.1
  ·have := h3 r hr
   simp only [rowB, Bool.and_eq_true, decide_eq_true_eq, List.all_eq_true] at this
   have := this.2 x hx
   simp only [fitB, Bool.or_eq_true, Bool.and_eq_true, beq_iff_eq, decide_eq_true_eq] at this
   rcases this with ⟨a, b⟩ | ⟨⟨⟨a, b⟩, c⟩, d⟩
   ·exact .inl ⟨a, b⟩
   ·exact .inr ⟨a, b, c, d⟩
 ·cases h
theorem chk_of {m : S_api_Machine} (h : VM m) : chk m = 0 := by
 unfold chk
 have := h.in1; have := h.in16; have := h.out1; have := h.out16; have := h.len1; have := h.len64
 rw [if_neg (by omega), if_neg (by omega), if_pos]
 rw [List.all_eq_true]
 intro r hr
 simp only [rowB, Bool.and_eq_true, decide_eq_true_eq, List.all_eq_true]
 refine ⟨h.row r hr, fun x hx => ?_⟩
 simp only [fitB, Bool.or_eq_true, Bool.and_eq_true, beq_iff_eq, decide_eq_true_eq]
 rcases h.edge r hr x hx with ⟨a, b⟩ | ⟨a, b, c, d⟩
 ·exact .inl ⟨a, b⟩
 ·exact .inr ⟨⟨⟨a, b⟩, c⟩, d⟩
def kk (m : S_api_Machine) : Nat := m.Inputs.toNat
def E (m : S_api_Machine) (s i : Nat) : S_api_Edge := ((m.Rows[s]?.getD [])[i]?).getD ⟨-1, -1⟩
section
variable {m : S_api_Machine} (h : VM m)
include h
theorem VM.kk_eq : ((kk m : Nat) : Int) = m.Inputs := by have := h.in1; unfold kk; omega
theorem VM.kk_pos : 1 ≤ kk m := by have := h.in1; unfold kk; omega
theorem VM.kk_le : kk m ≤ 16 := by have := h.in16; unfold kk; omega
theorem VM.rowAt {s : Nat} (hs : s < m.Rows.length) : ∃ r, m.Rows[s]? = some r ∧ r.length = kk m ∧ ∀ i, i < kk m → r[i]? = some (E m s i) := by
 have hr := List.getElem?_eq_getElem hs
 have hl := h.row _ (List.getElem_mem hs)
 have hl' : m.Rows[s].length = kk m := by unfold kk; omega
 refine ⟨_, hr, hl', fun i hi => ?_⟩
 have hi' : i < m.Rows[s].length := by omega
 unfold E
 rw [hr]
 simp only [Option.getD_some]
 rw [List.getElem?_eq_getElem hi']
 rfl
theorem VM.edgeAt {s i : Nat} (hs : s < m.Rows.length) (hi : i < kk m) : ((E m s i).To = -1 ∧ (E m s i).Out = -1) ∨ (0 ≤ (E m s i).To ∧ (E m s i).To < (m.Rows.length : Int) ∧ 0 ≤ (E m s i).Out ∧ (E m s i).Out < m.Outputs) := by
 obtain ⟨r, h1, _, h2⟩ := h.rowAt hs
 exact h.edge r (List.mem_of_getElem? h1) _ (List.mem_of_getElem? (h2 i hi))
theorem VM.edge_eq {s i : Nat} (hs : s < m.Rows.length) (hi : i < kk m) {β : Type} {f : S_api_Edge → Option β} :
  (Option.bind (idx m.Rows (s : Int)) fun r => Option.bind (idx r (i : Int)) f) = f (E m s i) := by
 obtain ⟨r, h1, _, h2⟩ := h.rowAt hs
 rw [idx_nat, h1, Option.bind_some, idx_nat, h2 i hi, Option.bind_some]
end
section
variable {K V : Type} [BEq K] [LawfulBEq K]
theorem mget_set (l : List (K × V)) (x y : K) (v : V) : mget (mset l x v) y = if (x == y) = true then some v else mget l y := by
 induction l with
 | nil => simp only [mset, mget]
 | cons p l ih =>
  simp only [mset]
  by_cases h : p.1 = x
  ·rw [if_pos (by simpa using h)]
   simp only [mget]
   by_cases q : x = y
   ·rw [if_pos (by simpa using q), if_pos (by simpa using q)]
   ·rw [if_neg (by simpa using q), if_neg (by simpa using q), if_neg (by rw [h]; simpa using q)]
  ·rw [if_neg (by simpa using h)]
   simp only [mget, ih]
   by_cases q : p.1 = y
   ·have q' : ¬ x = y := by rintro rfl; exact h q
    have e1 : (p.1 == y) = true := by simpa using q
    have e2 : (x == y) = false := by simpa using q'
    simp [e1, e2]
   ·have e1 : (p.1 == y) = false := by simpa using q
    simp [e1]
end
instance : LawfulBEq (Arr2 Int) := {
 eq_of_beq := by
  intro a b h
  obtain ⟨a0, a1⟩ := a
  obtain ⟨b0, b1⟩ := b
  simp only [BEq.beq, Bool.and_eq_true, decide_eq_true_eq] at h
  rw [h.1, h.2]
 rfl := by
  intro a
  obtain ⟨a0, a1⟩ := a
  simp [BEq.beq] }
end Go.Own

namespace Go.Own
set_option linter.unusedVariables false
section
variable {S : Type}
def rv (k : Nat) : List Nat → Nat
 | [] => 0
 | i :: u => rv k u * k + i + 1
def PathR (k : Nat) (bad : S → Nat → Bool) (nx : S → Nat → Option S) (p0 : S) : List Nat → S → Prop
 | [], q => q = p0
 | i :: u, q => ∃ p, PathR k bad nx p0 u p ∧ i < k ∧ bad p i = false ∧ nx p i = some q
def TellR (k : Nat) (bad : S → Nat → Bool) (nx : S → Nat → Option S) (p0 : S) : List Nat → Prop
 | [] => False
 | i :: u => ∃ p, PathR k bad nx p0 u p ∧ i < k ∧ bad p i = true
def TellF (k : Nat) (bad : S → Nat → Bool) (nx : S → Nat → Option S) : S → List Nat → Prop
 | _, [] => False
 | p, [i] => i < k ∧ bad p i = true
 | p, i :: w => i < k ∧ bad p i = false ∧ ∃ q, nx p i = some q ∧ TellF k bad nx q w
structure Bfs (k : Nat) (bad : S → Nat → Bool) (nx : S → Nat → Option S) (p0 : S) (L : List (S × List Nat)) (at_ i : Nat) : Prop where
 first : L[0]? = some (p0, [])
 mono : ∀ (j j' : Nat) (a b : S × List Nat), j < j' → L[j]? = some a → L[j']? = some b → rv k a.2 < rv k b.2
 path : ∀ a ∈ L, PathR k bad nx p0 a.2 a.1
 ahead : ∀ a c, L[at_]? = some c → a ∈ L → rv k a.2 < rv k c.2 * k + i + 1
 pos : i ≤ k
 lies : at_ ≤ L.length
 fin : at_ = L.length → i = 0
 short : ∀ (j : Nat) (a : S × List Nat), L[j]? = some a → a.2.length ≤ j
 seen : ∀ (j x : Nat) (a : S × List Nat), L[j]? = some a → x < k → (j < at_ ∨ j = at_ ∧ x < i) → bad a.1 x = false ∧ ∀ q, nx a.1 x = some q → ∃ b ∈ L, b.1 = q ∧ rv k b.2 ≤ rv k a.2 * k + x + 1
variable {k : Nat} {bad : S → Nat → Bool} {nx : S → Nat → Option S} {p0 : S}
theorem Bfs.start : Bfs k bad nx p0 [(p0, [])] 0 0 := {
 first := rfl
 mono := by
  intro j j' a b h h1 h2
  have := (List.getElem?_eq_some_iff.1 h2).1
  simp at this
  omega
 path := by intro a ha; simp at ha; subst ha; rfl
 ahead := by intro a c _ ha; simp at ha; subst ha; simp [rv]
 pos := Nat.zero_le _
 lies := by simp
 fin := by intro; rfl
 short := by
  intro j a h
  have := (List.getElem?_eq_some_iff.1 h).1
  simp at this
  subst this
  simp at h
  subst h
  simp
 seen := by rintro j x a h _ (q | ⟨_, q⟩) <;> omega }
theorem Bfs.old {L : List (S × List Nat)} {a i : Nat} (h : Bfs k bad nx p0 L a i) {c : S × List Nat} (hc : L[a]? = some c) (hi : i < k) (hb : bad c.1 i = false)
  (hn : ∀ q, nx c.1 i = some q → ∃ b ∈ L, b.1 = q) : Bfs k bad nx p0 L a (i + 1) := {
 first := h.first
 mono := h.mono
 path := h.path
 ahead := fun x y hy hx => by have := h.ahead x y hy hx; omega
 pos := hi
 lies := h.lies
 fin := fun e => by have := (List.getElem?_eq_some_iff.1 hc).1; omega
 short := h.short
 seen := by
  intro j x y hy hx q
  by_cases e : j = a ∧ x = i
  ·obtain ⟨rfl, rfl⟩ := e
   rw [hc] at hy
   cases hy
   refine ⟨hb, fun q hq => ?_⟩
   obtain ⟨b, h1, h2⟩ := hn q hq
   exact ⟨b, h1, h2, by have := h.ahead b c hc h1; omega⟩
  ·exact h.seen j x y hy hx (by omega) }
theorem Bfs.new {L : List (S × List Nat)} {a i : Nat} (h : Bfs k bad nx p0 L a i) {c : S × List Nat} (hc : L[a]? = some c) (hi : i < k) (hb : bad c.1 i = false) {q : S}
  (hn : nx c.1 i = some q) : Bfs k bad nx p0 (L ++ [(q, i :: c.2)]) a (i + 1) := by
 have hlt := (List.getElem?_eq_some_iff.1 hc).1
 refine ⟨?_, ?_, ?_, ?_, hi, by simp; omega, fun e => by simp at e; omega, ?_, ?_⟩
 ·rw [List.getElem?_append_left (by omega)]; exact h.first
 ·intro j j' x y hj h1 h2
  have hl := (List.getElem?_eq_some_iff.1 h2).1
  simp at hl
  rw [List.getElem?_append_left (by omega)] at h1
  rcases Nat.lt_or_ge j' L.length with g | g
  ·rw [List.getElem?_append_left g] at h2
   exact h.mono j j' x y hj h1 h2
  ·have : j' = L.length := by omega
   subst this
   simp at h2
   subst h2
   exact h.ahead x c hc (List.mem_of_getElem? h1)
 ·intro x hx
  rcases List.mem_append.1 hx with g | g
  ·exact h.path x g
  ·simp at g
   subst g
   exact ⟨c.1, h.path c (List.mem_of_getElem? hc), hi, hb, hn⟩
 ·intro x y hy hx
  rw [List.getElem?_append_left hlt] at hy
  rcases List.mem_append.1 hx with g | g
  ·have := h.ahead x y hy g; omega
  ·simp at g
   subst g
   rw [hc] at hy
   cases hy
   simp [rv]
 ·intro j y hy
  rcases Nat.lt_or_ge j L.length with g | g
  ·rw [List.getElem?_append_left g] at hy
   exact h.short j y hy
  ·have hl := (List.getElem?_eq_some_iff.1 hy).1
   simp at hl
   have : j = L.length := by omega
   subst this
   simp at hy
   subst hy
   have := h.short a c hc
   simp
   omega
 ·intro j x y hy hx g
  rw [List.getElem?_append_left (by omega)] at hy
  by_cases e : j = a ∧ x = i
  ·obtain ⟨rfl, rfl⟩ := e
   rw [hc] at hy
   cases hy
   refine ⟨hb, fun q' hq => ?_⟩
   rw [hn] at hq
   cases hq
   exact ⟨(q, x :: c.2), by simp, rfl, Nat.le_refl _⟩
  ·obtain ⟨h1, h2⟩ := h.seen j x y hy hx (by omega)
   refine ⟨h1, fun q' hq => ?_⟩
   obtain ⟨b, g1, g2⟩ := h2 q' hq
   exact ⟨b, List.mem_append_left _ g1, g2⟩
theorem Bfs.step {L : List (S × List Nat)} {a : Nat} (h : Bfs k bad nx p0 L a k) (ha : a < L.length) : Bfs k bad nx p0 L (a + 1) 0 := {
 first := h.first
 mono := h.mono
 path := h.path
 ahead := by
  intro x c hc hx
  have h1 := h.ahead x _ (List.getElem?_eq_getElem ha) hx
  have h2 := h.mono a (a + 1) _ _ (by omega) (List.getElem?_eq_getElem ha) hc
  have h3 : (rv k L[a].2 + 1) * k ≤ rv k c.2 * k := Nat.mul_le_mul_right _ h2
  rw [Nat.succ_mul] at h3
  omega
 pos := Nat.zero_le _
 lies := ha
 fin := fun _ => rfl
 short := h.short
 seen := fun j x b hb hx g => h.seen j x b hb hx (by rcases g with g | ⟨_, g⟩ <;> omega) }
theorem Bfs.reach {L : List (S × List Nat)} {a i : Nat} (h : Bfs k bad nx p0 L a i) : ∀ (u : List Nat) (q : S), PathR k bad nx p0 u q → (∀ c, L[a]? = some c → rv k u < rv k c.2 * k + i + 1) → ∃ (j : Nat) (b : S × List Nat), L[j]? = some b ∧ b.1 = q ∧ rv k b.2 ≤ rv k u
 | [], q, hp, _ => ⟨0, _, h.first, hp.symm, Nat.zero_le _⟩
 | x :: u, q, ⟨p, hp, hx, hb, hn⟩, hlt => by
  have hk : rv k u ≤ rv k u * k := Nat.le_mul_of_pos_right _ (by omega)
  obtain ⟨j, b, hj, rfl, hr⟩ := h.reach u p hp fun c hc => by have := hlt c hc; simp only [rv] at this; omega
  have hmul : rv k b.2 * k ≤ rv k u * k := Nat.mul_le_mul_right _ hr
  have hjl := (List.getElem?_eq_some_iff.1 hj).1
  have hpos : j < a ∨ j = a ∧ x < i := by
   rcases Nat.lt_trichotomy j a with g | g | g
   ·exact .inl g
   ·subst g
    refine .inr ⟨rfl, ?_⟩
    have := hlt b hj
    simp only [rv] at this
    omega
   ·exfalso
    have hal : a < L.length := by omega
    have h1 := hlt _ (List.getElem?_eq_getElem hal)
    have h2 := h.mono a j _ _ g (List.getElem?_eq_getElem hal) hj
    have h3 : (rv k L[a].2 + 1) * k ≤ rv k b.2 * k := Nat.mul_le_mul_right _ h2
    rw [Nat.succ_mul] at h3
    have := h.pos
    simp only [rv] at h1
    omega
  obtain ⟨_, h2⟩ := h.seen j x b hj hx hpos
  obtain ⟨c, g1, g2, g3⟩ := h2 q hn
  obtain ⟨j', g4⟩ := List.getElem?_of_mem g1
  exact ⟨j', c, g4, g2, by simp only [rv]; omega⟩
theorem Bfs.least {L : List (S × List Nat)} {a i : Nat} (h : Bfs k bad nx p0 L a i) {w : List Nat} (hw : TellR k bad nx p0 w) (hlt : ∀ c, L[a]? = some c → rv k w < rv k c.2 * k + i + 1) : False := by
 cases w with
 | nil => exact hw
 | cons x u =>
  obtain ⟨p, hp, hx, hb⟩ := hw
  have hk : rv k u ≤ rv k u * k := Nat.le_mul_of_pos_right _ (by omega)
  obtain ⟨j, b, hj, rfl, hr⟩ := h.reach u p hp fun c hc => by have := hlt c hc; simp only [rv] at this; omega
  have hmul : rv k b.2 * k ≤ rv k u * k := Nat.mul_le_mul_right _ hr
  have hjl := (List.getElem?_eq_some_iff.1 hj).1
  have hpos : j < a ∨ j = a ∧ x < i := by
   rcases Nat.lt_trichotomy j a with g | g | g
   ·exact .inl g
   ·subst g
    refine .inr ⟨rfl, ?_⟩
    have := hlt b hj
    simp only [rv] at this
    omega
   ·exfalso
    have hal : a < L.length := by omega
    have h1 := hlt _ (List.getElem?_eq_getElem hal)
    have h2 := h.mono a j _ _ g (List.getElem?_eq_getElem hal) hj
    have h3 : (rv k L[a].2 + 1) * k ≤ rv k b.2 * k := Nat.mul_le_mul_right _ h2
    rw [Nat.succ_mul] at h3
    have := h.pos
    simp only [rv] at h1
    omega
  have := (h.seen j x b hj hx hpos).1
  rw [this] at hb
  cases hb
theorem path_cons {i : Nat} {q : S} (hi : i < k) (hb : bad p0 i = false) (hn : nx p0 i = some q) : ∀ {u : List Nat} {r : S}, PathR k bad nx q u r → PathR k bad nx p0 (u ++ [i]) r
 | [], r, h => ⟨p0, rfl, hi, hb, by rw [hn]; exact congrArg some h.symm⟩
 | x :: u, r, ⟨p, hp, h⟩ => ⟨p, path_cons hi hb hn hp, h⟩
theorem tell_rev : ∀ {w : List Nat} {p : S}, TellF k bad nx p w → TellR k bad nx p w.reverse
 | [], _, h => h.elim
 | [i], p, h => ⟨p, rfl, h⟩
 | i :: j :: w, p, ⟨hi, hb, q, hn, h⟩ => by
  have := tell_rev h
  rw [List.reverse_cons]
  cases hr : (j :: w).reverse with
  | nil => simp at hr
  | cons x u =>
   rw [hr] at this
   obtain ⟨r, h1, h2⟩ := this
   exact ⟨r, path_cons hi hb hn h1, h2⟩
def Mk (k : Nat) (bad : S → Nat → Bool) (nx : S → Nat → Option S) : Nat → S → Prop
 | 0, _ => False
 | n + 1, p => Mk k bad nx n p ∨ ∃ i, i < k ∧ (bad p i = true ∨ ∃ q, nx p i = some q ∧ Mk k bad nx n q)
theorem Mk.mono {n m : Nat} {p : S} (h : Mk k bad nx n p) (hm : n ≤ m) : Mk k bad nx m p := by
 induction hm with
 | refl => exact h
 | step _ ih => exact .inl ih
theorem Mk.tell : ∀ {n : Nat} {p : S}, Mk k bad nx n p → ∃ w, TellF k bad nx p w ∧ w.length ≤ n
 | 0, _, h => h.elim
 | n + 1, p, .inl h => by
  obtain ⟨w, h1, h2⟩ := Mk.tell h
  exact ⟨w, h1, by omega⟩
 | n + 1, p, .inr ⟨i, hi, h⟩ => by
  by_cases hb : bad p i = true
  ·exact ⟨[i], ⟨hi, hb⟩, by simp⟩
  ·rcases h with h | ⟨q, hq, h⟩
   ·exact (hb h).elim
   ·obtain ⟨w, h1, h2⟩ := Mk.tell h
    refine ⟨i :: w, ?_, by simp; omega⟩
    cases w with
    | nil => exact h1.elim
    | cons j w => exact ⟨hi, by simpa using hb, q, hq, h1⟩
end
end Go.Own

namespace Go.Own
set_option linter.unusedVariables false
set_option linter.unusedSimpArgs false
theorem nodup_bound : ∀ (n : Nat) (l : List Nat), l.Nodup → (∀ x ∈ l, x < n) → l.length ≤ n
 | 0, l, _, h => by
  cases l with
  | nil => simp
  | cons x l => have := h x (by simp); omega
 | n + 1, l, hd, h => by
  by_cases hm : n ∈ l
  ·have h1 := List.length_erase_of_mem hm
   have h2 := nodup_bound n (l.erase n) (hd.erase n) fun x hx => by
    have h3 := (hd.mem_erase_iff).1 hx
    have := h x h3.2
    have := h3.1
    omega
   have : 0 < l.length := List.length_pos_of_mem hm
   omega
  ·have := nodup_bound n l hd fun x hx => by
    have := h x hx
    have : x ≠ n := fun e => hm (e ▸ hx)
    omega
   omega
def badP (a b : S_api_Machine) (p : Nat × Nat) (i : Nat) : Bool := (E a p.1 i).Out != (E b p.2 i).Out
def nxP (a b : S_api_Machine) (p : Nat × Nat) (i : Nat) : Option (Nat × Nat) := if 0 ≤ (E a p.1 i).To ∧ 0 ≤ (E b p.2 i).To then some ((E a p.1 i).To.toNat, (E b p.2 i).To.toNat) else none
abbrev LL := List ((Nat × Nat) × List Nat)
def pA (q : Nat × Nat) : Arr2 Int := ⟨q.1, q.2⟩
def nodesA (L : LL) : List (Arr2 Int) := L.map fun x => pA x.1
def ArrOk (l : List S_equals_arrival) (L : LL) : Prop :=
 l.length = L.length ∧ ∀ (j : Nat) (c : (Nat × Nat) × List Nat), L[j]? = some c → ∃ x, l[j]? = some x ∧ x.pair_ = pA c.1 ∧ ((c.2 = [] ∧ x.from_ = -1) ∨ ∃ (f i : Nat) (d : (Nat × Nat) × List Nat), f < j ∧ c.2 = i :: d.2 ∧ x.from_ = f ∧ x.input_ = i ∧ L[f]? = some d)
def SeenOk (seen : List (Arr2 Int × Bool)) (L : LL) : Prop := ∀ q : Arr2 Int, (mget seen q).getD false = true ↔ q ∈ nodesA L
def Nodes (a b : S_api_Machine) (L : LL) : Prop := (L.map (·.1)).Nodup ∧ ∀ x ∈ L, x.1.1 < a.Rows.length ∧ x.1.2 < b.Rows.length
theorem pA_inj {p q : Nat × Nat} (h : pA p = pA q) : p = q := by
 obtain ⟨p1, p2⟩ := p
 obtain ⟨q1, q2⟩ := q
 simp only [pA, Arr2.mk.injEq] at h
 simp only [Prod.mk.injEq]
 omega
theorem mem_nodes {L : LL} {q : Nat × Nat} : pA q ∈ nodesA L ↔ ∃ b ∈ L, b.1 = q := by
 unfold nodesA
 rw [List.mem_map]
 constructor
 ·rintro ⟨x, h1, h2⟩; exact ⟨x, h1, pA_inj h2⟩
 ·rintro ⟨x, h1, h2⟩; exact ⟨x, h1, by rw [h2]⟩
theorem Nodes.length {a b : S_api_Machine} {L : LL} (h : Nodes a b L) (ha : a.Rows.length ≤ 64) (hb : b.Rows.length ≤ 64) : L.length ≤ 4096 := by
 have := nodup_bound 4096 (L.map fun x => x.1.1 * 64 + x.1.2) ?_ ?_
 ·simpa using this
 ·have : (L.map fun x => x.1.1 * 64 + x.1.2) = (L.map (·.1)).map fun q => q.1 * 64 + q.2 := by rw [List.map_map]; rfl
  rw [this]
  refine List.Pairwise.map _ ?_ (List.Pairwise.and_mem.1 h.1)
  rintro p q ⟨hp, hq, hne⟩ e
  apply hne
  obtain ⟨x, hx, rfl⟩ := List.mem_map.1 hp
  obtain ⟨y, hy, rfl⟩ := List.mem_map.1 hq
  have := h.2 x hx
  have := h.2 y hy
  obtain ⟨⟨p1, p2⟩, _⟩ := x
  obtain ⟨⟨q1, q2⟩, _⟩ := y
  simp only at *
  simp only [Prod.mk.injEq]
  omega
 ·intro x hx
  obtain ⟨y, hy, rfl⟩ := List.mem_map.1 hx
  have := h.2 y hy
  omega
theorem word_ret {l : List S_equals_arrival} {L : LL} (h : ArrOk l L) (hl : L.length ≤ 4096) {j : Nat} {c : (Nat × Nat) × List Nat} (hc : L[j]? = some c) (more : List Int) (hm : more.length ≤ 4096) :
  equals_word l (j : Int) more = some (c.2.reverse.map Int.ofNat ++ more) ∧ c.2.length ≤ j := by
 have clip : ∀ s : List Int, slices_Clip_int_int s = some s := by
  intro s
  unfold slices_Clip_int_int
  rw [gdT (by omega)]
  simp
 have lenw : ∀ (j : Nat) (c : (Nat × Nat) × List Nat), L[j]? = some c → c.2.length ≤ j := by
  intro j
  induction j using Nat.strongRecOn with
  | ind j ih =>
   intro c hc
   obtain ⟨x, _, _, h1⟩ := h.2 j c hc
   rcases h1 with ⟨e, _⟩ | ⟨f, i, d, hf, e, _, _, hd⟩
   ·rw [e]; simp
   ·have := ih f hf d hd
    rw [e]; simp; omega
 refine ⟨?_, lenw j c hc⟩
 have main : Ret (loop (fun s => equals_word_L2 l s.1 s.2) ((j : Int), more)) fun r => r = c.2.reverse.map Int.ofNat ++ more := by
  refine ret_loop (fun s => ∃ (n : Nat) (d : (Nat × Nat) × List Nat), s.1 = (n : Int) ∧ L[n]? = some d ∧ d.2.reverse.map Int.ofNat ++ s.2 = c.2.reverse.map Int.ofNat ++ more) (fun s => s.1.toNat) ⟨j, c, rfl, hc, rfl⟩ ?_ ?_
  ·have := (List.getElem?_eq_some_iff.1 hc).1
   simp only [Int.toNat_natCast]
   omega
  ·rintro ⟨s1, s2⟩ ⟨n, d, hn, hd, hs⟩
   simp only at hn hs
   subst hn
   obtain ⟨x, hx, hp, h1⟩ := h.2 n d hd
   unfold equals_word_L2
   simp only [ret_bind, ret_idx, Int.toNat_natCast, hx, ret_bif, ret_gd, ret_some, LRP]
   refine ⟨by omega, x, rfl, ?_, ?_⟩
   ·intro hne
    rcases h1 with ⟨_, e⟩ | ⟨f, i, g, hf, e, hfr, hin, hg⟩
    ·rw [e] at hne; exact absurd hne (by decide)
    ·refine ⟨by omega, x, rfl, ?_, by omega, x, rfl, ⟨f, g, hfr, hg, ?_⟩, by omega⟩
     ·have l1 := lenw n d hd
      have l2 := lenw j c hc
      have l3 := (List.getElem?_eq_some_iff.1 hc).1
      have l4 := congrArg List.length hs
      simp only [List.length_append, List.length_map, List.length_reverse] at l4
      simp only [List.length_cons, List.length_nil]
      omega
     ·rw [hin, ← hs, e]
      simp
   ·intro he
    rcases h1 with ⟨e, _⟩ | ⟨f, i, g, hf, e, hfr, _⟩
    ·rw [e] at hs
     simpa using hs
    ·rw [hfr] at he
     have : ((f : Int) != -1) = true := by simp
     rw [this] at he
     cases he
 unfold equals_word equals_word_J1
 rw [bdT (Ret.eq main), bdT (clip _)]
theorem kk_same {a b : S_api_Machine} (hab : a.Inputs = b.Inputs) : kk a = kk b := by unfold kk; rw [hab]
section
variable {a b : S_api_Machine} (va : VM a) (vb : VM b) (hab : a.Inputs = b.Inputs)
include va vb hab
theorem same_out {p : Nat × Nat} {i : Nat} (h1 : p.1 < a.Rows.length) (h2 : p.2 < b.Rows.length) (hi : i < kk a) (hb : badP a b p i = false) :
  ((E a p.1 i).To = -1 ∧ (E b p.2 i).To = -1 ∧ nxP a b p i = none) ∨ (0 ≤ (E a p.1 i).To ∧ 0 ≤ (E b p.2 i).To ∧ (E a p.1 i).To.toNat < a.Rows.length ∧ (E b p.2 i).To.toNat < b.Rows.length ∧ nxP a b p i = some ((E a p.1 i).To.toNat, (E b p.2 i).To.toNat)) := by
 have hi' : i < kk b := by rw [← kk_same hab]; exact hi
 have e : (E a p.1 i).Out = (E b p.2 i).Out := by simpa [badP] using hb
 rcases va.edgeAt h1 hi with ⟨x1, x2⟩ | ⟨x1, x2, x3, x4⟩ <;> rcases vb.edgeAt h2 hi' with ⟨y1, y2⟩ | ⟨y1, y2, y3, y4⟩
 ·exact .inl ⟨x1, y1, by unfold nxP; rw [if_neg (by omega)]⟩
 ·omega
 ·omega
 ·exact .inr ⟨x1, y1, by omega, by omega, by unfold nxP; rw [if_pos ⟨x1, y1⟩]⟩
end
theorem index_ret (s : List (Arr2 Int)) (v : Arr2 Int) (hl : s.length ≤ 4611686018427387903) : slices_Contains_2_int_2_int s v = some (decide (v ∈ s)) := by
 have hloop : loop (fun q => slices_Index_2_int_2_int_L2 s v q) 0 = some (oS (firstS (fun i x => if v = x then some (i : Int) else none) s 0)) := by
  refine loop_list s (by omega) _ ?_ ?_
  ·intro i x hx
   have hi := (List.getElem?_eq_some_iff.1 hx).1
   unfold slices_Index_2_int_2_int_L2
   have hd : decide ((i : Int) < ((s.length : Nat) : Int)) = true := by simpa using hi
   rw [hd, cond_true, idx_nat, bdT hx]
   obtain ⟨v0, v1⟩ := v
   obtain ⟨x0, x1⟩ := x
   by_cases e : v0 = x0 ∧ v1 = x1
   ·simp [nS, e.1, e.2]
   ·have : (v0 == x0 && (v1 == x1 && true)) = false := by
     simp only [Bool.and_true, Bool.and_eq_false_iff, beq_eq_false_iff_ne]
     omega
    simp only [this, cond_false, nS, Arr2.mk.injEq, e, if_false]
  ·unfold slices_Index_2_int_2_int_L2
   simp
 unfold slices_Contains_2_int_2_int slices_Index_2_int_2_int
 rw [hloop]
 simp only [Option.bind_some]
 cases hf : firstS (fun i x => if v = x then some (i : Int) else none) s 0 with
 | some q =>
  obtain ⟨i, x, h1, h2⟩ := firstS_some hf
  split at h2
  ·rename_i e
   subst e
   simp only [Option.some.injEq] at h2
   have : v ∈ s := List.mem_of_getElem? h1
   simp only [oS, Option.bind_some, decide_eq_true this]
   rw [decide_eq_true (by omega)]
  ·cases h2
 | none =>
  have : ¬ v ∈ s := by
   intro hx
   obtain ⟨i, hi⟩ := List.getElem?_of_mem hx
   have := firstS_isNone hf i v hi
   simp at this
  simp only [oS, slices_Index_2_int_2_int_J1, Option.bind_some, decide_eq_false this]
  rfl
theorem arr_snoc {l : List S_equals_arrival} {L : LL} (h : ArrOk l L) {f i : Nat} {d : (Nat × Nat) × List Nat} (hd : L[f]? = some d) (q : Nat × Nat) : ArrOk (l ++ [⟨pA q, (f : Int), (i : Int)⟩]) (L ++ [(q, i :: d.2)]) := by
 have hf := (List.getElem?_eq_some_iff.1 hd).1
 refine ⟨by simp [h.1], fun j c hc => ?_⟩
 rcases Nat.lt_or_ge j L.length with g | g
 ·rw [List.getElem?_append_left g] at hc
  obtain ⟨x, h1, h2, h3⟩ := h.2 j c hc
  refine ⟨x, by rw [List.getElem?_append_left (by rw [h.1]; exact g)]; exact h1, h2, ?_⟩
  rcases h3 with h3 | ⟨f', i', d', h3, h4, h5, h6, h7⟩
  ·exact .inl h3
  ·exact .inr ⟨f', i', d', h3, h4, h5, h6, by rw [List.getElem?_append_left (by omega)]; exact h7⟩
 ·have hj : j = L.length := by
   have := (List.getElem?_eq_some_iff.1 hc).1
   simp at this
   omega
  subst hj
  simp only [List.getElem?_append_right (Nat.le_refl _), Nat.sub_self, List.getElem?_cons_zero, Option.some.injEq] at hc
  subst hc
  refine ⟨⟨pA q, f, i⟩, ?_, rfl, .inr ⟨f, i, d, hf, rfl, rfl, rfl, by rw [List.getElem?_append_left hf]; exact hd⟩⟩
  have h0 := h.1
  rw [List.getElem?_append_right (by omega), h0]
  simp
theorem seen_set {seen : List (Arr2 Int × Bool)} {L : LL} (h : SeenOk seen L) (q : Nat × Nat) (u : List Nat) : SeenOk (mset seen (pA q) true) (L ++ [(q, u)]) := by
 intro r
 rw [mget_set]
 unfold nodesA
 rw [List.map_append, List.mem_append]
 by_cases e : pA q = r
 ·subst e
  simp
 ·have : (pA q == r) = false := by simpa using e
  rw [this]
  simp only [Bool.false_eq_true, if_false]
  rw [h r]
  constructor
  ·exact .inl
  ·rintro (g | g)
   ·exact g
   ·simp at g; exact (e g.symm).elim
theorem nodes_snoc {a b : S_api_Machine} {L : LL} (h : Nodes a b L) {q : Nat × Nat} (u : List Nat) (hq : ¬ ∃ b ∈ L, b.1 = q) (h1 : q.1 < a.Rows.length) (h2 : q.2 < b.Rows.length) : Nodes a b (L ++ [(q, u)]) := by
 refine ⟨?_, fun x hx => ?_⟩
 ·rw [List.map_append, List.nodup_append]
  refine ⟨h.1, by simp, fun x hx y hy e => ?_⟩
  simp at hy
  subst hy
  subst e
  obtain ⟨z, g1, g2⟩ := List.mem_map.1 hx
  exact hq ⟨z, g1, g2⟩
 ·rcases List.mem_append.1 hx with g | g
  ·exact h.2 x g
  ·simp at g
   subst g
   exact ⟨h1, h2⟩
def DiffR (a b : S_api_Machine) (r : List Int × List (Arr2 Int)) : Prop :=
 (∃ u, TellR (kk a) (badP a b) (nxP a b) (0, 0) u ∧ (∀ w, TellR (kk a) (badP a b) (nxP a b) (0, 0) w → rv (kk a) u ≤ rv (kk a) w) ∧ u.length ≤ 4096 ∧ r = (u.reverse.map Int.ofNat, [])) ∨
 (∃ L : LL, Bfs (kk a) (badP a b) (nxP a b) (0, 0) L L.length 0 ∧ Nodes a b L ∧ r = ([], nodesA L))
section
variable {a b : S_api_Machine} (va : VM a) (vb : VM b) (hab : a.Inputs = b.Inputs)
include va vb hab
theorem differ_ret : Ret (equals_differ a b) (DiffR a b) := by
 have hka : ((kk a : Nat) : Int) = a.Inputs := va.kk_eq
 have la := va.len64
 have lb := vb.len64
 have k16 := va.kk_le
 let Inv (L : LL) (at_ i : Nat) (s : LR (List Int × List (Arr2 Int)) (List Int × List (Arr2 Int))) (seen : List (Arr2 Int × Bool)) (l : List S_equals_arrival) : Prop :=
  Bfs (kk a) (badP a b) (nxP a b) (0, 0) L at_ i ∧ ArrOk l L ∧ SeenOk seen L ∧ Nodes a b L ∧ s = .next ([], nodesA L)
 let Fnd (s : LR (List Int × List (Arr2 Int)) (List Int × List (Arr2 Int))) : Prop := ∃ u p, TellR (kk a) (badP a b) (nxP a b) (0, 0) u ∧ (∀ w, TellR (kk a) (badP a b) (nxP a b) (0, 0) w → rv (kk a) u ≤ rv (kk a) w) ∧ u.length ≤ 4096 ∧ s = .done (u.reverse.map Int.ofNat, p)
 have inner : ∀ (L : LL) (at_ : Nat) (sg : LR (List Int × List (Arr2 Int)) (List Int × List (Arr2 Int))) (seen : List (Arr2 Int × Bool)) (l : List S_equals_arrival) (x : S_equals_arrival), at_ < L.length → l[at_]? = some x → Inv L at_ 0 sg seen l →
   Ret (loop (fun s => equals_meets_1_L3 a b (yOf (fun s x => equals_differ_I2 s.1 s.2 x.1 x.2)) (at_ : Int) x x s.1 s.2.1 s.2.2.1 s.2.2.2) (sg, seen, l, 0)) (fun r => match r with
    | .inl (sg', seen', l') => ∃ L', L.length ≤ L'.length ∧ Inv L' at_ (kk a) sg' seen' l'
    | .inr sg' => Fnd sg') := by
  intro L at_ sg seen l x hat hx hI
  refine ret_loop (fun s => ∃ (L' : LL) (i : Nat), s.2.2.2 = (i : Int) ∧ i ≤ kk a ∧ L.length ≤ L'.length ∧ s.2.2.1[at_]? = some x ∧ Inv L' at_ i s.1 s.2.1 s.2.2.1) (fun s => kk a - s.2.2.2.toNat) ⟨L, 0, rfl, Nat.zero_le _, Nat.le_refl _, hx, hI⟩ (by omega) ?_
  rintro ⟨sg, seen, l, i'⟩ ⟨L', i, hi', hik, hLL, hx, hB, hA, hS, hN, hsg⟩
  simp only at hi' hA hS hx
  subst hi'
  subst hsg
  have hat' : at_ < L'.length := by omega
  obtain ⟨c, hc⟩ : ∃ c, L'[at_]? = some c := ⟨_, List.getElem?_eq_getElem hat'⟩
  obtain ⟨x', hx', hpair, hw⟩ := hA.2 at_ c hc
  rw [hx] at hx'
  cases hx'
  have hcn := hN.2 c (List.mem_of_getElem? hc)
  have hL4 := hN.length la lb
  unfold equals_meets_1_L3
  rw [ret_bif]
  refine ⟨fun hlt => ?_, fun hge => ?_⟩
  ·have hi : i < kk a := by rw [← hka] at hlt; simpa using hlt
   have hib : i < kk b := by rw [← kk_same hab]; exact hi
   have e0 : x.pair_.e0 = (c.1.1 : Int) := by rw [hpair]; rfl
   have e1 : x.pair_.e1 = (c.1.2 : Int) := by rw [hpair]; rfl
   rw [e0, e1]
   rw [va.edge_eq hcn.1 hi, vb.edge_eq hcn.2 hib]
   simp only [yOf, equals_differ_I2]
   by_cases hbad : badP a b c.1 i = true
   ·have hne : ((E a c.1.1 i).Out != (E b c.1.2 i).Out) = true := hbad
    obtain ⟨hwd, hwl⟩ := word_ret hA hL4 hc [(i : Int)] (by simp)
    simp only [hne, cond_true, hwd, Option.bind_some, cond_false, ret_some, LRP]
    refine ⟨i :: c.2, nodesA L', ⟨c.1, hB.path c (List.mem_of_getElem? hc), hi, hbad⟩, fun w hw => ?_, by simp; omega, by simp⟩
    rcases Nat.lt_or_ge (rv (kk a) w) (rv (kk a) (i :: c.2)) with g | g
    ·exact (hB.least hw fun c' hc' => by rw [hc] at hc'; cases hc'; simpa [rv] using g).elim
    ·exact g
   ·have hbad' : badP a b c.1 i = false := by simpa using hbad
    have hne : ((E a c.1.1 i).Out != (E b c.1.2 i).Out) = false := hbad'
    have hw1 : w64 ((i : Int) + 1) = ((i + 1 : Nat) : Int) := by rw [w64_in (by omega) (by omega)]; rfl
    rcases same_out va vb hab hcn.1 hcn.2 hi hbad' with ⟨t1, t2, t3⟩ | ⟨t1, t2, t3, t4, t5⟩
    ·simp only [hne, cond_false, t1, bne_self_eq_false, Option.bind_some, cond_true, equals_meets_1_J4, hw1, ret_some, LRP]
     exact ⟨⟨L', i + 1, rfl, hi, hLL, hx, hB.old hc hi hbad' (by rw [t3]; intro q hq; cases hq), hA, hS, hN, rfl⟩, by omega⟩
    ·have u1 : ((E a c.1.1 i).To != -1) = true := by simp; omega
     have u2 : ((E b c.1.2 i).To != -1) = true := by simp; omega
     have hq : (Arr2.mk (E a c.1.1 i).To (E b c.1.2 i).To) = pA ((E a c.1.1 i).To.toNat, (E b c.1.2 i).To.toNat) := by
      simp only [pA, Arr2.mk.injEq]; omega
     have hq' : (Arr2.mk (E b c.1.1 i).To (E b c.1.2 i).To) = (Arr2.mk (E b c.1.1 i).To (E b c.1.2 i).To) := rfl
     generalize hqn : ((E a c.1.1 i).To.toNat, (E b c.1.2 i).To.toNat) = q at hq t5
     have hq1 : q.1 < a.Rows.length := by rw [← hqn]; exact t3
     have hq2 : q.2 < b.Rows.length := by rw [← hqn]; exact t4
     have hlen : (nodesA L').length = L'.length := by simp [nodesA]
     simp only [hne, cond_false, u1, u2, cond_true, hq, index_ret _ _ (show (nodesA L').length ≤ 4611686018427387903 by omega), Option.bind_some]
     by_cases hmem : pA q ∈ nodesA L'
     ·have hs : (mget seen (pA q)).getD false = true := (hS (pA q)).2 hmem
      simp only [decide_eq_true hmem, Bool.not_true, cond_false, Option.bind_some, cond_true, hs, equals_meets_1_J4, hw1, ret_some, LRP]
      exact ⟨⟨L', i + 1, rfl, hi, hLL, hx, hB.old hc hi hbad' (by rw [t5]; intro q' e; cases e; exact mem_nodes.1 hmem), hA, hS, hN, rfl⟩, by omega⟩
     ·have hs : (mget seen (pA q)).getD false = false := by
       cases hv : (mget seen (pA q)).getD false with
       | true => exact (hmem ((hS (pA q)).1 hv)).elim
       | false => rfl
      have hnew : ¬ ∃ b ∈ L', b.1 = q := fun e => hmem (mem_nodes.2 e)
      have hln : l.length = L'.length := hA.1
      have hg1 : (nodesA L').length + ([pA q] : List (Arr2 Int)).length ≤ 4294967296 := by rw [hlen]; simp; omega
      have hg2 : l.length + ([(S_equals_arrival.mk (pA q) (at_ : Int) (i : Int))] : List S_equals_arrival).length ≤ 4294967296 := by rw [hln]; simp; omega
      simp only [decide_eq_false hmem, Bool.not_false, cond_true, gdT hg1, Option.bind_some, hs, gdT hg2, equals_meets_1_J4, hw1, ret_some, LRP]
      refine ⟨⟨L' ++ [(q, i :: c.2)], i + 1, rfl, hi, by simp; omega, ?_, hB.new hc hi hbad' t5, arr_snoc hA hc q, seen_set hS q _, nodes_snoc hN _ hnew hq1 hq2, ?_⟩, by omega⟩
      ·rw [List.getElem?_append_left (by omega)]; exact hx
      ·simp [nodesA]
  ·have hik' : i = kk a := by
    rw [← hka] at hge
    simp at hge
    omega
   subst hik'
   simp only [ret_some, LRP]
   exact ⟨L', hLL, hB, hA, hS, hN, rfl⟩
 have outer : Ret (loop (fun s => equals_meets_1_L1 a b (yOf (fun s x => equals_differ_I2 s.1 s.2 x.1 x.2)) s.1 s.2.1 s.2.2.1 s.2.2.2) ((.next ([], [Arr2.mk 0 0]) : LR (List Int × List (Arr2 Int)) (List Int × List (Arr2 Int))), (mset ([] : List (Arr2 Int × Bool)) (Arr2.mk 0 0) true), ([(S_equals_arrival.mk (Arr2.mk 0 0) (-1) 0)] : List S_equals_arrival), 0))
   (fun s => Fnd s ∨ ∃ L : LL, Bfs (kk a) (badP a b) (nxP a b) (0, 0) L L.length 0 ∧ Nodes a b L ∧ s = .next ([], nodesA L)) := by
  refine ret_loop (fun s => ∃ (L : LL) (j : Nat), s.2.2.2 = (j : Int) ∧ j ≤ L.length ∧ Inv L j 0 s.1 s.2.1 s.2.2.1) (fun s => 4097 - s.2.2.2.toNat) ⟨[((0, 0), [])], 0, rfl, Nat.zero_le _, Bfs.start, ?_, ?_, ?_, rfl⟩ (by simp) ?_
  ·refine ⟨rfl, fun j c hc => ?_⟩
   cases j with
   | zero => simp at hc; subst hc; exact ⟨_, rfl, rfl, .inl ⟨rfl, rfl⟩⟩
   | succ j => simp at hc
  ·intro q
   simp only [mset, mget, nodesA, List.map_cons, List.map_nil, List.mem_cons, List.not_mem_nil, or_false]
   by_cases e : (Arr2.mk 0 0 : Arr2 Int) = q
   ·subst e; simp [pA]
   ·have : ((Arr2.mk 0 0 : Arr2 Int) == q) = false := by simpa using e
    rw [this]
    simp only [Bool.false_eq_true, if_false, Option.getD_none, false_iff]
    intro g
    exact e g.symm
  ·refine ⟨by simp, fun x hx => ?_⟩
   simp at hx
   subst hx
   exact ⟨va.len1, vb.len1⟩
  ·rintro ⟨sg, seen, l, j'⟩ ⟨L, j, hj, hjl, hI⟩
   simp only at hj
   subst hj
   obtain ⟨hB, hA, hS, hN, hsg⟩ := hI
   simp only at hA hS hsg
   have hL4 := hN.length la lb
   unfold equals_meets_1_L1
   rw [ret_bif]
   refine ⟨fun hlt => ?_, fun hge => ?_⟩
   ·have hlt' : j < L.length := by simp [hA.1] at hlt; exact hlt
    obtain ⟨x, hx, _⟩ := hA.2 j _ (List.getElem?_eq_getElem hlt')
    rw [idx_nat, bdT hx, bdT hx, ret_bind]
    refine (inner L j sg seen l x hlt' hx ⟨hB, hA, hS, hN, hsg⟩).mono ?_
    rintro (⟨sg', seen', l'⟩ | sg') h
    ·obtain ⟨L', hl, hB', hA', hS', hN', hsg'⟩ := h
     have hL4' := hN'.length la lb
     have hw1 : w64 ((j : Int) + 1) = ((j + 1 : Nat) : Int) := by rw [w64_in (by omega) (by omega)]; rfl
     simp only [equals_meets_1_J2, hw1, ret_some, LRP]
     exact ⟨⟨L', j + 1, rfl, by omega, hB'.step (by omega), hA', hS', hN', hsg'⟩, by omega⟩
    ·simp only [ret_some, LRP]
     exact .inl h
   ·have : j = L.length := by
     simp [hA.1] at hge
     omega
    subst this
    simp only [ret_some, LRP]
    exact .inr ⟨L, hB, hN, hsg⟩
 unfold equals_differ equals_meets equals_meets_1
 simp only [Option.bind_some]
 obtain ⟨t, e, h⟩ := outer
 rw [e]
 simp only [Option.bind_some]
 rcases h with ⟨u, p, h1, h2, h3, rfl⟩ | ⟨L, h1, h2, rfl⟩
 ·simp only [ret_some]
  exact .inl ⟨u, h1, h2, h3, rfl⟩
 ·simp only [equals_differ_J1, ret_some]
  exact .inr ⟨L, h1, h2, rfl⟩
end
end Go.Own

namespace Go.Own
set_option linter.unusedVariables false
set_option linter.unusedSimpArgs false
theorem one_mod {a k : Int} (h0 : 0 ≤ a) (hk : 1 ≤ k) (hk2 : k ≤ 1000000) : 1 ≤ w64 (1 + w64 (Int.tmod a k)) ∧ w64 (1 + w64 (Int.tmod a k)) ≤ k := by
 have h1 := Int.tmod_nonneg k h0
 have h2 := Int.tmod_lt_of_pos a (show 0 < k by omega)
 rw [w64_in (x := Int.tmod a k) (by omega) (by omega), w64_in (by omega) (by omega)]
 omega
structure MOk (x : S_law04_M) : Prop where
 s0 : 0 ≤ x.States
 i0 : 0 ≤ x.Inputs
 o0 : 0 ≤ x.Outputs
 e0 : ∀ v ∈ x.Edges, 0 ≤ v ∧ v ≤ 65535
theorem v_ret {x : S_law04_M} {n o : Int} (hn : n = w64 (1 + w64 (Int.tmod x.States 6))) (ho : o = w64 (1 + w64 (Int.tmod x.Outputs 3))) (n1 : 1 ≤ n) (n2 : n ≤ 6) (o1 : 1 ≤ o) (o2 : o ≤ 3) (row : List S_api_Edge) (i v : Int) (hl : row.length ≤ 1000) (v0 : 0 ≤ v) (v1 : v ≤ 65535) :
  ∃ e : S_api_Edge, law04_M_Of_J7 x row i v = some (.next (row ++ [e], w64 (i + 1))) ∧ ((e.To = -1 ∧ e.Out = -1) ∨ (0 ≤ e.To ∧ e.To < n ∧ 0 ≤ e.Out ∧ e.Out < o)) := by
 have hv4 : Int.tdiv v 4 = v / 4 := Int.tdiv_eq_ediv_of_nonneg v0
 have w4 : w64 (Int.tdiv v 4) = v / 4 := by rw [hv4]; exact w64_in (by omega) (by omega)
 have d0 : 0 ≤ v / 4 := by omega
 have hd : Int.tdiv (v / 4) n = v / 4 / n := Int.tdiv_eq_ediv_of_nonneg d0
 have d1 : 0 ≤ v / 4 / n := Int.ediv_nonneg d0 (by omega)
 have d2 : v / 4 / n ≤ v / 4 := Int.ediv_le_self _ d0
 have w5 : w64 (Int.tdiv (v / 4) n) = v / 4 / n := by rw [hd]; exact w64_in (by omega) (by omega)
 have fit : (0 : Int) ≤ Int.tmod (v / 4) n ∧ Int.tmod (v / 4) n < n ∧ 0 ≤ Int.tmod (v / 4 / n) o ∧ Int.tmod (v / 4 / n) o < o :=
  ⟨Int.tmod_nonneg _ d0, Int.tmod_lt_of_pos _ (by omega), Int.tmod_nonneg _ d1, Int.tmod_lt_of_pos _ (by omega)⟩
 unfold law04_M_Of_J7
 rw [← hn, ← ho, w4, w5]
 have g4 : (4 : Int) ≠ 0 := by decide
 have gn : (n : Int) ≠ 0 := by omega
 have go : (o : Int) ≠ 0 := by omega
 have gl : ∀ e : S_api_Edge, row.length + ([e] : List S_api_Edge).length ≤ 4294967296 := fun e => by simp; omega
 simp only [gdT g4, gdT gn, gdT go, gdT (gl _)]
 cases x.Partial
 ·exact ⟨_, rfl, .inr fit⟩
 ·cases hc : (Int.tmod v 4 == 3)
  ·exact ⟨_, rfl, .inr fit⟩
  ·exact ⟨_, rfl, .inl ⟨rfl, rfl⟩⟩
theorem of_ret {x : S_law04_M} (h : MOk x) : Ret (law04_M_Of x) fun m => VM m ∧ m.Inputs = w64 (1 + w64 (Int.tmod x.Inputs 3)) ∧ m.Inputs ≤ 3 ∧ m.Outputs ≤ 3 ∧ m.Rows.length ≤ 6 := by
 have hn' := one_mod h.s0 (k := 6) (by omega) (by omega)
 have hi' := one_mod h.i0 (k := 3) (by omega) (by omega)
 have ho' := one_mod h.o0 (k := 3) (by omega) (by omega)
 obtain ⟨n, hn⟩ : ∃ n, n = w64 (1 + w64 (Int.tmod x.States 6)) := ⟨_, rfl⟩
 obtain ⟨k, hk⟩ : ∃ n, n = w64 (1 + w64 (Int.tmod x.Inputs 3)) := ⟨_, rfl⟩
 obtain ⟨o, ho⟩ : ∃ n, n = w64 (1 + w64 (Int.tmod x.Outputs 3)) := ⟨_, rfl⟩
 rw [← hn] at hn'
 rw [← hk] at hi'
 rw [← ho] at ho'
 have inner : ∀ s : Int, 0 ≤ s → s < n → Ret (loop (fun st => law04_M_Of_L5 x s st.1 st.2) (([] : List S_api_Edge), 0)) (fun r => (r.length : Int) = k ∧ ∀ e ∈ r, (e.To = -1 ∧ e.Out = -1) ∨ (0 ≤ e.To ∧ e.To < n ∧ 0 ≤ e.Out ∧ e.Out < o)) := by
  intro s s0 s1
  refine ret_loop (fun st => (st.1.length : Int) = st.2 ∧ st.2 ≤ k ∧ ∀ e ∈ st.1, (e.To = -1 ∧ e.Out = -1) ∨ (0 ≤ e.To ∧ e.To < n ∧ 0 ≤ e.Out ∧ e.Out < o)) (fun st => 10 - st.2.toNat) ⟨by simp, by omega, by simp⟩ (by simp) ?_
  rintro ⟨row, i⟩ ⟨h1, h2, h3⟩
  simp only at h1 h2 h3
  unfold law04_M_Of_L5
  rw [← hk, ret_bif]
  have hsk : s * k ≤ 5 * k := Int.mul_le_mul_of_nonneg_right (by omega) (by omega)
  have hsk0 : 0 ≤ s * k := Int.mul_nonneg s0 (by omega)
  have w1 : w64 (s * k) = s * k := w64_in (by omega) (by omega)
  have w2 : w64 (s * k + i) = s * k + i := w64_in (by omega) (by omega)
  rw [w1, w2]
  refine ⟨fun hlt => ?_, fun hge => ?_⟩
  ·have hlt : i < k := of_decide_eq_true hlt
   have hw : w64 (i + 1) = i + 1 := w64_in (by omega) (by omega)
   have fin : ∀ v : Int, 0 ≤ v → v ≤ 65535 → Ret (law04_M_Of_J7 x row i v) (LRP (fun s' => (((s'.1.length : Nat) : Int) = s'.2 ∧ s'.2 ≤ k ∧ ∀ e ∈ s'.1, (e.To = -1 ∧ e.Out = -1) ∨ (0 ≤ e.To ∧ e.To < n ∧ 0 ≤ e.Out ∧ e.Out < o)) ∧ 10 - s'.2.toNat < 10 - i.toNat) (fun r => (r.length : Int) = k ∧ ∀ e ∈ r, (e.To = -1 ∧ e.Out = -1) ∨ (0 ≤ e.To ∧ e.To < n ∧ 0 ≤ e.Out ∧ e.Out < o))) := by
    intro v v0 v1
    obtain ⟨e, g1, g2⟩ := v_ret hn ho hn'.1 hn'.2 ho'.1 ho'.2 row i v (by omega) v0 v1
    rw [g1, hw, ret_some]
    refine ⟨⟨by simp; omega, by simp only; omega, fun e' he => ?_⟩, by simp only; omega⟩
    rcases List.mem_append.1 he with q | q
    ·exact h3 e' q
    ·simp only [List.mem_cons, List.not_mem_nil, or_false] at q; subst q; exact g2
   rw [ret_bif]
   refine ⟨fun hc => ?_, fun _ => fin 0 (by omega) (by omega)⟩
   have hc : s * k + i < ((x.Edges.length : Nat) : Int) := of_decide_eq_true hc
   rw [ret_bind, ret_idx]
   have hlt' : (s * k + i).toNat < x.Edges.length := by omega
   refine ⟨by omega, _, List.getElem?_eq_getElem hlt', ?_⟩
   have := h.e0 _ (List.getElem_mem hlt')
   rw [w64_in (by omega) (by omega)]
   exact fin _ this.1 this.2
  ·have hge : ¬ i < k := of_decide_eq_false hge
   rw [ret_some]
   exact ⟨by simp only; omega, h3⟩
 unfold law04_M_Of
 simp only [ret_gd, ret_bind]
 refine ⟨by decide, by decide, by decide, ?_⟩
 refine (ret_loop (R := fun r => (r.length : Int) = n ∧ ∀ r' ∈ r, (r'.length : Int) = k ∧ ∀ e ∈ r', (e.To = -1 ∧ e.Out = -1) ∨ (0 ≤ e.To ∧ e.To < n ∧ 0 ≤ e.Out ∧ e.Out < o)) (fun st => (st.1.length : Int) = st.2 ∧ st.2 ≤ n ∧ ∀ r' ∈ st.1, (r'.length : Int) = k ∧ ∀ e ∈ r', (e.To = -1 ∧ e.Out = -1) ∨ (0 ≤ e.To ∧ e.To < n ∧ 0 ≤ e.Out ∧ e.Out < o)) (fun st => 10 - st.2.toNat) ⟨by simp, by omega, by simp⟩ (by simp) ?_).mono ?_
 ·rintro ⟨rows, s⟩ ⟨h1, h2, h3⟩
  simp only at h1 h2 h3
  unfold law04_M_Of_L2
  rw [← hn, ret_bif]
  refine ⟨fun hlt => ?_, fun hge => ?_⟩
  ·have hlt : s < n := of_decide_eq_true hlt
   rw [ret_bind]
   refine (inner s (by omega) hlt).mono fun row hrow => ?_
   unfold law04_M_Of_J4 law04_M_Of_J3
   rw [ret_gd, ret_some, w64_in (by omega) (by omega)]
   refine ⟨by simp; omega, ⟨by simp; omega, by simp only; omega, fun r' hr => ?_⟩, by simp only; omega⟩
   rcases List.mem_append.1 hr with q | q
   ·exact h3 r' q
   ·simp only [List.mem_cons, List.not_mem_nil, or_false] at q; subst q; exact hrow
  ·have hge : ¬ s < n := of_decide_eq_false hge
   rw [ret_some]
   exact ⟨by simp only; omega, h3⟩
 ·rintro rows ⟨h1, h2⟩
  unfold law04_M_Of_J1
  rw [ret_some, ← hk, ← ho]
  refine ⟨⟨hi'.1, by simp only; omega, ho'.1, by simp only; omega, by simp only; omega, by simp only; omega, fun r hr => (h2 r hr).1, fun r hr e he => ?_⟩, rfl, hi'.2, ho'.2, by simp only; omega⟩
  simp only [h1]
  exact (h2 r hr).2 e he
def bothS (a b : S_api_Machine) : Int := if chk a ≠ 0 then chk a else if chk b ≠ 0 then chk b else if a.Inputs ≠ b.Inputs then 5 else 0
theorem or_eq (x y : Int) : cmp_Or_api_Errno [x, y] = some (if x ≠ 0 then x else y) := by
 have hl : loop (fun s => cmp_Or_api_Errno_L2 [x, y] s) 0 = some (oS (firstS (fun _ v => if v ≠ 0 then some v else none) [x, y] 0)) := by
  refine loop_list [x, y] (by simp) _ ?_ ?_
  ·intro i v hv
   have hi := (List.getElem?_eq_some_iff.1 hv).1
   unfold cmp_Or_api_Errno_L2
   have hd : decide ((i : Int) < (([x, y].length : Nat) : Int)) = true := by simp at hi ⊢; omega
   rw [hd, cond_true, idx_nat, bdT hv]
   by_cases h : v = 0
   ·simp [nS, h]
   ·simp [nS, h, Bool.cond_eq_ite]
  ·rfl
 unfold cmp_Or_api_Errno
 rw [bdT hl]
 by_cases h : x = 0
 ·by_cases q : y = 0
  ·simp [firstS, oS, h, q, cmp_Or_api_Errno_J1]
  ·simp [firstS, oS, h, q]
 ·simp [firstS, oS, h]
theorem both_eq (a b : S_api_Machine) : equals_both a b = some (bothS a b) := by
 unfold equals_both equals_both_J1 bothS
 rw [bdT (check_eq a), bdT (check_eq b), bdT (or_eq _ _)]
 by_cases h : chk a = 0
 ·by_cases q : chk b = 0
  ·by_cases r : a.Inputs = b.Inputs
   ·simp [h, q, r]
   ·simp [h, q, r, Bool.cond_eq_ite]
  ·simp [h, q, Bool.cond_eq_ite]
 ·simp [h, Bool.cond_eq_ite]
theorem both_ok {a b : S_api_Machine} (h : bothS a b = 0) : VM a ∧ VM b ∧ a.Inputs = b.Inputs := by
 unfold bothS at h
 split at h
 ·rename_i q; exact (q h).elim
 split at h
 ·rename_i q; exact (q h).elim
 split at h
 ·cases h
 ·rename_i h1 h2 h3
  exact ⟨vm_of (by simpa using h1), vm_of (by simpa using h2), by simpa using h3⟩
theorem both_of {a b : S_api_Machine} (ha : VM a) (hb : VM b) (h : a.Inputs = b.Inputs) : bothS a b = 0 := by
 unfold bothS
 simp [chk_of ha, chk_of hb, h]
def DiffS (a b : S_api_Machine) (w : List Int) (is : Bool) : Prop :=
 (∃ u, TellR (kk a) (badP a b) (nxP a b) (0, 0) u ∧ (∀ w, TellR (kk a) (badP a b) (nxP a b) (0, 0) w → rv (kk a) u ≤ rv (kk a) w) ∧ w = u.reverse.map Int.ofNat ∧ is = true) ∨
 ((∀ u, ¬ TellR (kk a) (badP a b) (nxP a b) (0, 0) u) ∧ w = [] ∧ is = false)
theorem bfs_none {a b : S_api_Machine} {L : LL} (h : Bfs (kk a) (badP a b) (nxP a b) (0, 0) L L.length 0) (u : List Nat) : ¬ TellR (kk a) (badP a b) (nxP a b) (0, 0) u := fun hu =>
 h.least hu fun c hc => by have := (List.getElem?_eq_some_iff.1 hc).1; omega
theorem Differ_ret {a b : S_api_Machine} (h : bothS a b = 0) : Ret (equals_Differ a b) fun r => r.2.2 = 0 ∧ DiffS a b r.1 r.2.1 := by
 obtain ⟨va, vb, hab⟩ := both_ok h
 unfold equals_Differ
 rw [bdT (both_eq a b), h]
 simp only [bne_self_eq_false, cond_false, ret_bind]
 refine (differ_ret va vb hab).mono fun r hr => ?_
 rw [ret_some]
 refine ⟨rfl, ?_⟩
 rcases hr with ⟨u, h1, h2, h3, rfl⟩ | ⟨L, h1, h2, rfl⟩
 ·refine .inl ⟨u, h1, h2, rfl, ?_⟩
  cases u with
  | nil => exact h1.elim
  | cons x u => simp
 ·exact .inr ⟨bfs_none h1, rfl, rfl⟩
end Go.Own

namespace Go.Own
set_option linter.unusedVariables false
set_option linter.unusedSimpArgs false
structure DOk (x : S_law10_D) : Prop where
 m : MOk x.M
 x2 : MOk x.X
 s0 : 0 ≤ x.Swap.e0 ∧ x.Swap.e0 ≤ 255
 s1 : 0 ≤ x.Swap.e1 ∧ x.Swap.e1 ≤ 255
 p0 : 0 ≤ x.Place.e0 ∧ x.Place.e0 ≤ 255
 p1 : 0 ≤ x.Place.e1 ∧ x.Place.e1 ≤ 255
theorem copy_eq (m : S_api_Machine) (h : m.Rows.length ≤ 100) (h2 : ∀ r ∈ m.Rows, r.length ≤ 1000) : ref04_Copy m = some m := by
 have hl : loop (fun s => ref04_Copy_L2 m s.1 s.2) (([] : List (List S_api_Edge)), 0) = some m.Rows := by
  refine Ret.eq (ret_loop (fun s => ∃ i : Nat, s.2 = (i : Int) ∧ i ≤ m.Rows.length ∧ s.1 = m.Rows.take i) (fun s => 200 - s.2.toNat) ⟨0, rfl, Nat.zero_le _, rfl⟩ (by simp) ?_)
  rintro ⟨out, i'⟩ ⟨i, hi, hil, ho⟩
  simp only at hi ho
  subst hi ho
  unfold ref04_Copy_L2
  rw [ret_bif]
  refine ⟨fun hlt => ?_, fun hge => ?_⟩
  ·have hlt : i < m.Rows.length := by simpa using hlt
   have hx : m.Rows[i]? = some m.Rows[i] := List.getElem?_eq_getElem hlt
   have := h2 _ (List.getElem_mem hlt)
   have hw : w64 ((i : Int) + 1) = ((i + 1 : Nat) : Int) := by rw [w64_in (by omega) (by omega)]; rfl
   rw [idx_nat, bdT hx, gdT (by simp; omega), gdT (by simp; omega), ret_some, hw]
   exact ⟨⟨i + 1, rfl, hlt, by rw [List.take_add_one, hx]; rfl⟩, by simp only; omega⟩
  ·have : i = m.Rows.length := by simp at hge; omega
   subst this
   rw [ret_some, List.take_length]
   rfl
 unfold ref04_Copy ref04_Copy_J1
 rw [bdT hl]
def RowsOk (n k o : Int) (rows : List (List S_api_Edge)) : Prop := (rows.length : Int) = n ∧ ∀ r ∈ rows, (r.length : Int) = k ∧ ∀ e ∈ r, (e.To = -1 ∧ e.Out = -1) ∨ (0 ≤ e.To ∧ e.To < n ∧ 0 ≤ e.Out ∧ e.Out < o)
theorem rows_of {m : S_api_Machine} (h : VM m) : RowsOk m.Rows.length m.Inputs m.Outputs m.Rows := ⟨rfl, fun r hr => ⟨h.row r hr, fun e he => h.edge r hr e he⟩⟩
theorem RowsOk.set {n k o : Int} {rows : List (List S_api_Edge)} (h : RowsOk n k o rows) {s i : Nat} {r : List S_api_Edge} (hr : rows[s]? = some r) {e : S_api_Edge} (he : (e.To = -1 ∧ e.Out = -1) ∨ (0 ≤ e.To ∧ e.To < n ∧ 0 ≤ e.Out ∧ e.Out < o)) : RowsOk n k o (rows.set s (r.set i e)) := by
 refine ⟨by simpa using h.1, fun r' hr' => ?_⟩
 rcases List.mem_or_eq_of_mem_set hr' with g | g
 ·exact h.2 r' g
 ·subst g
  have := h.2 r (List.mem_of_getElem? hr)
  refine ⟨by simpa using this.1, fun e' he' => ?_⟩
  rcases List.mem_or_eq_of_mem_set he' with g | g
  ·exact this.2 e' g
  ·subst g; exact he
theorem vm_rows {m : S_api_Machine} (h : VM m) {rows : List (List S_api_Edge)} (hr : RowsOk m.Rows.length m.Inputs m.Outputs rows) : VM ⟨m.Inputs, m.Outputs, rows⟩ := by
 have e : rows.length = m.Rows.length := by have := hr.1; omega
 refine ⟨h.in1, h.in16, h.out1, h.out16, by rw [e]; exact h.len1, by rw [e]; exact h.len64, fun r q => (hr.2 r q).1, fun r q x hx => ?_⟩
 have := (hr.2 r q).2 x hx
 simp only [e]
 exact this
theorem d_of {x : S_law10_D} (h : DOk x) : Ret (law10_D_Of x) fun r => VM r.1 ∧ VM r.2 ∧ r.1.Inputs = r.2.Inputs ∧ r.1.Rows.length ≤ 6 ∧ r.2.Rows.length ≤ 6 := by
 unfold law10_D_Of
 rw [ret_bind]
 refine (of_ret h.m).mono fun a ha => ?_
 obtain ⟨va, ia, i3, o3, l6⟩ := ha
 rw [ret_bif]
 refine ⟨fun _ => ?_, fun _ => ?_⟩
 ·rw [ret_bind]
  refine (of_ret (x := ⟨x.X.States, x.M.Inputs, x.X.Outputs, x.X.Partial, x.X.Edges⟩) ⟨h.x2.s0, h.m.i0, h.x2.o0, h.x2.e0⟩).mono fun b hb => ?_
  rw [ret_some]
  exact ⟨va, hb.1, by rw [ia, hb.2.1], l6, hb.2.2.2.2⟩
 have hto : Ret (loop (fun s => law10_D_Of_L8 a s.1 s.2) (([] : List Int), 0)) fun t => t.length = a.Rows.length ∧ ∀ v ∈ t, 0 ≤ v ∧ v < (a.Rows.length : Int) := by
  refine ret_loop (fun s => ∃ i : Nat, s.2 = (i : Int) ∧ i ≤ a.Rows.length ∧ s.1.length = i ∧ ∀ v ∈ s.1, 0 ≤ v ∧ v < (a.Rows.length : Int)) (fun s => 200 - s.2.toNat) ⟨0, rfl, Nat.zero_le _, rfl, by simp⟩ (by simp) ?_
  rintro ⟨t, i'⟩ ⟨i, hi, hil, hl, hv⟩
  simp only at hi hl hv
  subst hi
  unfold law10_D_Of_L8
  rw [ret_bif]
  refine ⟨fun hlt => ?_, fun hge => ?_⟩
  ·have hlt : i < a.Rows.length := by simpa using hlt
   have hw : w64 ((i : Int) + 1) = ((i + 1 : Nat) : Int) := by rw [w64_in (by omega) (by omega)]; rfl
   rw [gdT (by simp; omega), ret_some, hw]
   refine ⟨⟨i + 1, rfl, hlt, by simp [hl], fun v hm => ?_⟩, by simp only; omega⟩
   rcases List.mem_append.1 hm with g | g
   ·exact hv v g
   ·rw [List.mem_singleton.1 g]; omega
  ·have : i = a.Rows.length := by simp at hge; omega
   subst this
   rw [ret_some]
   exact ⟨hl, hv⟩
 have rest : ∀ t : List Int, t.length = a.Rows.length → (∀ v ∈ t, 0 ≤ v ∧ v < (a.Rows.length : Int)) → Ret (law10_D_Of_J2 x a t) fun r => VM r.1 ∧ VM r.2 ∧ r.1.Inputs = r.2.Inputs ∧ r.1.Rows.length ≤ 6 ∧ r.2.Rows.length ≤ 6 := by
  intro t tl tv
  have hrl : ∀ r ∈ a.Rows, r.length ≤ 1000 := fun r hr => by have := va.row r hr; omega
  unfold law10_D_Of_J2
  rw [bdT (copy_eq a (by omega) hrl), ret_bind]
  have hk := va.kk_eq
  have k16 := va.kk_le
  have tAt : ∀ s : Nat, s < a.Rows.length → ∃ v, t[s]? = some v ∧ 0 ≤ v ∧ v < (a.Rows.length : Int) := fun s hs => by
   have hs' : s < t.length := by omega
   exact ⟨_, List.getElem?_eq_getElem hs', tv _ (List.getElem_mem hs')⟩
  have inner : ∀ (s : Nat) (rows : List (List S_api_Edge)), s < a.Rows.length → RowsOk a.Rows.length a.Inputs a.Outputs rows → Ret (loop (fun q => law10_D_Of_L6 a t (s : Int) q.1 q.2) (rows, 0)) fun r => RowsOk a.Rows.length a.Inputs a.Outputs r := by
   intro s rows hs hrows
   refine ret_loop (fun q => ∃ i : Nat, q.2 = (i : Int) ∧ i ≤ kk a ∧ RowsOk a.Rows.length a.Inputs a.Outputs q.1) (fun q => 200 - q.2.toNat) ⟨0, rfl, Nat.zero_le _, hrows⟩ (by simp) ?_
   rintro ⟨q, i'⟩ ⟨i, hi, hil, hq⟩
   simp only at hi hq
   subst hi
   unfold law10_D_Of_L6
   rw [ret_bif]
   refine ⟨fun hlt => ?_, fun hge => ?_⟩
   ·have hlt : i < kk a := by rw [← hk] at hlt; simpa using hlt
    have hw : w64 ((i : Int) + 1) = ((i + 1 : Nat) : Int) := by rw [w64_in (by omega) (by omega)]; rfl
    have hed := va.edgeAt hs hlt
    rw [va.edge_eq hs hlt]
    have fin : ∀ z : Int, ((z = -1 ∧ (E a s i).Out = -1) ∨ (0 ≤ z ∧ z < (a.Rows.length : Int) ∧ 0 ≤ (E a s i).Out ∧ (E a s i).Out < a.Outputs)) →
      Ret (law10_D_Of_J7 t (s : Int) q (i : Int) (E a s i) z) (LRP (fun s' => (∃ j : Nat, s'.2 = (j : Int) ∧ j ≤ kk a ∧ RowsOk a.Rows.length a.Inputs a.Outputs s'.1) ∧ 200 - s'.2.toNat < 200 - (i : Int).toNat) (fun r => RowsOk a.Rows.length a.Inputs a.Outputs r)) := by
     intro z hz
     obtain ⟨v, v1, v2, v3⟩ := tAt s hs
     unfold law10_D_Of_J7
     rw [idx_nat, bdT v1, ret_bind, ret_idx]
     have hql : v.toNat < q.length := by have := hq.1; omega
     have hqr : q[v.toNat]? = some q[v.toNat] := List.getElem?_eq_getElem hql
     have hrow := (hq.2 _ (List.getElem_mem hql)).1
     have hi2 : i < q[v.toNat].length := by omega
     refine ⟨v2, _, hqr, ?_⟩
     rw [idx_nat, bdT (List.getElem?_eq_getElem hi2), ret_some, hw]
     exact ⟨⟨i + 1, rfl, hlt, hq.set hqr hz⟩, by simp only; omega⟩
    rw [ret_bif]
    refine ⟨fun hto => ?_, fun hto => ?_⟩
    ·have hto : (E a s i).To ≥ 0 := of_decide_eq_true hto
     rcases hed with ⟨g1, _⟩ | ⟨g1, g2, g3, g4⟩
     ·omega
     ·obtain ⟨v, v1, v2, v3⟩ := tAt (E a s i).To.toNat (by omega)
      rw [ret_bind, ret_idx]
      exact ⟨g1, v, v1, fin v (.inr ⟨v2, v3, g3, g4⟩)⟩
    ·have hto : ¬ (E a s i).To ≥ 0 := of_decide_eq_false hto
     rcases hed with ⟨g1, g2⟩ | ⟨g1, g2, g3, g4⟩
     ·exact fin _ (.inl ⟨g1, g2⟩)
     ·omega
   ·rw [ret_some]
    exact hq
  have outer : Ret (loop (fun s => law10_D_Of_L4 a t s.1 s.2) (a.Rows, 0)) fun r => RowsOk a.Rows.length a.Inputs a.Outputs r := by
   refine ret_loop (fun q => ∃ i : Nat, q.2 = (i : Int) ∧ i ≤ a.Rows.length ∧ RowsOk a.Rows.length a.Inputs a.Outputs q.1) (fun q => 200 - q.2.toNat) ⟨0, rfl, Nat.zero_le _, rows_of va⟩ (by simp) ?_
   rintro ⟨q, i'⟩ ⟨i, hi, hil, hq⟩
   simp only at hi hq
   subst hi
   unfold law10_D_Of_L4 law10_D_Of_J5
   rw [ret_bif]
   refine ⟨fun hlt => ?_, fun hge => ?_⟩
   ·have hlt : i < a.Rows.length := by simpa using hlt
    have hw : w64 ((i : Int) + 1) = ((i + 1 : Nat) : Int) := by rw [w64_in (by omega) (by omega)]; rfl
    rw [ret_bind]
    refine (inner i q hlt hq).mono fun r hr => ?_
    rw [ret_some, hw]
    exact ⟨⟨i + 1, rfl, hlt, hr⟩, by simp only; omega⟩
   ·rw [ret_some]
    exact hq
  refine outer.mono fun rows hrows => ?_
  have vb := vm_rows va hrows
  have hrl' : ∀ r ∈ rows, r.length ≤ 1000 := fun r hr => by have := (hrows.2 r hr).1; omega
  have hrn := hrows.1
  unfold law10_D_Of_J3
  have hcp : ref04_Copy (S_api_Machine.mk a.Inputs a.Outputs rows) = some ⟨a.Inputs, a.Outputs, rows⟩ := copy_eq _ (by simp only; omega) hrl'
  rw [bdT hcp]
  have n0 : 1 ≤ a.Rows.length := va.len1
  have k0 : 1 ≤ a.Inputs := va.in1
  have w0 : w64 x.Place.e0 = x.Place.e0 := w64_in (by have := h.p0; omega) (by have := h.p0; omega)
  have w1 : w64 x.Place.e1 = x.Place.e1 := w64_in (by have := h.p1; omega) (by have := h.p1; omega)
  rw [w0, w1]
  have m0 := Int.tmod_nonneg (a.Rows.length : Int) h.p0.1
  have m1 := Int.tmod_lt_of_pos x.Place.e0 (show (0 : Int) < (a.Rows.length : Int) by omega)
  have m2 := Int.tmod_nonneg a.Inputs h.p1.1
  have m3 := Int.tmod_lt_of_pos x.Place.e1 (show (0 : Int) < a.Inputs by omega)
  generalize Int.tmod x.Place.e0 (a.Rows.length : Int) = ps at m0 m1 ⊢
  generalize Int.tmod x.Place.e1 a.Inputs = pi at m2 m3 ⊢
  have hpl : ps.toNat < rows.length := by omega
  rw [ret_gd]
  refine ⟨by omega, ?_⟩
  rw [ret_bind, ret_idx]
  refine ⟨m0, _, List.getElem?_eq_getElem hpl, ?_⟩
  have hrow := (hrows.2 _ (List.getElem_mem hpl)).1
  rw [ret_gd]
  refine ⟨by omega, ?_⟩
  rw [ret_bind, ret_idx]
  refine ⟨m2, _, List.getElem?_eq_getElem (show pi.toNat < rows[ps.toNat].length by omega), ?_⟩
  rw [bdT (ref_check _), ret_bif]
  refine ⟨fun hc => ?_, fun _ => ?_⟩
  ·rw [ret_some]
   have hc := vm_of (show chk _ = 0 by simpa using hc)
   refine ⟨va, hc, rfl, l6, ?_⟩
   simp only [List.length_set]
   omega
  ·rw [ret_some]
   exact ⟨va, vb, rfl, l6, by simp only; omega⟩
 rw [ret_bind]
 refine hto.mono fun t ht => ?_
 obtain ⟨tl, tv⟩ := ht
 unfold law10_D_Of_J1
 rw [ret_bif]
 refine ⟨fun hn => ?_, fun _ => rest t tl tv⟩
 have hn : (a.Rows.length : Int) > 1 := of_decide_eq_true hn
 have wn : w64 ((a.Rows.length : Int) - 1) = (a.Rows.length : Int) - 1 := w64_in (by omega) (by omega)
 have w0 : w64 x.Swap.e0 = x.Swap.e0 := w64_in (by have := h.s0; omega) (by have := h.s0; omega)
 have w1 : w64 x.Swap.e1 = x.Swap.e1 := w64_in (by have := h.s1; omega) (by have := h.s1; omega)
 rw [wn, w0, w1]
 have m0 := Int.tmod_nonneg ((a.Rows.length : Int) - 1) h.s0.1
 have m1 := Int.tmod_lt_of_pos x.Swap.e0 (show (0 : Int) < (a.Rows.length : Int) - 1 by omega)
 have m2 := Int.tmod_nonneg ((a.Rows.length : Int) - 1) h.s1.1
 have m3 := Int.tmod_lt_of_pos x.Swap.e1 (show (0 : Int) < (a.Rows.length : Int) - 1 by omega)
 generalize Int.tmod x.Swap.e0 ((a.Rows.length : Int) - 1) = p at m0 m1 ⊢
 generalize Int.tmod x.Swap.e1 ((a.Rows.length : Int) - 1) = q at m2 m3 ⊢
 have wp : w64 (1 + p) = 1 + p := w64_in (by omega) (by omega)
 have wq : w64 (1 + q) = 1 + q := w64_in (by omega) (by omega)
 rw [wp, wq, ret_gd]
 refine ⟨by omega, ?_⟩
 rw [ret_gd]
 refine ⟨by omega, ?_⟩
 have hq : (1 + q).toNat < t.length := by omega
 have hp : (1 + p).toNat < t.length := by omega
 rw [ret_bind, ret_idx]
 refine ⟨by omega, _, List.getElem?_eq_getElem hq, ?_⟩
 rw [ret_bind, ret_idx]
 refine ⟨by omega, _, List.getElem?_eq_getElem hp, ?_⟩
 rw [ret_bind, ret_idx]
 refine ⟨by omega, _, List.getElem?_eq_getElem hp, ?_⟩
 rw [ret_bind, ret_idx]
 refine ⟨by omega, _, List.getElem?_eq_getElem (by simpa using hq), ?_⟩
 refine rest _ (by simpa using tl) fun v hv => ?_
 rcases List.mem_or_eq_of_mem_set hv with g | g
 ·rcases List.mem_or_eq_of_mem_set g with g | g
  ·exact tv v g
  ·subst g; exact tv _ (List.getElem_mem hq)
 ·subst g; exact tv _ (List.getElem_mem hp)
end Go.Own

namespace Go.Own
set_option linter.unusedVariables false
set_option linter.unusedSimpArgs false
theorem countP_lt {α : Type} {p q : α → Bool} : ∀ {l : List α}, (∀ x ∈ l, p x = true → q x = true) → (∃ x ∈ l, q x = true ∧ p x = false) → l.countP p < l.countP q
 | [], _, ⟨x, hx, _⟩ => by cases hx
 | y :: l, h, ⟨x, hx, h1, h2⟩ => by
  have hm : l.countP p ≤ l.countP q := List.countP_mono_left fun z hz => h z (List.mem_cons_of_mem _ hz)
  simp only [List.countP_cons]
  rcases List.mem_cons.1 hx with rfl | hx
  ·simp only [h1, h2, if_true, Bool.false_eq_true, if_false]
   omega
  ·have := countP_lt (fun z hz => h z (List.mem_cons_of_mem _ hz)) ⟨x, hx, h1, h2⟩
   cases hp : p y with
   | true => simp only [h y (by simp) hp, if_true]; omega
   | false =>
    simp only [Bool.false_eq_true, if_false]
    split <;> omega
open Classical in
noncomputable def reps (N : Nat) (R : Nat → Nat → Prop) : Nat := (List.range N).countP fun s => decide (∀ t, t < s → ¬ R s t)
theorem stab {N : Nat} (hN : 0 < N) (R : Nat → Nat → Nat → Prop) (symm : ∀ k s t, s < N → t < N → R k s t → R k t s) (trans : ∀ k s t u, s < N → t < N → u < N → R k s t → R k t u → R k s u)
  (refl : ∀ k s, s < N → R k s s) (mono : ∀ k s t, s < N → t < N → R (k + 1) s t → R k s t) (stat : ∀ k, (∀ s t, s < N → t < N → R k s t → R (k + 1) s t) → ∀ s t, s < N → t < N → R (k + 1) s t → R (k + 2) s t) :
  ∀ s t, s < N → t < N → R (N - 1) s t → ∀ j, R j s t := by
 classical
 have step : ∀ k, (¬ ∀ s t, s < N → t < N → R k s t → R (k + 1) s t) → reps N (R k) < reps N (R (k + 1)) := by
  intro k hk
  simp only [Classical.not_forall] at hk
  obtain ⟨s, t, hs, ht, h1, h2⟩ := hk
  unfold reps
  refine countP_lt (fun x hx => ?_) ?_
  ·have hx := List.mem_range.1 hx
   simp only [decide_eq_true_eq]
   exact fun h t ht q => h t ht (mono k x t hx (by omega) q)
  ·
   have hmin : ∃ z, z < N ∧ R k z s ∧ ∀ y, y < z → ¬ R k y s := by
    have key : ∀ n, ∀ z, z ≤ n → z < N → R k z s → ∃ z, z < N ∧ R k z s ∧ ∀ y, y < z → ¬ R k y s := by
     intro n
     induction n with
     | zero => intro z hz hzN hr; exact ⟨z, hzN, hr, fun y hy => by omega⟩
     | succ n ih =>
      intro z hz hzN hr
      by_cases q : ∃ y, y < z ∧ R k y s
      ·obtain ⟨y, y1, y2⟩ := q
       exact ih y (by omega) (by omega) y2
      ·exact ⟨z, hzN, hr, fun y hy g => q ⟨y, hy, g⟩⟩
    exact key s s (Nat.le_refl _) hs (refl k s hs)
   obtain ⟨z, hz, hzs, hzm⟩ := hmin
   have hzt : R k z t := trans k z s t hz hs ht hzs h1
   obtain ⟨u, hu, hzu, hne⟩ : ∃ u, u < N ∧ R k z u ∧ ¬ R (k + 1) z u := by
    by_cases q : R (k + 1) z s
    ·by_cases g : R (k + 1) z t
     ·exact (h2 (trans (k + 1) s z t hs hz ht (symm _ _ _ hz hs q) g)).elim
     ·exact ⟨t, ht, hzt, g⟩
    ·exact ⟨s, hs, hzs, q⟩
   have hmin : ∃ y, y < N ∧ R (k + 1) y u ∧ ∀ x, x < y → ¬ R (k + 1) x u := by
    have key : ∀ n, ∀ z, z ≤ n → z < N → R (k + 1) z u → ∃ z, z < N ∧ R (k + 1) z u ∧ ∀ y, y < z → ¬ R (k + 1) y u := by
     intro n
     induction n with
     | zero => intro z hz hzN hr; exact ⟨z, hzN, hr, fun y hy => by omega⟩
     | succ n ih =>
      intro z hz hzN hr
      by_cases q : ∃ y, y < z ∧ R (k + 1) y u
      ·obtain ⟨y, y1, y2⟩ := q
       exact ih y (by omega) (by omega) y2
      ·exact ⟨z, hzN, hr, fun y hy g => q ⟨y, hy, g⟩⟩
    exact key u u (Nat.le_refl _) hu (refl _ u hu)
   obtain ⟨y, hy, hyu, hym⟩ := hmin
   have hyk : R k y u := mono k y u hy hu hyu
   have hyz : R k y z := trans k y u z hy hu hz hyk (symm _ _ _ hz hu hzu)
   have hzy : z < y := by
    rcases Nat.lt_trichotomy z y with g | g | g
    ·exact g
    ·subst g; exact (hne hyu).elim
    ·exact (hzm y g (trans k y z s hy hz hs hyz hzs)).elim
   refine ⟨y, List.mem_range.2 hy, ?_, ?_⟩
   ·simp only [decide_eq_true_eq]
    intro x hx q
    exact hym x hx (trans (k + 1) x y u (by omega) hy hu (symm _ _ _ hy (by omega) q) hyu)
   ·simp only [decide_eq_false_iff_not]
    intro q
    exact q z hzy hyz
 have le : ∀ k, reps N (R k) ≤ N := by
  intro k
  unfold reps
  refine Nat.le_trans (List.countP_le_length) ?_
  simp
 have one : ∀ k, 1 ≤ reps N (R k) := by
  intro k
  unfold reps
  refine List.countP_pos_iff.2 ⟨0, List.mem_range.2 hN, ?_⟩
  simp
 have rest : ∃ k, k < N ∧ ∀ s t, s < N → t < N → R k s t → R (k + 1) s t := by
  refine Classical.byContradiction fun hno => ?_
  have : ∀ k, k ≤ N → k + 1 ≤ reps N (R k) := by
   intro k
   induction k with
   | zero => intro _; exact one 0
   | succ k ih =>
    intro hk
    have := step k fun h => hno ⟨k, by omega, h⟩
    have := ih (by omega)
    omega
  have := this N (Nat.le_refl _)
  have := le N
  omega
 obtain ⟨k, hk, hst⟩ := rest
 have up : ∀ d, ∀ s t, s < N → t < N → R (k + d) s t → R (k + d + 1) s t := by
  intro d
  induction d with
  | zero => exact hst
  | succ d ih => exact stat (k + d) ih
 have down : ∀ d j s t, s < N → t < N → R (j + d) s t → R j s t := by
  intro d
  induction d with
  | zero => intro j s t _ _ h; exact h
  | succ d ih => intro j s t hs ht h; exact ih j s t hs ht (mono _ s t hs ht h)
 intro s t hs ht h j
 have hk' : R k s t := down (N - 1 - k) k s t hs ht (by rw [show k + (N - 1 - k) = N - 1 by omega]; exact h)
 have far : ∀ d, R (k + d) s t := by
  intro d
  induction d with
  | zero => exact hk'
  | succ d ih => exact up d s t hs ht ih
 exact down k j s t hs ht (by rw [Nat.add_comm]; exact far j)
section
variable {S S' : Type} {k : Nat} {bad : S → Nat → Bool} {nx : S → Nat → Option S} {bad' : S' → Nat → Bool} {nx' : S' → Nat → Option S'} (φ : S → S') (I : S → Prop)
 (hI : ∀ p i q, I p → i < k → nx p i = some q → I q) (hb : ∀ p i, I p → i < k → bad' (φ p) i = bad p i) (hn : ∀ p i, I p → i < k → nx' (φ p) i = (nx p i).map φ)
include hI hb hn
end
end Go.Own
