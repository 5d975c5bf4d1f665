/- Walks, further. -/
import Derived.Test.YtdnenbcldibnoaaPartF
import Derived.Test.YtdnenbcldibnoaaPartC
import Derived.Test.YtdnenbcldibnoaaPartE
set_option linter.unusedVariables false
set_option linter.unusedSimpArgs false
namespace Go.Own
open Go.Proofs
set_option linter.unusedVariables false
set_option maxRecDepth 100000
set_option maxHeartbeats 8000000
noncomputable def bd_ref10_Pairs : Code := (Try.f44.body).getD .skip
noncomputable def sp_ref10_Pairs : Spec := spF (α := S_api_Machine × S_api_Machine) (ρ := List (Arr2 Int)) 44 (fun x => [F20_ x.1, F20_ x.2]) (fun r => F7_ r) (fun x => ref10_Pairs x.1 x.2) [] (by
  rintro ⟨a0, a1⟩ ⟨b0, b1⟩ h
  simp only [List.cons.injEq, and_true] at h
  have e0 := EncI.inj (f := F20_) _ _ h.1
  have e1 := EncI.inj (f := F20_) _ _ h.2
  subst e0 e1
  rfl)
abbrev ST_ref10_Pairs_J3 (out : List (Arr2 Int)) : List (Nat × T) := [(13, .own (eOs 2 false F0_ out))]
abbrev ST_ref10_Pairs_J5 (a_ : S_api_Machine) (b_ : S_api_Machine) (in_1 : List (List Bool)) (s_ : Int) (out2 : List (Arr2 Int)) : List (Nat × T) := [(2, .own (.box (F20_ a_))), (3, .own (.box (F20_ b_))), (5, .own (eOs 1 false (eOs 1 true eB) in_1)), (13, .own (eOs 2 false F0_ out2)), (14, .d (I s_))]
abbrev ST_ref10_Pairs_J7 (a_ : S_api_Machine) (b_ : S_api_Machine) (in_1 : List (List Bool)) (s_ : Int) (t_ : Int) (out4 : List (Arr2 Int)) : List (Nat × T) := [(2, .own (.box (F20_ a_))), (3, .own (.box (F20_ b_))), (5, .own (eOs 1 false (eOs 1 true eB) in_1)), (13, .own (eOs 2 false F0_ out4)), (14, .d (I s_)), (15, .d (I t_))]
abbrev ST_ref10_Pairs_L6 (a_ : S_api_Machine) (b_ : S_api_Machine) (in_1 : List (List Bool)) (s_ : Int) (out3 : List (Arr2 Int)) (t_ : Int) : List (Nat × T) := [(2, .own (.box (F20_ a_))), (3, .own (.box (F20_ b_))), (5, .own (eOs 1 false (eOs 1 true eB) in_1)), (13, .own (eOs 2 false F0_ out3)), (14, .d (I s_)), (15, .d (I t_))]
abbrev ST_ref10_Pairs_L4 (a_ : S_api_Machine) (b_ : S_api_Machine) (in_1 : List (List Bool)) (out1 : List (Arr2 Int)) (s_ : Int) : List (Nat × T) := [(2, .own (.box (F20_ a_))), (3, .own (.box (F20_ b_))), (5, .own (eOs 1 false (eOs 1 true eB) in_1)), (13, .own (eOs 2 false F0_ out1)), (14, .d (I s_))]
abbrev ST_ref10_Pairs_J2 (a_ : S_api_Machine) (b_ : S_api_Machine) (in_1 : List (List Bool)) : List (Nat × T) := [(2, .own (.box (F20_ a_))), (3, .own (.box (F20_ b_))), (5, .own (eOs 1 false (eOs 1 true eB) in_1))]
abbrev ST_ref10_Pairs_J9 (a_ : S_api_Machine) (b_ : S_api_Machine) (round : Int) (in_3 : List (List Bool)) : List (Nat × T) := [(2, .own (.box (F20_ a_))), (3, .own (.box (F20_ b_))), (5, .own (eOs 1 false (eOs 1 true eB) in_3)), (7, .d (I round))]
abbrev ST_ref10_Pairs_J11 (a_ : S_api_Machine) (b_ : S_api_Machine) (round : Int) (s_1 : Int) (in_5 : List (List Bool)) : List (Nat × T) := [(2, .own (.box (F20_ a_))), (3, .own (.box (F20_ b_))), (5, .own (eOs 1 false (eOs 1 true eB) in_5)), (7, .d (I round)), (8, .d (I s_1))]
abbrev ST_ref10_Pairs_J13 (a_ : S_api_Machine) (b_ : S_api_Machine) (round : Int) (s_1 : Int) (t_1 : Int) (in_7 : List (List Bool)) : List (Nat × T) := [(2, .own (.box (F20_ a_))), (3, .own (.box (F20_ b_))), (5, .own (eOs 1 false (eOs 1 true eB) in_7)), (7, .d (I round)), (8, .d (I s_1)), (9, .d (I t_1))]
abbrev ST_ref10_Pairs_J15 (a_ : S_api_Machine) (b_ : S_api_Machine) (round : Int) (s_1 : Int) (t_1 : Int) (i_ : Int) (in__e_e2 : Bool) (in_9 : List (List Bool)) : List (Nat × T) := [(2, .own (.box (F20_ a_))), (3, .own (.box (F20_ b_))), (5, .own (eOs 1 false (eOs 1 true eB) in_9)), (7, .d (I round)), (8, .d (I s_1)), (9, .d (I t_1)), (10, .d (I i_)), (65, .d (I s_1)), (68, .d (I t_1)), (70, .d (B in__e_e2))]
abbrev ST_ref10_Pairs_L14 (a_ : S_api_Machine) (b_ : S_api_Machine) (round : Int) (s_1 : Int) (t_1 : Int) (in_8 : List (List Bool)) (i_ : Int) : List (Nat × T) := [(2, .own (.box (F20_ a_))), (3, .own (.box (F20_ b_))), (5, .own (eOs 1 false (eOs 1 true eB) in_8)), (7, .d (I round)), (8, .d (I s_1)), (9, .d (I t_1)), (10, .d (I i_))]
abbrev ST_ref10_Pairs_L12 (a_ : S_api_Machine) (b_ : S_api_Machine) (round : Int) (s_1 : Int) (in_6 : List (List Bool)) (t_1 : Int) : List (Nat × T) := [(2, .own (.box (F20_ a_))), (3, .own (.box (F20_ b_))), (5, .own (eOs 1 false (eOs 1 true eB) in_6)), (7, .d (I round)), (8, .d (I s_1)), (9, .d (I t_1))]
abbrev ST_ref10_Pairs_L10 (a_ : S_api_Machine) (b_ : S_api_Machine) (round : Int) (in_4 : List (List Bool)) (s_1 : Int) : List (Nat × T) := [(2, .own (.box (F20_ a_))), (3, .own (.box (F20_ b_))), (5, .own (eOs 1 false (eOs 1 true eB) in_4)), (7, .d (I round)), (8, .d (I s_1))]
abbrev ST_ref10_Pairs_L8 (a_ : S_api_Machine) (b_ : S_api_Machine) (in_2 : List (List Bool)) (round : Int) : List (Nat × T) := [(2, .own (.box (F20_ a_))), (3, .own (.box (F20_ b_))), (5, .own (eOs 1 false (eOs 1 true eB) in_2)), (7, .d (I round))]
abbrev ST_ref10_Pairs_J1 (a_ : S_api_Machine) (b_ : S_api_Machine) (in_ : List (List Bool)) : List (Nat × T) := [(2, .own (.box (F20_ a_))), (3, .own (.box (F20_ b_))), (5, .own (eOs 1 false (eOs 1 true eB) in_))]
abbrev ST_ref10_Pairs_L16 (a_ : S_api_Machine) (b_ : S_api_Machine) (in_10 : List (List Bool)) (s_2 : Int) : List (Nat × T) := [(2, .own (.box (F20_ a_))), (3, .own (.box (F20_ b_))), (5, .own (eOs 1 false (eOs 1 true eB) in_10)), (6, .d (I s_2))]
theorem w_ref10_Pairs {ctr : Ctr} (hC : CtrOk Try.prog ctr) (hm : Try.prog.follows .mixedOrders = true) : sp_ref10_Pairs.Ok Try.prog := by
 refine spF_ok ?_
 rintro ⟨a_, b_⟩ r0 hf0
 try unfold ref10_Pairs at hf0
 refine callOk_h (tt := TTab) (keep := true) (rs := [(4, none)]) (n := ⟨134, []⟩) (body := bd_ref10_Pairs) TTab_ok Try.func44 rfl (by kernel_rfl) rfl rfl (by show (2 : Nat) ≤ 134; decide) fun E hE => ?_
 refine awpAt X0 TTab_ok hC hm [2, 3, 5] 4000 [.cut 2] (sub [1, 1] bd_ref10_Pairs) (frs [1, 1] [] bd_ref10_Pairs []) [(2, .own (.box (F20_ a_))), (3, .own (.box (F20_ b_))), (5, .own (eOs 1 true (eSl 1 false eB) []))] [] (by kernel_rfl) fun st0 h0 => ?_
 refine awpJoin' (X := List (List Bool)) (x := (sub [1, 1, 2] bd_ref10_Pairs)) (y := (sub [1, 1, 1] bd_ref10_Pairs)) (by kernel_rfl) [2, 3, 5] [2, 3, 5] _ h0 (fun z => ref10_Pairs_J1 a_ b_ z = some r0) (fun z => ST_ref10_Pairs_J1 a_ b_ z) ?_ fun J1 hJ1 => ?_
 ·rintro in_ hf0
  unfold ref10_Pairs_J1 at hf0
  obtain ⟨in__e, h0, hf0⟩ := bindE hf0
  obtain ⟨in__e_e, h1, hf0⟩ := bindE hf0
  have o0 := sM (eOs 1 true eB) in_ 0 (in__e.set (0 : Int).toNat true)
  refine awpAt X0 TTab_ok hC hm [2, 3, 5] 4000 [.a ((eOs 1 true eB) in__e), .a ((eOs 1 true eB) in__e), .a ((eOs 1 true eB) in__e), .a (eB in__e_e), .a ((eOs 1 true eB) in__e), .a (eB in__e_e), .l ((in__e.set (0 : Int).toNat true).map eB), .l ((in_.set (0 : Int).toNat (in__e.set (0 : Int).toNat true)).map (eOs 1 true eB)), .cut 0] (sub [1, 1, 1, 1] bd_ref10_Pairs) (frs [1, 1, 1, 1] [] bd_ref10_Pairs []) [(2, .own (.box (F20_ a_))), (3, .own (.box (F20_ b_))), (5, .own (eOs 1 false (eOs 1 true eB) (in_.set (0 : Int).toNat (in__e.set (0 : Int).toNat true))))] [ob (iL (eOs 1 true eB) h0), ob (iM (eOs 1 true eB) h0), ob (iM (eOs 1 true eB) h0), ob (iL eB h1), ob (iM (eOs 1 true eB) h0), ob (iM eB h1), ob (iM (eOs 1 true eB) h0), ob (iM eB h1), ob (sM eB in__e 0 true), ob o0] (by kernel_rfl) fun st0 h0 => ?_
  refine awpJoin' (X := List (List Bool)) (x := (sub [1, 1, 1, 1, 2] bd_ref10_Pairs)) (y := (sub [1, 1, 1, 1, 1] bd_ref10_Pairs)) (by kernel_rfl) [2, 3, 5] [2, 3, 5] _ h0 (fun z => ref10_Pairs_J2 a_ b_ z = some r0) (fun z => ST_ref10_Pairs_J2 a_ b_ z) ?_ fun J2 hJ2 => ?_
  ·rintro in_1 hf0
   unfold ref10_Pairs_J2 at hf0
   refine awpAt X0 TTab_ok hC hm [2, 3, 5, 13] 4000 [.cut 1] (sub [1, 1, 1, 1, 1, 1] bd_ref10_Pairs) (frs [1, 1, 1, 1, 1, 1] [] bd_ref10_Pairs []) [(2, .own (.box (F20_ a_))), (3, .own (.box (F20_ b_))), (5, .own (eOs 1 false (eOs 1 true eB) in_1)), (13, .own (eOs 2 true F0_ []))] [] (by kernel_rfl) fun st0 h0 => ?_
   refine awpJoin' (X := List (Arr2 Int)) (x := (sub [1, 1, 1, 1, 1, 1, 2] bd_ref10_Pairs)) (y := (sub [1, 1, 1, 1, 1, 1, 1] bd_ref10_Pairs)) (by kernel_rfl) [13] [2, 3, 5, 13] _ h0 (fun z => ref10_Pairs_J3 z = some r0) (fun z => ST_ref10_Pairs_J3 z) ?_ fun J3 hJ3 => ?_
   ·rintro out hf0
    unfold ref10_Pairs_J3 at hf0
    obtain rfl := someE hf0
    exact awpEnd X0 TTab_ok hC hm hE 4000 (hs := []) (x := (eOs 2 false F0_ out)) [] (by kernel_rfl) (LeV.refl _)
   ·obtain ⟨t4, ht4, hf0⟩ := bindE hf0
    refine awpAt X0 TTab_ok hC hm [2, 3, 5, 13, 14] 4000 [] (sub [1, 1, 1, 1, 1, 1, 2, 1, 0] bd_ref10_Pairs) (frs [1, 1, 1, 1, 1, 1, 2, 1, 0] [J3] bd_ref10_Pairs []) [(2, .own (.box (F20_ a_))), (3, .own (.box (F20_ b_))), (5, .own (eOs 1 false (eOs 1 true eB) in_1)), (13, .own (eOs 2 true F0_ [])), (14, .d (I 0))] [] (by kernel_rfl) fun st0 h0 => ?_
    refine awpLoop' (X := (List (Arr2 Int) × Int) × Nat) (c' := (sub [1, 1, 1, 1, 1, 1, 2, 1, 0, 0] bd_ref10_Pairs)) (by kernel_rfl) [2, 3, 5, 13, 14] (fun x => loopN (fun s => ref10_Pairs_L4 a_ b_ in_1 s.1 s.2) x.2 x.1 = some t4) (fun x => x.2) (fun x => ST_ref10_Pairs_L4 a_ b_ in_1 x.1.1 x.1.2) ((([] : List (Arr2 Int)), 0), fuel) _ h0 inferInstance ht4 ?_
    rintro ⟨⟨out1, s_⟩, n4⟩ hn4 J4 hJ4
    obtain ⟨m4, lr1, rfl, hf1, hl1⟩ := loopE hn4
    try unfold ref10_Pairs_L4 at hf1
    have o1 := lnM F11_ a_.Rows
    rcases bifE hf1 with ⟨c0, hf1⟩ | ⟨c0, hf1⟩
    ·refine awpAt X0 TTab_ok hC hm [2, 3, 5, 13, 14] 4000 [aLn a_.Rows.length, bT, .cut 0] (sub [1, 1, 1, 1, 1, 1, 2, 1, 0, 0, 1] bd_ref10_Pairs) (frs [1, 1, 1, 1, 1, 1, 2, 1, 0, 0, 1] [J3, J4] bd_ref10_Pairs []) [(2, .own (.box (F20_ a_))), (3, .own (.box (F20_ b_))), (5, .own (eOs 1 false (eOs 1 true eB) in_1)), (13, .own (eOs 2 false F0_ out1)), (14, .d (I s_))] [ob o1, ob c0] (by kernel_rfl) fun st0 h0 => ?_
     refine awpJoin' (X := List (Arr2 Int)) (x := (sub [1, 1, 1, 1, 1, 1, 2, 1, 0, 0, 1, 2] bd_ref10_Pairs)) (y := (sub [1, 1, 1, 1, 1, 1, 2, 1, 0, 0, 1, 1] bd_ref10_Pairs)) (by kernel_rfl) [2, 3, 5, 13, 14] [2, 3, 5, 13, 14] _ h0 (fun z => ref10_Pairs_J5 s_ z = some lr1) (fun z => ST_ref10_Pairs_J5 a_ b_ in_1 s_ z) ?_ fun J5 hJ5 => ?_
     ·rintro out2 hf1
      unfold ref10_Pairs_J5 at hf1
      obtain rfl := someE hf1
      exact awpBack X0 TTab_ok hC hm [2, 3, 5, 13, 14] 4000 [] J4 [(2, .own (.box (F20_ a_))), (3, .own (.box (F20_ b_))), (5, .own (eOs 1 false (eOs 1 true eB) in_1)), (13, .own (eOs 2 false F0_ out2)), (14, .d (I (w64 (s_ + 1))))] [] (by kernel_rfl) fun st0 h0 => hJ4 st0 _ ((out2, w64 (s_ + 1)), m4) hl1 (Nat.lt_succ_self m4) h0 inferInstance
     ·obtain ⟨t6, ht6, hf1⟩ := bindE hf1
      refine awpAt X0 TTab_ok hC hm [2, 3, 5, 13, 14, 15] 4000 [] (sub [1, 1, 1, 1, 1, 1, 2, 1, 0, 0, 1, 2, 0, 1, 0] bd_ref10_Pairs) (frs [1, 1, 1, 1, 1, 1, 2, 1, 0, 0, 1, 2, 0, 1, 0] [J3, J4, J5] bd_ref10_Pairs []) [(2, .own (.box (F20_ a_))), (3, .own (.box (F20_ b_))), (5, .own (eOs 1 false (eOs 1 true eB) in_1)), (13, .own (eOs 2 false F0_ out1)), (14, .d (I s_)), (15, .d (I 0))] [] (by kernel_rfl) fun st0 h0 => ?_
      refine awpLoop' (X := (List (Arr2 Int) × Int) × Nat) (c' := (sub [1, 1, 1, 1, 1, 1, 2, 1, 0, 0, 1, 2, 0, 1, 0, 0] bd_ref10_Pairs)) (by kernel_rfl) [2, 3, 5, 13, 14, 15] (fun x => loopN (fun s => ref10_Pairs_L6 b_ in_1 s_ s.1 s.2) x.2 x.1 = some t6) (fun x => x.2) (fun x => ST_ref10_Pairs_L6 a_ b_ in_1 s_ x.1.1 x.1.2) ((out1, 0), fuel) _ h0 inferInstance ht6 ?_
      rintro ⟨⟨out3, t_⟩, n6⟩ hn6 J6 hJ6
      obtain ⟨m6, lr2, rfl, hf2, hl2⟩ := loopE hn6
      try unfold ref10_Pairs_L6 at hf2
      have o2 := lnM F11_ b_.Rows
      rcases bifE hf2 with ⟨c1, hf2⟩ | ⟨c1, hf2⟩
      ·refine awpAt X0 TTab_ok hC hm [2, 3, 5, 13, 14, 15] 4000 [aLn b_.Rows.length, bT, .cut 0] (sub [1, 1, 1, 1, 1, 1, 2, 1, 0, 0, 1, 2, 0, 1, 0, 0, 1] bd_ref10_Pairs) (frs [1, 1, 1, 1, 1, 1, 2, 1, 0, 0, 1, 2, 0, 1, 0, 0, 1] [J3, J4, J5, J6] bd_ref10_Pairs []) [(2, .own (.box (F20_ a_))), (3, .own (.box (F20_ b_))), (5, .own (eOs 1 false (eOs 1 true eB) in_1)), (13, .own (eOs 2 false F0_ out3)), (14, .d (I s_)), (15, .d (I t_))] [ob o2, ob c1] (by kernel_rfl) fun st0 h0 => ?_
       refine awpJoin' (X := List (Arr2 Int)) (x := (sub [1, 1, 1, 1, 1, 1, 2, 1, 0, 0, 1, 2, 0, 1, 0, 0, 1, 2] bd_ref10_Pairs)) (y := (sub [1, 1, 1, 1, 1, 1, 2, 1, 0, 0, 1, 2, 0, 1, 0, 0, 1, 1] bd_ref10_Pairs)) (by kernel_rfl) [2, 3, 5, 13, 14, 15] [2, 3, 5, 13, 14, 15] _ h0 (fun z => ref10_Pairs_J7 t_ z = some lr2) (fun z => ST_ref10_Pairs_J7 a_ b_ in_1 s_ t_ z) ?_ fun J7 hJ7 => ?_
       ·rintro out4 hf2
        unfold ref10_Pairs_J7 at hf2
        obtain rfl := someE hf2
        exact awpBack X0 TTab_ok hC hm [2, 3, 5, 13, 14, 15] 4000 [] J6 [(2, .own (.box (F20_ a_))), (3, .own (.box (F20_ b_))), (5, .own (eOs 1 false (eOs 1 true eB) in_1)), (13, .own (eOs 2 false F0_ out4)), (14, .d (I s_)), (15, .d (I (w64 (t_ + 1))))] [] (by kernel_rfl) fun st0 h0 => hJ6 st0 _ ((out4, w64 (t_ + 1)), m6) hl2 (Nat.lt_succ_self m6) h0 inferInstance
       ·obtain ⟨in__e1, h2, hf2⟩ := bindE hf2
        obtain ⟨in__e_e1, h3, hf2⟩ := bindE hf2
        rcases bifE hf2 with ⟨c2, hf2⟩ | ⟨c2, hf2⟩
        ·have o3 := dM F0_ ([(Arr2.mk s_ t_)] : List (Arr2 Int))
         have o4 := dM F0_ ([(Arr2.mk s_ t_)] : List (Arr2 Int))
         obtain ⟨g0, hf2⟩ := gdE hf2
         have o5 := aL F0_ F0_ g0
         have o6 := aM F0_ out3 ([(Arr2.mk s_ t_)] : List (Arr2 Int))
         exact awpBack X0 TTab_ok hC hm [2, 3, 5, 13, 14, 15] 4000 [.a ((eOs 1 true eB) in__e1), .a ((eOs 1 true eB) in__e1), .a ((eOs 1 true eB) in__e1), .a (eB in__e_e1), bT, bT, .l ((out3 ++ ([(Arr2.mk s_ t_)] : List (Arr2 Int))).map F0_)] J7 [(2, .own (.box (F20_ a_))), (3, .own (.box (F20_ b_))), (5, .own (eOs 1 false (eOs 1 true eB) in_1)), (13, .own (eOs 2 false F0_ (out3 ++ ([(Arr2.mk s_ t_)] : List (Arr2 Int))))), (14, .d (I s_)), (15, .d (I t_))] [ob (iL (eOs 1 true eB) h2), ob (iM (eOs 1 true eB) h2), ob (iM (eOs 1 true eB) h2), ob (iL eB h3), ob (iM (eOs 1 true eB) h2), ob (iM eB h3), ob c2, ob o3, ob o4, ob o5, ob o6] (by kernel_rfl) fun st0 h0 => hJ7 st0 _ (out3 ++ ([(Arr2.mk s_ t_)] : List (Arr2 Int))) hf2 h0 inferInstance
        ·exact awpBack X0 TTab_ok hC hm [2, 3, 5, 13, 14, 15] 4000 [.a ((eOs 1 true eB) in__e1), .a ((eOs 1 true eB) in__e1), .a ((eOs 1 true eB) in__e1), .a (eB in__e_e1), bF] J7 [(2, .own (.box (F20_ a_))), (3, .own (.box (F20_ b_))), (5, .own (eOs 1 false (eOs 1 true eB) in_1)), (13, .own (eOs 2 false F0_ out3)), (14, .d (I s_)), (15, .d (I t_))] [ob (iL (eOs 1 true eB) h2), ob (iM (eOs 1 true eB) h2), ob (iM (eOs 1 true eB) h2), ob (iL eB h3), ob (iM (eOs 1 true eB) h2), ob (iM eB h3), ob c2] (by kernel_rfl) fun st0 h0 => hJ7 st0 _ out3 hf2 h0 inferInstance
      ·obtain rfl := someE hf2
       obtain rfl := hl2
       exact awpBack X0 TTab_ok hC hm [2, 3, 5, 13, 14] 4000 [aLn b_.Rows.length, bF] J5 [(2, .own (.box (F20_ a_))), (3, .own (.box (F20_ b_))), (5, .own (eOs 1 false (eOs 1 true eB) in_1)), (13, .own (eOs 2 false F0_ out3)), (14, .d (I s_))] [ob o2, ob c1] (by kernel_rfl) fun st0 h0 => hJ5 st0 _ out3 hf1 h0 inferInstance
    ·obtain rfl := someE hf1
     obtain rfl := hl1
     exact awpBack X0 TTab_ok hC hm [13] 4000 [aLn a_.Rows.length, bF] J3 [(13, .own (eOs 2 false F0_ out1))] [ob o1, ob c0] (by kernel_rfl) fun st0 h0 => hJ3 st0 _ out1 hf0 h0 inferInstance
  ·obtain ⟨t8, ht8, hf0⟩ := bindE hf0
   refine awpAt X0 TTab_ok hC hm [2, 3, 5, 7] 4000 [] (sub [1, 1, 1, 1, 2, 1, 0] bd_ref10_Pairs) (frs [1, 1, 1, 1, 2, 1, 0] [J2] bd_ref10_Pairs []) [(2, .own (.box (F20_ a_))), (3, .own (.box (F20_ b_))), (5, .own (eOs 1 false (eOs 1 true eB) (in_.set (0 : Int).toNat (in__e.set (0 : Int).toNat true)))), (7, .d (I 0))] [] (by kernel_rfl) fun st0 h0 => ?_
   refine awpLoop' (X := (List (List Bool) × Int) × Nat) (c' := (sub [1, 1, 1, 1, 2, 1, 0, 0] bd_ref10_Pairs)) (by kernel_rfl) [2, 3, 5, 7] (fun x => loopN (fun s => ref10_Pairs_L8 a_ b_ s.1 s.2) x.2 x.1 = some t8) (fun x => x.2) (fun x => ST_ref10_Pairs_L8 a_ b_ x.1.1 x.1.2) (((in_.set (0 : Int).toNat (in__e.set (0 : Int).toNat true)), 0), fuel) _ h0 inferInstance ht8 ?_
   rintro ⟨⟨in_2, round⟩, n8⟩ hn8 J8 hJ8
   obtain ⟨m8, lr1, rfl, hf1, hl1⟩ := loopE hn8
   try unfold ref10_Pairs_L8 at hf1
   have o7 := lnM F11_ a_.Rows
   have o8 := lnM F11_ b_.Rows
   rcases bifE hf1 with ⟨c3, hf1⟩ | ⟨c3, hf1⟩
   ·refine awpAt X0 TTab_ok hC hm [2, 3, 5, 7] 4000 [aLn a_.Rows.length, aLn b_.Rows.length, bT, .cut 0] (sub [1, 1, 1, 1, 2, 1, 0, 0, 1] bd_ref10_Pairs) (frs [1, 1, 1, 1, 2, 1, 0, 0, 1] [J2, J8] bd_ref10_Pairs []) [(2, .own (.box (F20_ a_))), (3, .own (.box (F20_ b_))), (5, .own (eOs 1 false (eOs 1 true eB) in_2)), (7, .d (I round))] [ob o7, ob o8, ob c3] (by kernel_rfl) fun st0 h0 => ?_
    refine awpJoin' (X := List (List Bool)) (x := (sub [1, 1, 1, 1, 2, 1, 0, 0, 1, 2] bd_ref10_Pairs)) (y := (sub [1, 1, 1, 1, 2, 1, 0, 0, 1, 1] bd_ref10_Pairs)) (by kernel_rfl) [2, 3, 5, 7] [2, 3, 5, 7] _ h0 (fun z => ref10_Pairs_J9 round z = some lr1) (fun z => ST_ref10_Pairs_J9 a_ b_ round z) ?_ fun J9 hJ9 => ?_
    ·rintro in_3 hf1
     unfold ref10_Pairs_J9 at hf1
     obtain rfl := someE hf1
     exact awpBack X0 TTab_ok hC hm [2, 3, 5, 7] 4000 [] J8 [(2, .own (.box (F20_ a_))), (3, .own (.box (F20_ b_))), (5, .own (eOs 1 false (eOs 1 true eB) in_3)), (7, .d (I (w64 (round + 1))))] [] (by kernel_rfl) fun st0 h0 => hJ8 st0 _ ((in_3, w64 (round + 1)), m8) hl1 (Nat.lt_succ_self m8) h0 inferInstance
    ·obtain ⟨t10, ht10, hf1⟩ := bindE hf1
     refine awpAt X0 TTab_ok hC hm [2, 3, 5, 7, 8] 4000 [] (sub [1, 1, 1, 1, 2, 1, 0, 0, 1, 2, 0, 1, 0] bd_ref10_Pairs) (frs [1, 1, 1, 1, 2, 1, 0, 0, 1, 2, 0, 1, 0] [J2, J8, J9] bd_ref10_Pairs []) [(2, .own (.box (F20_ a_))), (3, .own (.box (F20_ b_))), (5, .own (eOs 1 false (eOs 1 true eB) in_2)), (7, .d (I round)), (8, .d (I 0))] [] (by kernel_rfl) fun st0 h0 => ?_
     refine awpLoop' (X := (List (List Bool) × Int) × Nat) (c' := (sub [1, 1, 1, 1, 2, 1, 0, 0, 1, 2, 0, 1, 0, 0] bd_ref10_Pairs)) (by kernel_rfl) [2, 3, 5, 7, 8] (fun x => loopN (fun s => ref10_Pairs_L10 a_ b_ s.1 s.2) x.2 x.1 = some t10) (fun x => x.2) (fun x => ST_ref10_Pairs_L10 a_ b_ round x.1.1 x.1.2) ((in_2, 0), fuel) _ h0 inferInstance ht10 ?_
     rintro ⟨⟨in_4, s_1⟩, n10⟩ hn10 J10 hJ10
     obtain ⟨m10, lr2, rfl, hf2, hl2⟩ := loopE hn10
     try unfold ref10_Pairs_L10 at hf2
     have o9 := lnM F11_ a_.Rows
     rcases bifE hf2 with ⟨c4, hf2⟩ | ⟨c4, hf2⟩
     ·refine awpAt X0 TTab_ok hC hm [2, 3, 5, 7, 8] 4000 [aLn a_.Rows.length, bT, .cut 0] (sub [1, 1, 1, 1, 2, 1, 0, 0, 1, 2, 0, 1, 0, 0, 1] bd_ref10_Pairs) (frs [1, 1, 1, 1, 2, 1, 0, 0, 1, 2, 0, 1, 0, 0, 1] [J2, J8, J9, J10] bd_ref10_Pairs []) [(2, .own (.box (F20_ a_))), (3, .own (.box (F20_ b_))), (5, .own (eOs 1 false (eOs 1 true eB) in_4)), (7, .d (I round)), (8, .d (I s_1))] [ob o9, ob c4] (by kernel_rfl) fun st0 h0 => ?_
      refine awpJoin' (X := List (List Bool)) (x := (sub [1, 1, 1, 1, 2, 1, 0, 0, 1, 2, 0, 1, 0, 0, 1, 2] bd_ref10_Pairs)) (y := (sub [1, 1, 1, 1, 2, 1, 0, 0, 1, 2, 0, 1, 0, 0, 1, 1] bd_ref10_Pairs)) (by kernel_rfl) [2, 3, 5, 7, 8] [2, 3, 5, 7, 8] _ h0 (fun z => ref10_Pairs_J11 s_1 z = some lr2) (fun z => ST_ref10_Pairs_J11 a_ b_ round s_1 z) ?_ fun J11 hJ11 => ?_
      ·rintro in_5 hf2
       unfold ref10_Pairs_J11 at hf2
       obtain rfl := someE hf2
       exact awpBack X0 TTab_ok hC hm [2, 3, 5, 7, 8] 4000 [] J10 [(2, .own (.box (F20_ a_))), (3, .own (.box (F20_ b_))), (5, .own (eOs 1 false (eOs 1 true eB) in_5)), (7, .d (I round)), (8, .d (I (w64 (s_1 + 1))))] [] (by kernel_rfl) fun st0 h0 => hJ10 st0 _ ((in_5, w64 (s_1 + 1)), m10) hl2 (Nat.lt_succ_self m10) h0 inferInstance
      ·obtain ⟨t12, ht12, hf2⟩ := bindE hf2
       refine awpAt X0 TTab_ok hC hm [2, 3, 5, 7, 8, 9] 4000 [] (sub [1, 1, 1, 1, 2, 1, 0, 0, 1, 2, 0, 1, 0, 0, 1, 2, 0, 1, 0] bd_ref10_Pairs) (frs [1, 1, 1, 1, 2, 1, 0, 0, 1, 2, 0, 1, 0, 0, 1, 2, 0, 1, 0] [J2, J8, J9, J10, J11] bd_ref10_Pairs []) [(2, .own (.box (F20_ a_))), (3, .own (.box (F20_ b_))), (5, .own (eOs 1 false (eOs 1 true eB) in_4)), (7, .d (I round)), (8, .d (I s_1)), (9, .d (I 0))] [] (by kernel_rfl) fun st0 h0 => ?_
       refine awpLoop' (X := (List (List Bool) × Int) × Nat) (c' := (sub [1, 1, 1, 1, 2, 1, 0, 0, 1, 2, 0, 1, 0, 0, 1, 2, 0, 1, 0, 0] bd_ref10_Pairs)) (by kernel_rfl) [2, 3, 5, 7, 8, 9] (fun x => loopN (fun s => ref10_Pairs_L12 a_ b_ s_1 s.1 s.2) x.2 x.1 = some t12) (fun x => x.2) (fun x => ST_ref10_Pairs_L12 a_ b_ round s_1 x.1.1 x.1.2) ((in_4, 0), fuel) _ h0 inferInstance ht12 ?_
       rintro ⟨⟨in_6, t_1⟩, n12⟩ hn12 J12 hJ12
       obtain ⟨m12, lr3, rfl, hf3, hl3⟩ := loopE hn12
       try unfold ref10_Pairs_L12 at hf3
       have o10 := lnM F11_ b_.Rows
       rcases bifE hf3 with ⟨c5, hf3⟩ | ⟨c5, hf3⟩
       ·refine awpAt X0 TTab_ok hC hm [2, 3, 5, 7, 8, 9] 4000 [aLn b_.Rows.length, bT, .cut 0] (sub [1, 1, 1, 1, 2, 1, 0, 0, 1, 2, 0, 1, 0, 0, 1, 2, 0, 1, 0, 0, 1] bd_ref10_Pairs) (frs [1, 1, 1, 1, 2, 1, 0, 0, 1, 2, 0, 1, 0, 0, 1, 2, 0, 1, 0, 0, 1] [J2, J8, J9, J10, J11, J12] bd_ref10_Pairs []) [(2, .own (.box (F20_ a_))), (3, .own (.box (F20_ b_))), (5, .own (eOs 1 false (eOs 1 true eB) in_6)), (7, .d (I round)), (8, .d (I s_1)), (9, .d (I t_1))] [ob o10, ob c5] (by kernel_rfl) fun st0 h0 => ?_
        refine awpJoin' (X := List (List Bool)) (x := (sub [1, 1, 1, 1, 2, 1, 0, 0, 1, 2, 0, 1, 0, 0, 1, 2, 0, 1, 0, 0, 1, 2] bd_ref10_Pairs)) (y := (sub [1, 1, 1, 1, 2, 1, 0, 0, 1, 2, 0, 1, 0, 0, 1, 2, 0, 1, 0, 0, 1, 1] bd_ref10_Pairs)) (by kernel_rfl) [2, 3, 5, 7, 8, 9] [2, 3, 5, 7, 8, 9] _ h0 (fun z => ref10_Pairs_J13 t_1 z = some lr3) (fun z => ST_ref10_Pairs_J13 a_ b_ round s_1 t_1 z) ?_ fun J13 hJ13 => ?_
        ·rintro in_7 hf3
         unfold ref10_Pairs_J13 at hf3
         obtain rfl := someE hf3
         exact awpBack X0 TTab_ok hC hm [2, 3, 5, 7, 8, 9] 4000 [] J12 [(2, .own (.box (F20_ a_))), (3, .own (.box (F20_ b_))), (5, .own (eOs 1 false (eOs 1 true eB) in_7)), (7, .d (I round)), (8, .d (I s_1)), (9, .d (I (w64 (t_1 + 1))))] [] (by kernel_rfl) fun st0 h0 => hJ12 st0 _ ((in_7, w64 (t_1 + 1)), m12) hl3 (Nat.lt_succ_self m12) h0 inferInstance
        ·obtain ⟨t14, ht14, hf3⟩ := bindE hf3
         refine awpAt X0 TTab_ok hC hm [2, 3, 5, 7, 8, 9, 10] 4000 [] (sub [1, 1, 1, 1, 2, 1, 0, 0, 1, 2, 0, 1, 0, 0, 1, 2, 0, 1, 0, 0, 1, 2, 0, 1, 0] bd_ref10_Pairs) (frs [1, 1, 1, 1, 2, 1, 0, 0, 1, 2, 0, 1, 0, 0, 1, 2, 0, 1, 0, 0, 1, 2, 0, 1, 0] [J2, J8, J9, J10, J11, J12, J13] bd_ref10_Pairs []) [(2, .own (.box (F20_ a_))), (3, .own (.box (F20_ b_))), (5, .own (eOs 1 false (eOs 1 true eB) in_6)), (7, .d (I round)), (8, .d (I s_1)), (9, .d (I t_1)), (10, .d (I 0))] [] (by kernel_rfl) fun st0 h0 => ?_
         refine awpLoop' (X := (List (List Bool) × Int) × Nat) (c' := (sub [1, 1, 1, 1, 2, 1, 0, 0, 1, 2, 0, 1, 0, 0, 1, 2, 0, 1, 0, 0, 1, 2, 0, 1, 0, 0] bd_ref10_Pairs)) (by kernel_rfl) [2, 3, 5, 7, 8, 9, 10] (fun x => loopN (fun s => ref10_Pairs_L14 a_ b_ s_1 t_1 s.1 s.2) x.2 x.1 = some t14) (fun x => x.2) (fun x => ST_ref10_Pairs_L14 a_ b_ round s_1 t_1 x.1.1 x.1.2) ((in_6, 0), fuel) _ h0 inferInstance ht14 ?_
         rintro ⟨⟨in_8, i_⟩, n14⟩ hn14 J14 hJ14
         obtain ⟨m14, lr4, rfl, hf4, hl4⟩ := loopE hn14
         try unfold ref10_Pairs_L14 at hf4
         rcases bifE hf4 with ⟨c6, hf4⟩ | ⟨c6, hf4⟩
         ·obtain ⟨in__e2, h4, hf4⟩ := bindE hf4
          obtain ⟨in__e_e2, h5, hf4⟩ := bindE hf4
          rcases bifE hf4 with ⟨c7, hf4⟩ | ⟨c7, hf4⟩
          ·refine awpAt X0 TTab_ok hC hm [2, 3, 5, 7, 8, 9, 10, 64, 65, 68, 70] 4000 (rpN 4 bT [.a ((eOs 1 true eB) in__e2), bT, bT, .a ((eOs 1 true eB) in__e2), bT, .a ((eOs 1 true eB) in__e2), .a (eB in__e_e2), bT, bT, .cut 0]) (sub [1, 1, 1, 1, 2, 1, 0, 0, 1, 2, 0, 1, 0, 0, 1, 2, 0, 1, 0, 0, 1, 2, 0, 1, 0, 0, 1] bd_ref10_Pairs) (frs [1, 1, 1, 1, 2, 1, 0, 0, 1, 2, 0, 1, 0, 0, 1, 2, 0, 1, 0, 0, 1, 2, 0, 1, 0, 0, 1] [J2, J8, J9, J10, J11, J12, J13, J14] bd_ref10_Pairs []) [(2, .own (.box (F20_ a_))), (3, .own (.box (F20_ b_))), (5, .own (eOs 1 false (eOs 1 true eB) in_8)), (7, .d (I round)), (8, .d (I s_1)), (9, .d (I t_1)), (10, .d (I i_)), (64, .als 5 [] 0 0), (65, .d (I s_1)), (68, .d (I t_1)), (70, .d (B in__e_e2))] [ob c6, ob c6, ob c6, ob (iL (eOs 1 true eB) h4), ob c6, ob (iM (eOs 1 true eB) h4), ob c6, ob c6, ob (iM (eOs 1 true eB) h4), ob (iL eB h5), ob c6, ob (iM (eOs 1 true eB) h4), ob (iM eB h5), ob c6, ob c7] (by kernel_rfl) fun st0 h0 => ?_
           refine awpJoin' (X := List (List Bool)) (x := (sub [1, 1, 1, 1, 2, 1, 0, 0, 1, 2, 0, 1, 0, 0, 1, 2, 0, 1, 0, 0, 1, 2, 0, 1, 0, 0, 1, 2] bd_ref10_Pairs)) (y := (sub [1, 1, 1, 1, 2, 1, 0, 0, 1, 2, 0, 1, 0, 0, 1, 2, 0, 1, 0, 0, 1, 2, 0, 1, 0, 0, 1, 1] bd_ref10_Pairs)) (by kernel_rfl) [2, 3, 5, 7, 8, 9, 10, 65, 68, 70] [2, 3, 5, 7, 8, 9, 10, 64, 65, 68, 70] _ h0 (fun z => ref10_Pairs_J15 i_ z = some lr4) (fun z => ST_ref10_Pairs_J15 a_ b_ round s_1 t_1 i_ in__e_e2 z) ?_ fun J15 hJ15 => ?_
           ·rintro in_9 hf4
            unfold ref10_Pairs_J15 at hf4
            obtain rfl := someE hf4
            exact awpBack X0 TTab_ok hC hm [2, 3, 5, 7, 8, 9, 10] 4000 [] J14 [(2, .own (.box (F20_ a_))), (3, .own (.box (F20_ b_))), (5, .own (eOs 1 false (eOs 1 true eB) in_9)), (7, .d (I round)), (8, .d (I s_1)), (9, .d (I t_1)), (10, .d (I (w64 (i_ + 1))))] [] (by kernel_rfl) fun st0 h0 => hJ14 st0 _ ((in_9, w64 (i_ + 1)), m14) hl4 (Nat.lt_succ_self m14) h0 inferInstance
           ·obtain ⟨Row_e, h6, hf4⟩ := bindE hf4
            have o11 := iM F11_ h6
            obtain ⟨Row_e_e, h7, hf4⟩ := bindE hf4
            have o12 := iM F8_ h7
            obtain ⟨Row_e1, h8, hf4⟩ := bindE hf4
            have o13 := iM F11_ h8
            obtain ⟨Row_e_e1, h9, hf4⟩ := bindE hf4
            have o14 := iM F8_ h9
            rcases bifE hf4 with ⟨c8, hf4⟩ | ⟨c8, hf4⟩
            ·rcases bifE hf4 with ⟨c9, hf4⟩ | ⟨c9, hf4⟩
             ·obtain ⟨in__e3, h10, hf4⟩ := bindE hf4
              obtain ⟨in__e_e3, h11, hf4⟩ := bindE hf4
              have o15 := sM (eOs 1 true eB) in_8 Row_e_e.To (in__e3.set Row_e_e1.To.toNat true)
              exact awpBack X0 TTab_ok hC hm [2, 3, 5, 7, 8, 9, 10, 65, 68, 70] 4000 (.a (F11_ Row_e) :: .a (F8_ Row_e_e) :: .a (F11_ Row_e1) :: .a (F8_ Row_e_e1) :: (rpN 5 bT [.a ((eOs 1 true eB) in__e3), .a ((eOs 1 true eB) in__e3), .a ((eOs 1 true eB) in__e3), .a (eB in__e_e3), .a ((eOs 1 true eB) in__e3), .a (eB in__e_e3), .l ((in__e3.set Row_e_e1.To.toNat true).map eB), .l ((in_8.set Row_e_e.To.toNat (in__e3.set Row_e_e1.To.toNat true)).map (eOs 1 true eB))])) J15 [(2, .own (.box (F20_ a_))), (3, .own (.box (F20_ b_))), (5, .own (eOs 1 false (eOs 1 true eB) (in_8.set Row_e_e.To.toNat (in__e3.set Row_e_e1.To.toNat true)))), (7, .d (I round)), (8, .d (I s_1)), (9, .d (I t_1)), (10, .d (I i_)), (65, .d (I s_1)), (68, .d (I t_1)), (70, .d (B in__e_e2))] (ob (i0 h6) :: ob o11 :: ob (i0 h7) :: ob o12 :: ob (i0 h8) :: ob o13 :: ob (i0 h9) :: ob o14 :: (rpN 4 (ob c8) [ob c9, ob (iL (eOs 1 true eB) h10), ob (iM (eOs 1 true eB) h10), ob (iM (eOs 1 true eB) h10), ob (iL eB h11), ob (iM (eOs 1 true eB) h10), ob (iM eB h11), ob (iM (eOs 1 true eB) h10), ob (iM eB h11), ob (sM eB in__e3 Row_e_e1.To true), ob o15])) (by kernel_rfl) fun st0 h0 => hJ15 st0 _ (in_8.set Row_e_e.To.toNat (in__e3.set Row_e_e1.To.toNat true)) hf4 h0 inferInstance
             ·exact awpBack X0 TTab_ok hC hm [2, 3, 5, 7, 8, 9, 10, 65, 68, 70] 4000 (.a (F11_ Row_e) :: .a (F8_ Row_e_e) :: .a (F11_ Row_e1) :: .a (F8_ Row_e_e1) :: (rpN 4 bT [bF])) J15 [(2, .own (.box (F20_ a_))), (3, .own (.box (F20_ b_))), (5, .own (eOs 1 false (eOs 1 true eB) in_8)), (7, .d (I round)), (8, .d (I s_1)), (9, .d (I t_1)), (10, .d (I i_)), (65, .d (I s_1)), (68, .d (I t_1)), (70, .d (B in__e_e2))] (ob (i0 h6) :: ob o11 :: ob (i0 h7) :: ob o12 :: ob (i0 h8) :: ob o13 :: ob (i0 h9) :: ob o14 :: (rpN 4 (ob c8) [ob c9])) (by kernel_rfl) fun st0 h0 => hJ15 st0 _ in_8 hf4 h0 inferInstance
            ·exact awpBack X0 TTab_ok hC hm [2, 3, 5, 7, 8, 9, 10, 65, 68, 70] 4000 (.a (F11_ Row_e) :: .a (F8_ Row_e_e) :: .a (F11_ Row_e1) :: .a (F8_ Row_e_e1) :: (rpN 5 bF [])) J15 [(2, .own (.box (F20_ a_))), (3, .own (.box (F20_ b_))), (5, .own (eOs 1 false (eOs 1 true eB) in_8)), (7, .d (I round)), (8, .d (I s_1)), (9, .d (I t_1)), (10, .d (I i_)), (65, .d (I s_1)), (68, .d (I t_1)), (70, .d (B in__e_e2))] (ob (i0 h6) :: ob o11 :: ob (i0 h7) :: ob o12 :: ob (i0 h8) :: ob o13 :: ob (i0 h9) :: ob o14 :: (rpN 4 (ob c8) [oF])) (by kernel_rfl) fun st0 h0 => hJ15 st0 _ in_8 hf4 h0 inferInstance
          ·obtain rfl := someE hf4
           obtain rfl := hl4
           exact awpBack X0 TTab_ok hC hm [2, 3, 5, 7, 8, 9] 4000 (rpN 4 bT [.a ((eOs 1 true eB) in__e2), bT, bT, .a ((eOs 1 true eB) in__e2), bT, .a ((eOs 1 true eB) in__e2), .a (eB in__e_e2), bT, bF]) J13 [(2, .own (.box (F20_ a_))), (3, .own (.box (F20_ b_))), (5, .own (eOs 1 false (eOs 1 true eB) in_8)), (7, .d (I round)), (8, .d (I s_1)), (9, .d (I t_1))] [ob c6, ob c6, ob c6, ob (iL (eOs 1 true eB) h4), ob c6, ob (iM (eOs 1 true eB) h4), ob c6, ob c6, ob (iM (eOs 1 true eB) h4), ob (iL eB h5), ob c6, ob (iM (eOs 1 true eB) h4), ob (iM eB h5), ob c6, ob c7] (by kernel_rfl) fun st0 h0 => hJ13 st0 _ in_8 hf3 h0 inferInstance
         ·obtain rfl := someE hf4
          obtain rfl := hl4
          exact awpBack X0 TTab_ok hC hm [2, 3, 5, 7, 8, 9] 4000 (rpN 9 bF []) J13 [(2, .own (.box (F20_ a_))), (3, .own (.box (F20_ b_))), (5, .own (eOs 1 false (eOs 1 true eB) in_8)), (7, .d (I round)), (8, .d (I s_1)), (9, .d (I t_1))] (rpN 8 (ob c6) [oF]) (by kernel_rfl) fun st0 h0 => hJ13 st0 _ in_8 hf3 h0 inferInstance
       ·obtain rfl := someE hf3
        obtain rfl := hl3
        exact awpBack X0 TTab_ok hC hm [2, 3, 5, 7, 8] 4000 [aLn b_.Rows.length, bF] J11 [(2, .own (.box (F20_ a_))), (3, .own (.box (F20_ b_))), (5, .own (eOs 1 false (eOs 1 true eB) in_6)), (7, .d (I round)), (8, .d (I s_1))] [ob o10, ob c5] (by kernel_rfl) fun st0 h0 => hJ11 st0 _ in_6 hf2 h0 inferInstance
     ·obtain rfl := someE hf2
      obtain rfl := hl2
      exact awpBack X0 TTab_ok hC hm [2, 3, 5, 7] 4000 [aLn a_.Rows.length, bF] J9 [(2, .own (.box (F20_ a_))), (3, .own (.box (F20_ b_))), (5, .own (eOs 1 false (eOs 1 true eB) in_4)), (7, .d (I round))] [ob o9, ob c4] (by kernel_rfl) fun st0 h0 => hJ9 st0 _ in_4 hf1 h0 inferInstance
   ·obtain rfl := someE hf1
    obtain rfl := hl1
    exact awpBack X0 TTab_ok hC hm [2, 3, 5] 4000 [aLn a_.Rows.length, aLn b_.Rows.length, bF] J2 [(2, .own (.box (F20_ a_))), (3, .own (.box (F20_ b_))), (5, .own (eOs 1 false (eOs 1 true eB) in_2))] [ob o7, ob o8, ob c3] (by kernel_rfl) fun st0 h0 => hJ2 st0 _ in_2 hf0 h0 inferInstance
 ·obtain ⟨t16, ht16, hf0⟩ := bindE hf0
  refine awpAt X0 TTab_ok hC hm [2, 3, 5, 6] 4000 [] (sub [1, 1, 2, 1, 0] bd_ref10_Pairs) (frs [1, 1, 2, 1, 0] [J1] bd_ref10_Pairs []) [(2, .own (.box (F20_ a_))), (3, .own (.box (F20_ b_))), (5, .own (eOs 1 true (eOs 1 true eB) [])), (6, .d (I 0))] [] (by kernel_rfl) fun st0 h0 => ?_
  refine awpLoop' (X := (List (List Bool) × Int) × Nat) (c' := (sub [1, 1, 2, 1, 0, 0] bd_ref10_Pairs)) (by kernel_rfl) [2, 3, 5, 6] (fun x => loopN (fun s => ref10_Pairs_L16 a_ b_ s.1 s.2) x.2 x.1 = some t16) (fun x => x.2) (fun x => ST_ref10_Pairs_L16 a_ b_ x.1.1 x.1.2) ((([] : List (List Bool)), 0), fuel) _ h0 inferInstance ht16 ?_
  rintro ⟨⟨in_10, s_2⟩, n16⟩ hn16 J16 hJ16
  obtain ⟨m16, lr1, rfl, hf1, hl1⟩ := loopE hn16
  try unfold ref10_Pairs_L16 at hf1
  have o16 := lnM F11_ a_.Rows
  rcases bifE hf1 with ⟨c10, hf1⟩ | ⟨c10, hf1⟩
  ·have o17 := lnM F11_ b_.Rows
   obtain ⟨g1, hf1⟩ := gdE hf1
   have o18 := rM 1 eB ((b_.Rows.length : Nat) : Int) false
   have o19 := oC (eOs 1 true eB) (List.replicate ((b_.Rows.length : Nat) : Int).toNat false) []
   obtain ⟨g2, hf1⟩ := gdE hf1
   have o20 := aL (eOs 1 true eB) (eOs 1 true eB) g2
   have o21 := aM (eOs 1 true eB) in_10 ([(List.replicate ((b_.Rows.length : Nat) : Int).toNat false)] : List (List Bool))
   obtain rfl := someE hf1
   exact awpBack X0 TTab_ok hC hm [2, 3, 5, 6] 4000 [aLn a_.Rows.length, bT, aLn b_.Rows.length, .a (eOs 1 true eB (List.replicate ((b_.Rows.length : Nat) : Int).toNat false)), bF, .l ((in_10 ++ ([(List.replicate ((b_.Rows.length : Nat) : Int).toNat false)] : List (List Bool))).map (eOs 1 true eB))] J16 [(2, .own (.box (F20_ a_))), (3, .own (.box (F20_ b_))), (5, .own (eOs 1 false (eOs 1 true eB) (in_10 ++ ([(List.replicate ((b_.Rows.length : Nat) : Int).toNat false)] : List (List Bool))))), (6, .d (I (w64 (s_2 + 1))))] [ob o16, ob c10, ob o17, ob (rL g1), ob o18, ob o19, ob o20, ob o21] (by kernel_rfl) fun st0 h0 => hJ16 st0 _ (((in_10 ++ ([(List.replicate ((b_.Rows.length : Nat) : Int).toNat false)] : List (List Bool))), w64 (s_2 + 1)), m16) hl1 (Nat.lt_succ_self m16) h0 inferInstance
  ·obtain rfl := someE hf1
   obtain rfl := hl1
   exact awpBack X0 TTab_ok hC hm [2, 3, 5] 4000 [aLn a_.Rows.length, bF] J1 [(2, .own (.box (F20_ a_))), (3, .own (.box (F20_ b_))), (5, .own (eOs 1 false (eOs 1 true eB) in_10))] [ob o16, ob c10] (by kernel_rfl) fun st0 h0 => hJ1 st0 _ in_10 hf0 h0 inferInstance
noncomputable def bd_law10_pairs : Code := (Try.f43.body).getD .skip
noncomputable def sp_law10_pairs : Spec := spF (α := List (Arr2 Int) × List (Arr2 Int)) (ρ := Bool) 43 (fun x => [F5_ x.1, F6_ x.2]) (fun r => eB r) (fun x => law10_pairs x.1 x.2) [] (by
  rintro ⟨a0, a1⟩ ⟨b0, b1⟩ h
  simp only [List.cons.injEq, and_true] at h
  have e0 := EncI.inj (f := F5_) _ _ h.1
  have e1 := EncI.inj (f := F6_) _ _ h.2
  subst e0 e1
  rfl)
abbrev ST_law10_pairs_J1 : List (Nat × T) := []
abbrev ST_law10_pairs_L2 (a_ : List (Arr2 Int)) (b_ : List (Arr2 Int)) (k_ : Int) : List (Nat × T) := [(0, .d (eSl 2 true F0_ a_)), (1, .d (eSl 2 false F0_ b_)), (5, .d (I k_))]
theorem w_law10_pairs {ctr : Ctr} (hC : CtrOk Try.prog ctr) (hm : Try.prog.follows .mixedOrders = true) : sp_law10_pairs.Ok Try.prog := by
 refine spF_ok ?_
 rintro ⟨a_, b_⟩ r0 hf0
 try unfold law10_pairs at hf0
 refine callOk_h (tt := TTab) (keep := true) (rs := [(4, none)]) (n := ⟨33, []⟩) (body := bd_law10_pairs) TTab_ok Try.func43 rfl (by kernel_rfl) rfl rfl (by show (2 : Nat) ≤ 33; decide) fun E hE => ?_
 rcases bifE hf0 with ⟨c0, hf0⟩ | ⟨c0, hf0⟩
 ·obtain rfl := someE hf0
  exact awpEnd X0 TTab_ok hC hm hE 4000 (hs := (aLn a_.length :: aLn b_.length :: (rpN 7 bT []))) (x := (B false)) (ob (lnM F0_ a_) :: ob (lnM F0_ b_) :: (rpN 6 (ob c0) [oT])) (by kernel_rfl) (LeV.refl _)
 ·rcases bifE hf0 with ⟨c1, hf0⟩ | ⟨c1, hf0⟩
  ·obtain rfl := someE hf0
   exact awpEnd X0 TTab_ok hC hm hE 4000 (hs := [aLn a_.length, aLn b_.length, bF, bF, aLn a_.length, bF, bF, aLn a_.length, bF, bF, bT]) (x := (B false)) [ob (lnM F0_ a_), ob (lnM F0_ b_), ob c0, ob c0, ob (lnM F0_ a_), ob c0, ob c0, ob (lnM F0_ a_), ob c0, ob c0, ob c1] (by kernel_rfl) (LeV.refl _)
  ·refine awpAt X0 TTab_ok hC hm [0, 1] 4000 [aLn a_.length, aLn b_.length, bF, bF, aLn a_.length, bF, bF, aLn a_.length, bF, bF, bF, .cut 0] (sub [1, 1] bd_law10_pairs) (frs [1, 1] [] bd_law10_pairs []) [(0, .d (eSl 2 true F0_ a_)), (1, .d (eSl 2 false F0_ b_))] [ob (lnM F0_ a_), ob (lnM F0_ b_), ob c0, ob c0, ob (lnM F0_ a_), ob c0, ob c0, ob (lnM F0_ a_), ob c0, ob c0, ob c1] (by kernel_rfl) fun st0 h0 => ?_
   refine awpJoin' (X := Unit) (x := (sub [1, 1, 2] bd_law10_pairs)) (y := (sub [1, 1, 1] bd_law10_pairs)) (by kernel_rfl) [] [0, 1] _ h0 (fun z => law10_pairs_J1 = some r0) (fun z => ST_law10_pairs_J1) ?_ fun J1 hJ1 => ?_
   ·rintro ⟨⟩ hf0
    unfold law10_pairs_J1 at hf0
    obtain rfl := someE hf0
    exact awpEnd X0 TTab_ok hC hm hE 4000 (hs := []) (x := (B true)) [] (by kernel_rfl) (LeV.refl _)
   ·obtain ⟨t2, ht2, hf0⟩ := bindE hf0
    refine awpAt X0 TTab_ok hC hm [0, 1, 5] 4000 [] (sub [1, 1, 2, 1, 0] bd_law10_pairs) (frs [1, 1, 2, 1, 0] [J1] bd_law10_pairs []) [(0, .d (eSl 2 true F0_ a_)), (1, .d (eSl 2 false F0_ b_)), (5, .d (I 0))] [] (by kernel_rfl) fun st0 h0 => ?_
    refine awpLoop' (X := Int × Nat) (c' := (sub [1, 1, 2, 1, 0, 0] bd_law10_pairs)) (by kernel_rfl) [0, 1, 5] (fun x => loopN (fun s => law10_pairs_L2 a_ b_ s) x.2 x.1 = some t2) (fun x => x.2) (fun x => ST_law10_pairs_L2 a_ b_ x.1) (0, fuel) _ h0 inferInstance ht2 ?_
    rintro ⟨k_, n2⟩ hn2 J2 hJ2
    obtain ⟨m2, lr1, rfl, hf1, hl1⟩ := loopE hn2
    try unfold law10_pairs_L2 at hf1
    rcases bifE hf1 with ⟨c2, hf1⟩ | ⟨c2, hf1⟩
    ·obtain ⟨a__e, h0, hf1⟩ := bindE hf1
     obtain ⟨b__e, h1, hf1⟩ := bindE hf1
     rcases bifE hf1 with ⟨c3, hf1⟩ | ⟨c3, hf1⟩
     ·obtain rfl := someE hf1
      obtain rfl := hl1
      obtain rfl := someE hf0
      exact awpEnd X0 TTab_ok hC hm hE 4000 (hs := [aLn a_.length, bT, .a (F0_ a__e), .a (F0_ b__e), bT]) (x := (B false)) [ob (lnM F0_ a_), ob c2, ob (i0 h0), ob (iM F0_ h0), ob (i0 h1), ob (iM F0_ h1), ob c3] (by kernel_rfl) (LeV.refl _)
     ·obtain rfl := someE hf1
      exact awpBack X0 TTab_ok hC hm [0, 1, 5] 4000 [aLn a_.length, bT, .a (F0_ a__e), .a (F0_ b__e), bF] J2 [(0, .d (eSl 2 true F0_ a_)), (1, .d (eSl 2 false F0_ b_)), (5, .d (I (w64 (k_ + 1))))] [ob (lnM F0_ a_), ob c2, ob (i0 h0), ob (iM F0_ h0), ob (i0 h1), ob (iM F0_ h1), ob c3] (by kernel_rfl) fun st0 h0 => hJ2 st0 _ (w64 (k_ + 1), m2) hl1 (Nat.lt_succ_self m2) h0 inferInstance
    ·obtain rfl := someE hf1
     obtain rfl := hl1
     exact awpBack X0 TTab_ok hC hm [] 4000 [aLn a_.length, bF] J1 [] [ob (lnM F0_ a_), ob c2] (by kernel_rfl) fun st0 h0 => hJ1 st0 _ () hf0 h0 inferInstance
noncomputable def bd_equals_CheckRelation : Code := (Try.f45.body).getD .skip
noncomputable def sp_equals_CheckRelation : Spec := spF (α := S_api_Machine × S_api_Machine × List (Arr2 Int)) (ρ := Bool × Int) 45 (fun x => [F20_ x.1, F20_ x.2.1, F6_ x.2.2]) (fun r => .tup [eB r.1, (eI .i64) r.2]) (fun x => equals_CheckRelation x.1 x.2.1 x.2.2) [] (by
  rintro ⟨a0, a1, a2⟩ ⟨b0, b1, b2⟩ h
  simp only [List.cons.injEq, and_true] at h
  have e0 := EncI.inj (f := F20_) _ _ h.1
  have e1 := EncI.inj (f := F20_) _ _ h.2.1
  have e2 := EncI.inj (f := F6_) _ _ h.2.2
  subst e0 e1 e2
  rfl)
abbrev ST_equals_CheckRelation_J2 (is : Bool) : List (Nat × T) := [(12, .d (B is))]
abbrev ST_equals_CheckRelation_J4 (a_ : S_api_Machine) (b_ : S_api_Machine) (r_ : List (Arr2 Int)) (in_ : List ((Arr2 Int) × Bool)) (x64 : Int) (is2 : Bool) : List (Nat × T) := [(3, .own (.box (F20_ a_))), (4, .own (.box (F20_ b_))), (9, .own (.opq (mapQ (entL F0_ eB in_)))), (12, .d (B is2)), (62, .d (eSl 2 false F0_ r_)), (63, .d (I ((r_.length : Nat) : Int))), (64, .d (I x64))]
abbrev ST_equals_CheckRelation_L5 (a_ : S_api_Machine) (b_ : S_api_Machine) (r_ : List (Arr2 Int)) (in_ : List ((Arr2 Int) × Bool)) (x64 : Int) (r__e : Arr2 Int) (Row_e : List S_api_Edge) (is3 : Bool) (x75 : Int) : List (Nat × T) := [(3, .own (.box (F20_ a_))), (4, .own (.box (F20_ b_))), (9, .own (.opq (mapQ (entL F0_ eB in_)))), (12, .d (B is3)), (14, .own (.box (F0_ r__e))), (62, .d (eSl 2 false F0_ r_)), (63, .d (I ((r_.length : Nat) : Int))), (64, .d (I x64)), (73, .d (eSl 2 false F8_ Row_e)), (74, .d (I ((Row_e.length : Nat) : Int))), (75, .d (I x75))]
abbrev ST_equals_CheckRelation_L3 (a_ : S_api_Machine) (b_ : S_api_Machine) (r_ : List (Arr2 Int)) (in_ : List ((Arr2 Int) × Bool)) (is1 : Bool) (x64 : Int) : List (Nat × T) := [(3, .own (.box (F20_ a_))), (4, .own (.box (F20_ b_))), (9, .own (.opq (mapQ (entL F0_ eB in_)))), (12, .d (B is1)), (62, .d (eSl 2 false F0_ r_)), (63, .d (I ((r_.length : Nat) : Int))), (64, .d (I x64))]
abbrev ST_equals_CheckRelation_J1 (a_ : S_api_Machine) (b_ : S_api_Machine) (r_ : List (Arr2 Int)) (in_ : List ((Arr2 Int) × Bool)) : List (Nat × T) := [(2, .d (eSl 2 false F0_ r_)), (3, .own (.box (F20_ a_))), (4, .own (.box (F20_ b_))), (9, .own (.opq (mapQ (entL F0_ eB in_))))]
abbrev ST_equals_CheckRelation_L6 (a_ : S_api_Machine) (b_ : S_api_Machine) (r_ : List (Arr2 Int)) (in_1 : List ((Arr2 Int) × Bool)) (x30 : Int) : List (Nat × T) := [(2, .d (eSl 2 false F0_ r_)), (3, .own (.box (F20_ a_))), (4, .own (.box (F20_ b_))), (9, .own (.opq (mapQ (entL F0_ eB in_1)))), (28, .d (eSl 2 false F0_ r_)), (29, .d (I ((r_.length : Nat) : Int))), (30, .d (I x30))]
theorem w_equals_CheckRelation {ctr : Ctr} (hC : CtrOk Try.prog ctr) (hm : Try.prog.follows .mixedOrders = true) (h_equals_both : ctr.Has sp_equals_both) : sp_equals_CheckRelation.Ok Try.prog := by
 refine spF_ok ?_
 rintro ⟨a_, b_, r_⟩ r0 hf0
 try unfold equals_CheckRelation at hf0
 refine callOk_h (tt := TTab) (keep := false) (rs := [(6, none), (7, none)]) (n := ⟨114, []⟩) (body := bd_equals_CheckRelation) TTab_ok Try.func45 rfl (by kernel_rfl) rfl rfl (by show (3 : Nat) ≤ 114; decide) fun E hE => ?_
 obtain ⟨r_1, h0, hf0⟩ := bindE hf0
 have o0 := hasF h_equals_both (x := (a_, b_)) h0 (loC F20_ a_ <| loC F20_ b_ <| loN)
 rcases bifE hf0 with ⟨c0, hf0⟩ | ⟨c0, hf0⟩
 ·obtain rfl := someE hf0
  exact awpEnd X0 TTab_ok hC hm hE 4000 (hs := [.g [], .a ((eI .i64) r_1), bT]) (x := (.tup [B false, I r_1])) [ob (hasG h_equals_both), ob o0, ob c0] (by kernel_rfl) (LeV.refl _)
 ·rcases bifE hf0 with ⟨c1, hf0⟩ | ⟨c1, hf0⟩
  ·obtain rfl := someE hf0
   exact awpEnd X0 TTab_ok hC hm hE 4000 (hs := [.g [], .a ((eI .i64) r_1), bF, aLn r_.length, bT]) (x := (.tup [B false, I 3])) [ob (hasG h_equals_both), ob o0, ob c0, ob (lnM F0_ r_), ob c1] (by kernel_rfl) (LeV.refl _)
  ·refine awpAt ((xMake Try.prog 27).or X0) TTab_ok hC hm [2, 3, 4, 9] 4000 [.g [], .a ((eI .i64) r_1), bF, aLn r_.length, bF, .cut 1] (sub [1, 1, 1, 1] bd_equals_CheckRelation) (frs [1, 1, 1, 1] [] bd_equals_CheckRelation []) [(2, .d (eSl 2 false F0_ r_)), (3, .own (.box (F20_ a_))), (4, .own (.box (F20_ b_))), (9, .own (.opq (mapQ (entL F0_ eB ([] : List ((Arr2 Int) × Bool))))))] [ob (hasG h_equals_both), ob o0, ob c0, ob (lnM F0_ r_), ob c1] (by kernel_rfl) fun st0 h0 => ?_
   refine awpJoin' (X := List ((Arr2 Int) × Bool)) (x := (sub [1, 1, 1, 1, 2] bd_equals_CheckRelation)) (y := (sub [1, 1, 1, 1, 1] bd_equals_CheckRelation)) (by kernel_rfl) [2, 3, 4, 9] [2, 3, 4, 9] _ h0 (fun z => equals_CheckRelation_J1 a_ b_ r_ z = some r0) (fun z => ST_equals_CheckRelation_J1 a_ b_ r_ z) ?_ fun J1 hJ1 => ?_
   ·rintro in_ hf0
    unfold equals_CheckRelation_J1 at hf0
    have o1 := (⟨rfl, rfl, ent_ok (fun _ => rfl) in_⟩ : A.opq (mapQ (entL F0_ eB in_)) = A.opq (mapQ (entL F0_ eB in_)) ∧ (okAgg [.i64, .i64]) (F0_ (Arr2.mk 0 0)) = true ∧ ∀ p ∈ entL F0_ eB in_, (okAgg [.i64, .i64]) p.1 = true)
    obtain ⟨val, h1, hf0⟩ := bindE hf0
    replace h1 := someE h1
    have o2 := (get1 (f := F0_) (g := eB) (z0 := false) (z := .atom (.bool false)) rfl (Arr2.mk 0 0) in_).trans (congrArg eB h1)
    refine awpAt ((xLook mt_130 61 (entL F0_ eB in_)).or X0) TTab_ok hC hm [2, 3, 4, 9, 12] 4000 [.a (eB val), .cut 0] (sub [1, 1, 1, 1, 1, 1] bd_equals_CheckRelation) (frs [1, 1, 1, 1, 1, 1] [] bd_equals_CheckRelation []) [(2, .d (eSl 2 false F0_ r_)), (3, .own (.box (F20_ a_))), (4, .own (.box (F20_ b_))), (9, .own (.opq (mapQ (entL F0_ eB in_)))), (12, .d (B val))] [ob o1, ob o2] (by kernel_rfl) fun st0 h0 => ?_
    refine awpJoin' (X := Bool) (x := (sub [1, 1, 1, 1, 1, 1, 2] bd_equals_CheckRelation)) (y := (sub [1, 1, 1, 1, 1, 1, 1] bd_equals_CheckRelation)) (by kernel_rfl) [12] [2, 3, 4, 9, 12] _ h0 (fun z => equals_CheckRelation_J2 z = some r0) (fun z => ST_equals_CheckRelation_J2 z) ?_ fun J2 hJ2 => ?_
    ·rintro is hf0
     unfold equals_CheckRelation_J2 at hf0
     obtain rfl := someE hf0
     exact awpEnd X0 TTab_ok hC hm hE 4000 (hs := []) (x := (.tup [B is, I 0])) [] (by kernel_rfl) (LeV.refl _)
    ·obtain ⟨t3, ht3, hf0⟩ := bindE hf0
     refine awpAt X0 TTab_ok hC hm [3, 4, 9, 12, 62, 63, 64] 4000 [aLn r_.length] (sub [1, 1, 1, 1, 1, 1, 2, 1, 0] bd_equals_CheckRelation) (frs [1, 1, 1, 1, 1, 1, 2, 1, 0] [J2] bd_equals_CheckRelation []) [(3, .own (.box (F20_ a_))), (4, .own (.box (F20_ b_))), (9, .own (.opq (mapQ (entL F0_ eB in_)))), (12, .d (B val)), (62, .d (eSl 2 false F0_ r_)), (63, .d (I ((r_.length : Nat) : Int))), (64, .d (I 0))] [ob (lnM F0_ r_)] (by kernel_rfl) fun st0 h0 => ?_
     refine awpLoop' (X := (Bool × Int) × Nat) (c' := (sub [1, 1, 1, 1, 1, 1, 2, 1, 0, 0] bd_equals_CheckRelation)) (by kernel_rfl) [3, 4, 9, 12, 62, 63, 64] (fun x => loopN (fun s => equals_CheckRelation_L3 a_ b_ r_ in_ s.1 s.2) x.2 x.1 = some t3) (fun x => x.2) (fun x => ST_equals_CheckRelation_L3 a_ b_ r_ in_ x.1.1 x.1.2) ((val, 0), fuel) _ h0 inferInstance ht3 ?_
     rintro ⟨⟨is1, x64⟩, n3⟩ hn3 J3 hJ3
     obtain ⟨m3, lr1, rfl, hf1, hl1⟩ := loopE hn3
     try unfold equals_CheckRelation_L3 at hf1
     rcases bifE hf1 with ⟨c2, hf1⟩ | ⟨c2, hf1⟩
     ·refine awpAt X0 TTab_ok hC hm [3, 4, 9, 12, 62, 63, 64] 4000 [bT, .cut 0] (sub [1, 1, 1, 1, 1, 1, 2, 1, 0, 0, 1, 1] bd_equals_CheckRelation) (frs [1, 1, 1, 1, 1, 1, 2, 1, 0, 0, 1, 1] [J2, J3] bd_equals_CheckRelation []) [(3, .own (.box (F20_ a_))), (4, .own (.box (F20_ b_))), (9, .own (.opq (mapQ (entL F0_ eB in_)))), (12, .d (B is1)), (62, .d (eSl 2 false F0_ r_)), (63, .d (I ((r_.length : Nat) : Int))), (64, .d (I x64))] [ob c2] (by kernel_rfl) fun st0 h0 => ?_
      refine awpJoin' (X := Bool) (x := (sub [1, 1, 1, 1, 1, 1, 2, 1, 0, 0, 1, 1, 2] bd_equals_CheckRelation)) (y := (sub [1, 1, 1, 1, 1, 1, 2, 1, 0, 0, 1, 1, 1] bd_equals_CheckRelation)) (by kernel_rfl) [3, 4, 9, 12, 62, 63, 64] [3, 4, 9, 12, 62, 63, 64] _ h0 (fun z => equals_CheckRelation_J4 x64 z = some lr1) (fun z => ST_equals_CheckRelation_J4 a_ b_ r_ in_ x64 z) ?_ fun J4 hJ4 => ?_
      ·rintro is2 hf1
       unfold equals_CheckRelation_J4 at hf1
       obtain rfl := someE hf1
       exact awpBack X0 TTab_ok hC hm [3, 4, 9, 12, 62, 63, 64] 4000 [] J3 [(3, .own (.box (F20_ a_))), (4, .own (.box (F20_ b_))), (9, .own (.opq (mapQ (entL F0_ eB in_)))), (12, .d (B is2)), (62, .d (eSl 2 false F0_ r_)), (63, .d (I ((r_.length : Nat) : Int))), (64, .d (I (w64 (x64 + 1))))] [] (by kernel_rfl) fun st0 h0 => hJ3 st0 _ ((is2, w64 (x64 + 1)), m3) hl1 (Nat.lt_succ_self m3) h0 inferInstance
      ·obtain ⟨r__e, h2, hf1⟩ := bindE hf1
       have o3 := (⟨rfl, by decide⟩ : true = true ∧ 0 < 2)
       obtain ⟨Row_e, h3, hf1⟩ := bindE hf1
       have o4 := iM F11_ h3
       have o5 := lnM F8_ Row_e
       obtain ⟨t5, ht5, hf1⟩ := bindE hf1
       refine awpAt X0 TTab_ok hC hm [3, 4, 9, 12, 14, 62, 63, 64, 73, 74, 75] 4000 [.a (F0_ r__e), .a (F11_ Row_e), aLn Row_e.length] (sub [1, 1, 1, 1, 1, 1, 2, 1, 0, 0, 1, 1, 2, 0, 1, 1, 0] bd_equals_CheckRelation) (frs [1, 1, 1, 1, 1, 1, 2, 1, 0, 0, 1, 1, 2, 0, 1, 1, 0] [J2, J3, J4] bd_equals_CheckRelation []) [(3, .own (.box (F20_ a_))), (4, .own (.box (F20_ b_))), (9, .own (.opq (mapQ (entL F0_ eB in_)))), (12, .d (B is1)), (14, .own (.box (F0_ r__e))), (62, .d (eSl 2 false F0_ r_)), (63, .d (I ((r_.length : Nat) : Int))), (64, .d (I x64)), (73, .d (eSl 2 false F8_ Row_e)), (74, .d (I ((Row_e.length : Nat) : Int))), (75, .d (I 0))] [ob (i0 h2), ob (iM F0_ h2), ob o3, ob (i0 h3), ob o4, ob o5] (by kernel_rfl) fun st0 h0 => ?_
       refine awpLoop' (X := (Bool × Int) × Nat) (c' := (sub [1, 1, 1, 1, 1, 1, 2, 1, 0, 0, 1, 1, 2, 0, 1, 1, 0, 0] bd_equals_CheckRelation)) (by kernel_rfl) [3, 4, 9, 12, 14, 62, 63, 64, 73, 74, 75] (fun x => loopN (fun s => equals_CheckRelation_L5 b_ in_ r__e Row_e s.1 s.2) x.2 x.1 = some t5) (fun x => x.2) (fun x => ST_equals_CheckRelation_L5 a_ b_ r_ in_ x64 r__e Row_e x.1.1 x.1.2) ((is1, 0), fuel) _ h0 inferInstance ht5 ?_
       rintro ⟨⟨is3, x75⟩, n5⟩ hn5 J5 hJ5
       obtain ⟨m5, lr2, rfl, hf2, hl2⟩ := loopE hn5
       try unfold equals_CheckRelation_L5 at hf2
       rcases bifE hf2 with ⟨c3, hf2⟩ | ⟨c3, hf2⟩
       ·obtain ⟨Row_e_e, h4, hf2⟩ := bindE hf2
        have o6 := iM F8_ h4
        have o7 := (⟨rfl, by decide⟩ : true = true ∧ 1 < 2)
        obtain ⟨Row_e1, h5, hf2⟩ := bindE hf2
        have o8 := iM F11_ h5
        obtain ⟨Row_e_e1, h6, hf2⟩ := bindE hf2
        have o9 := iM F8_ h6
        rcases bifE hf2 with ⟨c4, hf2⟩ | ⟨c4, hf2⟩
        ·rcases bifE hf2 with ⟨c5, hf2⟩ | ⟨c5, hf2⟩
         ·rcases bifE hf2 with ⟨c6, hf2⟩ | ⟨c6, hf2⟩
          ·obtain rfl := someE hf2
           exact awpBack X0 TTab_ok hC hm [3, 4, 9, 12, 14, 62, 63, 64, 73, 74, 75] 4000 (bT :: .a (F8_ Row_e_e) :: .a (F11_ Row_e1) :: .a (F8_ Row_e_e1) :: (rpN 20 bT [])) J5 [(3, .own (.box (F20_ a_))), (4, .own (.box (F20_ b_))), (9, .own (.opq (mapQ (entL F0_ eB in_)))), (12, .d (B true)), (14, .own (.box (F0_ r__e))), (62, .d (eSl 2 false F0_ r_)), (63, .d (I ((r_.length : Nat) : Int))), (64, .d (I x64)), (73, .d (eSl 2 false F8_ Row_e)), (74, .d (I ((Row_e.length : Nat) : Int))), (75, .d (I (w64 (x75 + 1))))] (ob c3 :: ob (i0 h4) :: ob o6 :: ob o7 :: ob (i0 h5) :: ob o8 :: ob (i0 h6) :: ob o9 :: (rpN 6 (ob c4) (rpN 4 (ob c5) (rpN 7 (ob c6) [ob c5, ob c6, ob c5])))) (by kernel_rfl) fun st0 h0 => hJ5 st0 _ ((true, w64 (x75 + 1)), m5) hl2 (Nat.lt_succ_self m5) h0 inferInstance
          ·have o10 := (⟨rfl, rfl, ent_ok (fun _ => rfl) in_⟩ : A.opq (mapQ (entL F0_ eB in_)) = A.opq (mapQ (entL F0_ eB in_)) ∧ (okAgg [.i64, .i64]) (F0_ (Arr2.mk Row_e_e.To Row_e_e1.To)) = true ∧ ∀ p ∈ entL F0_ eB in_, (okAgg [.i64, .i64]) p.1 = true)
           obtain ⟨val1, h7, hf2⟩ := bindE hf2
           replace h7 := someE h7
           have o11 := (get1 (f := F0_) (g := eB) (z0 := false) (z := .atom (.bool false)) rfl (Arr2.mk Row_e_e.To Row_e_e1.To) in_).trans (congrArg eB h7)
           obtain rfl := someE hf2
           exact awpBack ((xLook mt_130 108 (entL F0_ eB in_)).or X0) TTab_ok hC hm [3, 4, 9, 12, 14, 62, 63, 64, 73, 74, 75] 4000 (bT :: .a (F8_ Row_e_e) :: .a (F11_ Row_e1) :: .a (F8_ Row_e_e1) :: (rpN 10 bT (rpN 7 bF [.a (eB val1), bT, bF, bT]))) J5 [(3, .own (.box (F20_ a_))), (4, .own (.box (F20_ b_))), (9, .own (.opq (mapQ (entL F0_ eB in_)))), (12, .d (B val1)), (14, .own (.box (F0_ r__e))), (62, .d (eSl 2 false F0_ r_)), (63, .d (I ((r_.length : Nat) : Int))), (64, .d (I x64)), (73, .d (eSl 2 false F8_ Row_e)), (74, .d (I ((Row_e.length : Nat) : Int))), (75, .d (I (w64 (x75 + 1))))] (ob c3 :: ob (i0 h4) :: ob o6 :: ob o7 :: ob (i0 h5) :: ob o8 :: ob (i0 h6) :: ob o9 :: (rpN 6 (ob c4) (rpN 4 (ob c5) (rpN 7 (ob c6) [ob o10, ob o11, ob c5, ob c6, ob c5])))) (by kernel_rfl) fun st0 h0 => hJ5 st0 _ ((val1, w64 (x75 + 1)), m5) hl2 (Nat.lt_succ_self m5) h0 inferInstance
         ·obtain rfl := someE hf2
          exact awpBack X0 TTab_ok hC hm [3, 4, 9, 12, 14, 62, 63, 64, 73, 74, 75] 4000 (bT :: .a (F8_ Row_e_e) :: .a (F11_ Row_e1) :: .a (F8_ Row_e_e1) :: (rpN 6 bT (rpN 6 bF []))) J5 [(3, .own (.box (F20_ a_))), (4, .own (.box (F20_ b_))), (9, .own (.opq (mapQ (entL F0_ eB in_)))), (12, .d (B false)), (14, .own (.box (F0_ r__e))), (62, .d (eSl 2 false F0_ r_)), (63, .d (I ((r_.length : Nat) : Int))), (64, .d (I x64)), (73, .d (eSl 2 false F8_ Row_e)), (74, .d (I ((Row_e.length : Nat) : Int))), (75, .d (I (w64 (x75 + 1))))] (ob c3 :: ob (i0 h4) :: ob o6 :: ob o7 :: ob (i0 h5) :: ob o8 :: ob (i0 h6) :: ob o9 :: (rpN 6 (ob c4) (rpN 6 (ob c5) []))) (by kernel_rfl) fun st0 h0 => hJ5 st0 _ ((false, w64 (x75 + 1)), m5) hl2 (Nat.lt_succ_self m5) h0 inferInstance
        ·obtain rfl := someE hf2
         exact awpBack X0 TTab_ok hC hm [3, 4, 9, 12, 14, 62, 63, 64, 73, 74, 75] 4000 (bT :: .a (F8_ Row_e_e) :: .a (F11_ Row_e1) :: .a (F8_ Row_e_e1) :: (rpN 12 bF [])) J5 [(3, .own (.box (F20_ a_))), (4, .own (.box (F20_ b_))), (9, .own (.opq (mapQ (entL F0_ eB in_)))), (12, .d (B false)), (14, .own (.box (F0_ r__e))), (62, .d (eSl 2 false F0_ r_)), (63, .d (I ((r_.length : Nat) : Int))), (64, .d (I x64)), (73, .d (eSl 2 false F8_ Row_e)), (74, .d (I ((Row_e.length : Nat) : Int))), (75, .d (I (w64 (x75 + 1))))] (ob c3 :: ob (i0 h4) :: ob o6 :: ob o7 :: ob (i0 h5) :: ob o8 :: ob (i0 h6) :: ob o9 :: (rpN 6 (ob c4) (rpN 6 oF []))) (by kernel_rfl) fun st0 h0 => hJ5 st0 _ ((false, w64 (x75 + 1)), m5) hl2 (Nat.lt_succ_self m5) h0 inferInstance
       ·obtain rfl := someE hf2
        obtain rfl := hl2
        exact awpBack X0 TTab_ok hC hm [3, 4, 9, 12, 62, 63, 64] 4000 [bF] J4 [(3, .own (.box (F20_ a_))), (4, .own (.box (F20_ b_))), (9, .own (.opq (mapQ (entL F0_ eB in_)))), (12, .d (B is3)), (62, .d (eSl 2 false F0_ r_)), (63, .d (I ((r_.length : Nat) : Int))), (64, .d (I x64))] [ob c3] (by kernel_rfl) fun st0 h0 => hJ4 st0 _ is3 hf1 h0 inferInstance
     ·obtain rfl := someE hf1
      obtain rfl := hl1
      exact awpBack X0 TTab_ok hC hm [12] 4000 [bF] J2 [(12, .d (B is1))] [ob c2] (by kernel_rfl) fun st0 h0 => hJ2 st0 _ is1 hf0 h0 inferInstance
   ·obtain ⟨t6, ht6, hf0⟩ := bindE hf0
    refine awpAt X0 TTab_ok hC hm [2, 3, 4, 9, 28, 29, 30] 4000 [aLn r_.length] (sub [1, 1, 1, 1, 2, 1, 0] bd_equals_CheckRelation) (frs [1, 1, 1, 1, 2, 1, 0] [J1] bd_equals_CheckRelation []) [(2, .d (eSl 2 false F0_ r_)), (3, .own (.box (F20_ a_))), (4, .own (.box (F20_ b_))), (9, .own (.opq (mapQ (entL F0_ eB ([] : List ((Arr2 Int) × Bool)))))), (28, .d (eSl 2 false F0_ r_)), (29, .d (I ((r_.length : Nat) : Int))), (30, .d (I 0))] [ob (lnM F0_ r_)] (by kernel_rfl) fun st0 h0 => ?_
    refine awpLoop' (X := ((List ((Arr2 Int) × Bool)) × Int) × Nat) (c' := (sub [1, 1, 1, 1, 2, 1, 0, 0] bd_equals_CheckRelation)) (by kernel_rfl) [2, 3, 4, 9, 28, 29, 30] (fun x => loopN (fun s => equals_CheckRelation_L6 a_ b_ r_ s.1 s.2) x.2 x.1 = some t6) (fun x => x.2) (fun x => ST_equals_CheckRelation_L6 a_ b_ r_ x.1.1 x.1.2) ((([] : List ((Arr2 Int) × Bool)), 0), fuel) _ h0 inferInstance ht6 ?_
    rintro ⟨⟨in_1, x30⟩, n6⟩ hn6 J6 hJ6
    obtain ⟨m6, lr1, rfl, hf1, hl1⟩ := loopE hn6
    try unfold equals_CheckRelation_L6 at hf1
    rcases bifE hf1 with ⟨c7, hf1⟩ | ⟨c7, hf1⟩
    ·obtain ⟨r__e1, h8, hf1⟩ := bindE hf1
     have o12 := (⟨rfl, by decide⟩ : true = true ∧ 0 < 2)
     have o13 := (⟨rfl, by decide⟩ : true = true ∧ 1 < 2)
     rcases bifE hf1 with ⟨c8, hf1⟩ | ⟨c8, hf1⟩
     ·obtain rfl := someE hf1
      obtain rfl := hl1
      obtain rfl := someE hf0
      exact awpEnd X0 TTab_ok hC hm hE 4000 (hs := (bT :: .a (F0_ r__e1) :: (rpN 15 bT []))) (x := (.tup [B false, I 1])) (ob c7 :: ob (i0 h8) :: ob (iM F0_ h8) :: ob o12 :: ob o13 :: (rpN 7 (ob c8) (rpN 8 oT []))) (by kernel_rfl) (LeV.refl _)
     ·have o14 := (⟨rfl, by decide⟩ : true = true ∧ 0 < 2)
      have o15 := lnM F11_ a_.Rows
      rcases bifE hf1 with ⟨c9, hf1⟩ | ⟨c9, hf1⟩
      ·obtain rfl := someE hf1
       obtain rfl := hl1
       obtain rfl := someE hf0
       exact awpEnd X0 TTab_ok hC hm hE 4000 (hs := (bT :: .a (F0_ r__e1) :: (rpN 5 bF (aLn a_.Rows.length :: bF :: bF :: (rpN 8 bT []))))) (x := (.tup [B false, I 1])) (ob c7 :: ob (i0 h8) :: ob (iM F0_ h8) :: ob o12 :: ob o13 :: ob c8 :: ob o14 :: (rpN 4 (ob c8) (ob o15 :: ob c8 :: ob c8 :: (rpN 7 (ob c9) [oT])))) (by kernel_rfl) (LeV.refl _)
      ·have o16 := (⟨rfl, by decide⟩ : true = true ∧ 1 < 2)
       have o17 := lnM F11_ b_.Rows
       rcases bifE hf1 with ⟨c10, hf1⟩ | ⟨c10, hf1⟩
       ·obtain rfl := someE hf1
        obtain rfl := hl1
        obtain rfl := someE hf0
        exact awpEnd X0 TTab_ok hC hm hE 4000 (hs := (bT :: .a (F0_ r__e1) :: (rpN 5 bF (aLn a_.Rows.length :: (rpN 7 bF [aLn b_.Rows.length, bF, bF, bT]))))) (x := (.tup [B false, I 1])) (ob c7 :: ob (i0 h8) :: ob (iM F0_ h8) :: ob o12 :: ob o13 :: ob c8 :: ob o14 :: (rpN 4 (ob c8) (ob o15 :: ob c8 :: ob c8 :: ob c9 :: ob o16 :: (rpN 4 (ob c9) [ob o17, ob c9, ob c9, ob c10])))) (by kernel_rfl) (LeV.refl _)
       ·have o18 := (⟨rfl, rfl, rfl, rfl, ent_ok (fun _ => rfl) in_1⟩ : T.own (.opq (mapQ (entL F0_ eB in_1))) = T.own (.opq (mapQ (entL F0_ eB in_1))) ∧ 0 = 0 ∧ (okAgg [.i64, .i64]) (F0_ r__e1) = true ∧ (eB true).isD = true ∧ ∀ p ∈ entL F0_ eB in_1, (okAgg [.i64, .i64]) p.1 = true)
        have o19 := put_set (f := F0_) (g := eB) r__e1 true in_1
        obtain rfl := someE hf1
        exact awpBack ((xUpd mt_130 56 (entL F0_ eB in_1) (entL F0_ eB (mset in_1 r__e1 true))).or X0) TTab_ok hC hm [2, 3, 4, 9, 28, 29, 30] 4000 (bT :: .a (F0_ r__e1) :: (rpN 5 bF (aLn a_.Rows.length :: (rpN 7 bF [aLn b_.Rows.length, bF, bF, bF])))) J6 [(2, .d (eSl 2 false F0_ r_)), (3, .own (.box (F20_ a_))), (4, .own (.box (F20_ b_))), (9, .own (.opq (mapQ (entL F0_ eB (mset in_1 r__e1 true))))), (28, .d (eSl 2 false F0_ r_)), (29, .d (I ((r_.length : Nat) : Int))), (30, .d (I (w64 (x30 + 1))))] (ob c7 :: ob (i0 h8) :: ob (iM F0_ h8) :: ob o12 :: ob o13 :: ob c8 :: ob o14 :: (rpN 4 (ob c8) (ob o15 :: ob c8 :: ob c8 :: ob c9 :: ob o16 :: (rpN 4 (ob c9) [ob o17, ob c9, ob c9, ob c10, ob o18, ob o19])))) (by kernel_rfl) fun st0 h0 => hJ6 st0 _ (((mset in_1 r__e1 true), w64 (x30 + 1)), m6) hl1 (Nat.lt_succ_self m6) h0 inferInstance
    ·obtain rfl := someE hf1
     obtain rfl := hl1
     exact awpBack X0 TTab_ok hC hm [2, 3, 4, 9] 4000 [bF] J1 [(2, .d (eSl 2 false F0_ r_)), (3, .own (.box (F20_ a_))), (4, .own (.box (F20_ b_))), (9, .own (.opq (mapQ (entL F0_ eB in_1))))] [ob c7] (by kernel_rfl) fun st0 h0 => hJ1 st0 _ in_1 hf0 h0 inferInstance
noncomputable def bd_ref10_In : Code := (Try.f82.body).getD .skip
noncomputable def sp_ref10_In : Spec := spF (α := List (Arr2 Int) × Arr2 Int) (ρ := Int) 82 (fun x => [F6_ x.1, F0_ x.2]) (fun r => (eI .i64) r) (fun x => ref10_In x.1 x.2) [] (by
  rintro ⟨a0, a1⟩ ⟨b0, b1⟩ h
  simp only [List.cons.injEq, and_true] at h
  have e0 := EncI.inj (f := F6_) _ _ h.1
  have e1 := EncI.inj (f := F0_) _ _ h.2
  subst e0 e1
  rfl)
abbrev ST_ref10_In_J1 : List (Nat × T) := []
abbrev ST_ref10_In_L2 (l_ : List (Arr2 Int)) (p_ : Arr2 Int) (k_ : Int) : List (Nat × T) := [(0, .d (eSl 2 false F0_ l_)), (3, .own (.box (F0_ p_))), (5, .d (I k_))]
theorem w_ref10_In {ctr : Ctr} (hC : CtrOk Try.prog ctr) (hm : Try.prog.follows .mixedOrders = true) : sp_ref10_In.Ok Try.prog := by
 refine spF_ok ?_
 rintro ⟨l_, p_⟩ r0 hf0
 try unfold ref10_In at hf0
 refine callOk_h (tt := TTab) (keep := true) (rs := [(4, none)]) (n := ⟨18, []⟩) (body := bd_ref10_In) TTab_ok Try.func82 rfl (by kernel_rfl) rfl rfl (by show (2 : Nat) ≤ 18; decide) fun E hE => ?_
 refine awpAt X0 TTab_ok hC hm [0, 3] 4000 [.cut 1] (sub [1] bd_ref10_In) (frs [1] [] bd_ref10_In []) [(0, .d (eSl 2 false F0_ l_)), (3, .own (.box (F0_ p_)))] [] (by kernel_rfl) fun st0 h0 => ?_
 refine awpJoin' (X := Unit) (x := (sub [1, 2] bd_ref10_In)) (y := (sub [1, 1] bd_ref10_In)) (by kernel_rfl) [] [0, 3] _ h0 (fun z => ref10_In_J1 = some r0) (fun z => ST_ref10_In_J1) ?_ fun J1 hJ1 => ?_
 ·rintro ⟨⟩ hf0
  unfold ref10_In_J1 at hf0
  obtain rfl := someE hf0
  exact awpEnd X0 TTab_ok hC hm hE 4000 (hs := []) (x := (I 0)) [] (by kernel_rfl) (LeV.refl _)
 ·obtain ⟨t2, ht2, hf0⟩ := bindE hf0
  refine awpAt X0 TTab_ok hC hm [0, 3, 5] 4000 [] (sub [1, 2, 1, 0] bd_ref10_In) (frs [1, 2, 1, 0] [J1] bd_ref10_In []) [(0, .d (eSl 2 false F0_ l_)), (3, .own (.box (F0_ p_))), (5, .d (I 0))] [] (by kernel_rfl) fun st0 h0 => ?_
  refine awpLoop' (X := Int × Nat) (c' := (sub [1, 2, 1, 0, 0] bd_ref10_In)) (by kernel_rfl) [0, 3, 5] (fun x => loopN (fun s => ref10_In_L2 l_ p_ s) x.2 x.1 = some t2) (fun x => x.2) (fun x => ST_ref10_In_L2 l_ p_ x.1) (0, fuel) _ h0 inferInstance ht2 ?_
  rintro ⟨k_, n2⟩ hn2 J2 hJ2
  obtain ⟨m2, lr1, rfl, hf1, hl1⟩ := loopE hn2
  try unfold ref10_In_L2 at hf1
  rcases bifE hf1 with ⟨c0, hf1⟩ | ⟨c0, hf1⟩
  ·obtain ⟨l__e, h0, hf1⟩ := bindE hf1
   rcases bifE hf1 with ⟨c1, hf1⟩ | ⟨c1, hf1⟩
   ·obtain rfl := someE hf1
    obtain rfl := hl1
    obtain rfl := someE hf0
    exact awpEnd X0 TTab_ok hC hm hE 4000 (hs := [aLn l_.length, bT, .a (F0_ l__e), bT]) (x := (I 1)) [ob (lnM F0_ l_), ob c0, ob (i0 h0), ob (iM F0_ h0), ob c1] (by kernel_rfl) (LeV.refl _)
   ·obtain rfl := someE hf1
    exact awpBack X0 TTab_ok hC hm [0, 3, 5] 4000 [aLn l_.length, bT, .a (F0_ l__e), bF] J2 [(0, .d (eSl 2 false F0_ l_)), (3, .own (.box (F0_ p_))), (5, .d (I (w64 (k_ + 1))))] [ob (lnM F0_ l_), ob c0, ob (i0 h0), ob (iM F0_ h0), ob c1] (by kernel_rfl) fun st0 h0 => hJ2 st0 _ (w64 (k_ + 1), m2) hl1 (Nat.lt_succ_self m2) h0 inferInstance
  ·obtain rfl := someE hf1
   obtain rfl := hl1
   exact awpBack X0 TTab_ok hC hm [] 4000 [aLn l_.length, bF] J1 [] [ob (lnM F0_ l_), ob c0] (by kernel_rfl) fun st0 h0 => hJ1 st0 _ () hf0 h0 inferInstance
noncomputable def bd_ref10_Certifies : Code := (Try.f46.body).getD .skip
noncomputable def sp_ref10_Certifies : Spec := spF (α := S_api_Machine × S_api_Machine × List (Arr2 Int)) (ρ := Int) 46 (fun x => [F20_ x.1, F20_ x.2.1, F6_ x.2.2]) (fun r => (eI .i64) r) (fun x => ref10_Certifies x.1 x.2.1 x.2.2) [] (by
  rintro ⟨a0, a1, a2⟩ ⟨b0, b1, b2⟩ h
  simp only [List.cons.injEq, and_true] at h
  have e0 := EncI.inj (f := F20_) _ _ h.1
  have e1 := EncI.inj (f := F20_) _ _ h.2.1
  have e2 := EncI.inj (f := F6_) _ _ h.2.2
  subst e0 e1 e2
  rfl)
abbrev ST_ref10_Certifies_J1 : List (Nat × T) := []
abbrev ST_ref10_Certifies_J3 (a_ : S_api_Machine) (b_ : S_api_Machine) (r_ : List (Arr2 Int)) (k_ : Int) : List (Nat × T) := [(2, .d (eSl 2 false F0_ r_)), (3, .own (.box (F20_ a_))), (4, .own (.box (F20_ b_))), (7, .d (I k_))]
abbrev ST_ref10_Certifies_J5 (a_ : S_api_Machine) (b_ : S_api_Machine) (r_ : List (Arr2 Int)) (k_ : Int) (i_ : Int) (x58 : Int) (x59 : Bool) (x60 : Bool) (x69 : Bool) : List (Nat × T) := [(2, .d (eSl 2 false F0_ r_)), (3, .own (.box (F20_ a_))), (4, .own (.box (F20_ b_))), (7, .d (I k_)), (8, .d (I i_)), (58, .d (I x58)), (59, .d (B x59)), (60, .d (B x60)), (69, .d (B x69))]
abbrev ST_ref10_Certifies_L4 (a_ : S_api_Machine) (b_ : S_api_Machine) (r_ : List (Arr2 Int)) (k_ : Int) (i_ : Int) : List (Nat × T) := [(2, .d (eSl 2 false F0_ r_)), (3, .own (.box (F20_ a_))), (4, .own (.box (F20_ b_))), (7, .d (I k_)), (8, .d (I i_))]
abbrev ST_ref10_Certifies_L2 (a_ : S_api_Machine) (b_ : S_api_Machine) (r_ : List (Arr2 Int)) (k_ : Int) : List (Nat × T) := [(2, .d (eSl 2 false F0_ r_)), (3, .own (.box (F20_ a_))), (4, .own (.box (F20_ b_))), (7, .d (I k_))]
theorem w_ref10_Certifies {ctr : Ctr} (hC : CtrOk Try.prog ctr) (hm : Try.prog.follows .mixedOrders = true) (h_ref10_In : ctr.Has sp_ref10_In) : sp_ref10_Certifies.Ok Try.prog := by
 refine spF_ok ?_
 rintro ⟨a_, b_, r_⟩ r0 hf0
 try unfold ref10_Certifies at hf0
 refine callOk_h (tt := TTab) (keep := true) (rs := [(6, none)]) (n := ⟨71, []⟩) (body := bd_ref10_Certifies) TTab_ok Try.func46 rfl (by kernel_rfl) rfl rfl (by show (3 : Nat) ≤ 71; decide) fun E hE => ?_
 obtain ⟨r_1, h0, hf0⟩ := bindE hf0
 have o0 := hasF h_ref10_In (x := (r_, (Arr2.mk 0 0))) h0 (loC F6_ r_ <| loC F0_ (Arr2.mk 0 0) <| loN)
 rcases bifE hf0 with ⟨c0, hf0⟩ | ⟨c0, hf0⟩
 ·obtain rfl := someE hf0
  exact awpEnd X0 TTab_ok hC hm hE 4000 (hs := [.g [], .a ((eI .i64) r_1), bT]) (x := (I 0)) [ob (hasG h_ref10_In), ob o0, ob c0] (by kernel_rfl) (LeV.refl _)
 ·refine awpAt X0 TTab_ok hC hm [2, 3, 4] 4000 [.g [], .a ((eI .i64) r_1), bF, .cut 0] (sub [1, 1] bd_ref10_Certifies) (frs [1, 1] [] bd_ref10_Certifies []) [(2, .d (eSl 2 false F0_ r_)), (3, .own (.box (F20_ a_))), (4, .own (.box (F20_ b_)))] [ob (hasG h_ref10_In), ob o0, ob c0] (by kernel_rfl) fun st0 h0 => ?_
  refine awpJoin' (X := Unit) (x := (sub [1, 1, 2] bd_ref10_Certifies)) (y := (sub [1, 1, 1] bd_ref10_Certifies)) (by kernel_rfl) [] [2, 3, 4] _ h0 (fun z => ref10_Certifies_J1 = some r0) (fun z => ST_ref10_Certifies_J1) ?_ fun J1 hJ1 => ?_
  ·rintro ⟨⟩ hf0
   unfold ref10_Certifies_J1 at hf0
   obtain rfl := someE hf0
   exact awpEnd X0 TTab_ok hC hm hE 4000 (hs := []) (x := (I 1)) [] (by kernel_rfl) (LeV.refl _)
  ·obtain ⟨t2, ht2, hf0⟩ := bindE hf0
   refine awpAt X0 TTab_ok hC hm [2, 3, 4, 7] 4000 [] (sub [1, 1, 2, 1, 0] bd_ref10_Certifies) (frs [1, 1, 2, 1, 0] [J1] bd_ref10_Certifies []) [(2, .d (eSl 2 false F0_ r_)), (3, .own (.box (F20_ a_))), (4, .own (.box (F20_ b_))), (7, .d (I 0))] [] (by kernel_rfl) fun st0 h0 => ?_
   refine awpLoop' (X := Int × Nat) (c' := (sub [1, 1, 2, 1, 0, 0] bd_ref10_Certifies)) (by kernel_rfl) [2, 3, 4, 7] (fun x => loopN (fun s => ref10_Certifies_L2 a_ b_ r_ s) x.2 x.1 = some t2) (fun x => x.2) (fun x => ST_ref10_Certifies_L2 a_ b_ r_ x.1) (0, fuel) _ h0 inferInstance ht2 ?_
   rintro ⟨k_, n2⟩ hn2 J2 hJ2
   obtain ⟨m2, lr1, rfl, hf1, hl1⟩ := loopE hn2
   try unfold ref10_Certifies_L2 at hf1
   rcases bifE hf1 with ⟨c1, hf1⟩ | ⟨c1, hf1⟩
   ·refine awpAt X0 TTab_ok hC hm [2, 3, 4, 7] 4000 [aLn r_.length, bT, .cut 0] (sub [1, 1, 2, 1, 0, 0, 1] bd_ref10_Certifies) (frs [1, 1, 2, 1, 0, 0, 1] [J1, J2] bd_ref10_Certifies []) [(2, .d (eSl 2 false F0_ r_)), (3, .own (.box (F20_ a_))), (4, .own (.box (F20_ b_))), (7, .d (I k_))] [ob (lnM F0_ r_), ob c1] (by kernel_rfl) fun st0 h0 => ?_
    refine awpJoin' (X := Unit) (x := (sub [1, 1, 2, 1, 0, 0, 1, 2] bd_ref10_Certifies)) (y := (sub [1, 1, 2, 1, 0, 0, 1, 1] bd_ref10_Certifies)) (by kernel_rfl) [2, 3, 4, 7] [2, 3, 4, 7] _ h0 (fun z => ref10_Certifies_J3 k_ = some lr1) (fun z => ST_ref10_Certifies_J3 a_ b_ r_ k_) ?_ fun J3 hJ3 => ?_
    ·rintro ⟨⟩ hf1
     unfold ref10_Certifies_J3 at hf1
     obtain rfl := someE hf1
     exact awpBack X0 TTab_ok hC hm [2, 3, 4, 7] 4000 [] J2 [(2, .d (eSl 2 false F0_ r_)), (3, .own (.box (F20_ a_))), (4, .own (.box (F20_ b_))), (7, .d (I (w64 (k_ + 1))))] [] (by kernel_rfl) fun st0 h0 => hJ2 st0 _ (w64 (k_ + 1), m2) hl1 (Nat.lt_succ_self m2) h0 inferInstance
    ·obtain ⟨t4, ht4, hf1⟩ := bindE hf1
     refine awpAt X0 TTab_ok hC hm [2, 3, 4, 7, 8] 4000 [] (sub [1, 1, 2, 1, 0, 0, 1, 2, 0, 1, 0] bd_ref10_Certifies) (frs [1, 1, 2, 1, 0, 0, 1, 2, 0, 1, 0] [J1, J2, J3] bd_ref10_Certifies []) [(2, .d (eSl 2 false F0_ r_)), (3, .own (.box (F20_ a_))), (4, .own (.box (F20_ b_))), (7, .d (I k_)), (8, .d (I 0))] [] (by kernel_rfl) fun st0 h0 => ?_
     refine awpLoop' (X := Int × Nat) (c' := (sub [1, 1, 2, 1, 0, 0, 1, 2, 0, 1, 0, 0] bd_ref10_Certifies)) (by kernel_rfl) [2, 3, 4, 7, 8] (fun x => loopN (fun s => ref10_Certifies_L4 a_ b_ r_ k_ s) x.2 x.1 = some t4) (fun x => x.2) (fun x => ST_ref10_Certifies_L4 a_ b_ r_ k_ x.1) (0, fuel) _ h0 inferInstance ht4 ?_
     rintro ⟨i_, n4⟩ hn4 J4 hJ4
     obtain ⟨m4, lr2, rfl, hf2, hl2⟩ := loopE hn4
     try unfold ref10_Certifies_L4 at hf2
     rcases bifE hf2 with ⟨c2, hf2⟩ | ⟨c2, hf2⟩
     ·refine awpAt X0 TTab_ok hC hm [2, 3, 4, 7, 8] 4000 [bT, .cut 0] (sub [1, 1, 2, 1, 0, 0, 1, 2, 0, 1, 0, 0, 1] bd_ref10_Certifies) (frs [1, 1, 2, 1, 0, 0, 1, 2, 0, 1, 0, 0, 1] [J1, J2, J3, J4] bd_ref10_Certifies []) [(2, .d (eSl 2 false F0_ r_)), (3, .own (.box (F20_ a_))), (4, .own (.box (F20_ b_))), (7, .d (I k_)), (8, .d (I i_))] [ob c2] (by kernel_rfl) fun st0 h0 => ?_
      refine awpJoin' (X := Int × Bool × Bool × Bool) (x := (sub [1, 1, 2, 1, 0, 0, 1, 2, 0, 1, 0, 0, 1, 2] bd_ref10_Certifies)) (y := (sub [1, 1, 2, 1, 0, 0, 1, 2, 0, 1, 0, 0, 1, 1] bd_ref10_Certifies)) (by kernel_rfl) [2, 3, 4, 7, 8, 58, 59, 60, 69] [2, 3, 4, 7, 8] _ h0 (fun z => ref10_Certifies_J5 i_ z.1 z.2.1 z.2.2.1 z.2.2.2 = some lr2) (fun z => ST_ref10_Certifies_J5 a_ b_ r_ k_ i_ z.1 z.2.1 z.2.2.1 z.2.2.2) ?_ fun J5 hJ5 => ?_
      ·rintro ⟨x58, x59, x60, x69⟩ hf2
       unfold ref10_Certifies_J5 at hf2
       obtain rfl := someE hf2
       exact awpBack X0 TTab_ok hC hm [2, 3, 4, 7, 8] 4000 [] J4 [(2, .d (eSl 2 false F0_ r_)), (3, .own (.box (F20_ a_))), (4, .own (.box (F20_ b_))), (7, .d (I k_)), (8, .d (I (w64 (i_ + 1))))] [] (by kernel_rfl) fun st0 h0 => hJ4 st0 _ (w64 (i_ + 1), m4) hl2 (Nat.lt_succ_self m4) h0 inferInstance
      ·obtain ⟨r__e, h1, hf2⟩ := bindE hf2
       obtain ⟨Row_e, h2, hf2⟩ := bindE hf2
       have o1 := iM F11_ h2
       obtain ⟨Row_e_e, h3, hf2⟩ := bindE hf2
       have o2 := iM F8_ h3
       obtain ⟨r__e1, h4, hf2⟩ := bindE hf2
       obtain ⟨Row_e1, h5, hf2⟩ := bindE hf2
       have o3 := iM F11_ h5
       obtain ⟨Row_e_e1, h6, hf2⟩ := bindE hf2
       have o4 := iM F8_ h6
       rcases bifE hf2 with ⟨c3, hf2⟩ | ⟨c3, hf2⟩
       ·obtain rfl := someE hf2
        obtain rfl := hl2
        obtain rfl := someE hf1
        obtain rfl := hl1
        obtain rfl := someE hf0
        exact awpEnd X0 TTab_ok hC hm hE 4000 (hs := (.a (F0_ r__e) :: .a (I r__e.e0) :: .a (F11_ Row_e) :: .a (F8_ Row_e_e) :: .a (F0_ r__e1) :: .a (I r__e1.e1) :: .a (F11_ Row_e1) :: .a (F8_ Row_e_e1) :: (rpN 7 bT []))) (x := (I 0)) (ob (i0 h1) :: ob (iM F0_ h1) :: ob (rfl : some (I r__e.e0 : A) = some (I r__e.e0 : A)) :: ob (rfl : true = true) :: ob (i0 h2) :: ob o1 :: ob (i0 h3) :: ob o2 :: ob (i0 h4) :: ob (iM F0_ h4) :: ob (rfl : some (I r__e1.e1 : A) = some (I r__e1.e1 : A)) :: ob (rfl : true = true) :: ob (i0 h5) :: ob o3 :: ob (i0 h6) :: ob o4 :: (rpN 6 (ob c3) [oT])) (by kernel_rfl) (LeV.refl _)
       ·rcases bifE hf2 with ⟨c4, hf2⟩ | ⟨c4, hf2⟩
        ·obtain ⟨r_2, h7, hf2⟩ := bindE hf2
         have o5 := hasF h_ref10_In (x := (r_, (Arr2.mk Row_e_e.To Row_e_e1.To))) h7 (loC F6_ r_ <| loC F0_ (Arr2.mk Row_e_e.To Row_e_e1.To) <| loN)
         rcases bifE hf2 with ⟨c5, hf2⟩ | ⟨c5, hf2⟩
         ·obtain rfl := someE hf2
          obtain rfl := hl2
          obtain rfl := someE hf1
          obtain rfl := hl1
          obtain rfl := someE hf0
          exact awpEnd X0 TTab_ok hC hm hE 4000 (hs := (.a (F0_ r__e) :: .a (I r__e.e0) :: .a (F11_ Row_e) :: .a (F8_ Row_e_e) :: .a (F0_ r__e1) :: .a (I r__e1.e1) :: .a (F11_ Row_e1) :: .a (F8_ Row_e_e1) :: (rpN 4 bF (rpN 7 bT [.g [], .a ((eI .i64) r_2), bT, bF, bT, bF, bT])))) (x := (I 0)) (ob (i0 h1) :: ob (iM F0_ h1) :: ob (rfl : some (I r__e.e0 : A) = some (I r__e.e0 : A)) :: ob (rfl : true = true) :: ob (i0 h2) :: ob o1 :: ob (i0 h3) :: ob o2 :: ob (i0 h4) :: ob (iM F0_ h4) :: ob (rfl : some (I r__e1.e1 : A) = some (I r__e1.e1 : A)) :: ob (rfl : true = true) :: ob (i0 h5) :: ob o3 :: ob (i0 h6) :: ob o4 :: (rpN 4 (ob c3) (rpN 7 (ob c4) [ob (hasG h_ref10_In), ob o5, ob c4, ob c3, ob c4, ob c3, ob c5]))) (by kernel_rfl) (LeV.refl _)
         ·exact awpBack X0 TTab_ok hC hm [2, 3, 4, 7, 8, 58, 59, 60, 69] 4000 (.a (F0_ r__e) :: .a (I r__e.e0) :: .a (F11_ Row_e) :: .a (F8_ Row_e_e) :: .a (F0_ r__e1) :: .a (I r__e1.e1) :: .a (F11_ Row_e1) :: .a (F8_ Row_e_e1) :: (rpN 4 bF (rpN 7 bT [.g [], .a ((eI .i64) r_2), bT, bF, bT, bF, bF]))) J5 [(2, .d (eSl 2 false F0_ r_)), (3, .own (.box (F20_ a_))), (4, .own (.box (F20_ b_))), (7, .d (I k_)), (8, .d (I i_)), (58, .d (I Row_e_e.To)), (59, .d (B (decide (Row_e_e.To ≥ 0)))), (60, .d (B (decide (Row_e_e.To ≥ 0)))), (69, .d (B (r_2 == 0)))] (ob (i0 h1) :: ob (iM F0_ h1) :: ob (rfl : some (I r__e.e0 : A) = some (I r__e.e0 : A)) :: ob (rfl : true = true) :: ob (i0 h2) :: ob o1 :: ob (i0 h3) :: ob o2 :: ob (i0 h4) :: ob (iM F0_ h4) :: ob (rfl : some (I r__e1.e1 : A) = some (I r__e1.e1 : A)) :: ob (rfl : true = true) :: ob (i0 h5) :: ob o3 :: ob (i0 h6) :: ob o4 :: (rpN 4 (ob c3) (rpN 7 (ob c4) [ob (hasG h_ref10_In), ob o5, ob c4, ob c3, ob c4, ob c3, ob c5]))) (by kernel_rfl) fun st0 h0 => hJ5 st0 _ (Row_e_e.To, decide (Row_e_e.To ≥ 0), decide (Row_e_e.To ≥ 0), r_2 == 0) hf2 h0 inferInstance
        ·exact awpBack X0 TTab_ok hC hm [2, 3, 4, 7, 8, 58, 59, 60, 69] 4000 (.a (F0_ r__e) :: .a (I r__e.e0) :: .a (F11_ Row_e) :: .a (F8_ Row_e_e) :: .a (F0_ r__e1) :: .a (I r__e1.e1) :: .a (F11_ Row_e1) :: .a (F8_ Row_e_e1) :: (rpN 16 bF [])) J5 [(2, .d (eSl 2 false F0_ r_)), (3, .own (.box (F20_ a_))), (4, .own (.box (F20_ b_))), (7, .d (I k_)), (8, .d (I i_)), (58, .d (I Row_e_e.To)), (59, .d (B (decide (Row_e_e.To ≥ 0)))), (60, .d (B (decide (Row_e_e.To ≥ 0)))), (69, .d (B false))] (ob (i0 h1) :: ob (iM F0_ h1) :: ob (rfl : some (I r__e.e0 : A) = some (I r__e.e0 : A)) :: ob (rfl : true = true) :: ob (i0 h2) :: ob o1 :: ob (i0 h3) :: ob o2 :: ob (i0 h4) :: ob (iM F0_ h4) :: ob (rfl : some (I r__e1.e1 : A) = some (I r__e1.e1 : A)) :: ob (rfl : true = true) :: ob (i0 h5) :: ob o3 :: ob (i0 h6) :: ob o4 :: (rpN 4 (ob c3) (rpN 8 (ob c4) [ob c3, ob c4, ob c3, oF]))) (by kernel_rfl) fun st0 h0 => hJ5 st0 _ (Row_e_e.To, decide (Row_e_e.To ≥ 0), decide (Row_e_e.To ≥ 0), false) hf2 h0 inferInstance
     ·obtain rfl := someE hf2
      obtain rfl := hl2
      exact awpBack X0 TTab_ok hC hm [2, 3, 4, 7] 4000 [bF] J3 [(2, .d (eSl 2 false F0_ r_)), (3, .own (.box (F20_ a_))), (4, .own (.box (F20_ b_))), (7, .d (I k_))] [ob c2] (by kernel_rfl) fun st0 h0 => hJ3 st0 _ () hf1 h0 inferInstance
   ·obtain rfl := someE hf1
    obtain rfl := hl1
    exact awpBack X0 TTab_ok hC hm [] 4000 [aLn r_.length, bF] J1 [] [ob (lnM F0_ r_), ob c1] (by kernel_rfl) fun st0 h0 => hJ1 st0 _ () hf0 h0 inferInstance
noncomputable def bd_law10_edge : Code := (Try.f48.body).getD .skip
noncomputable def sp_law10_edge : Spec := spF (α := Int × Int) (ρ := S_api_Edge) 48 (fun x => [(eI .i64) x.1, (eI .i64) x.2]) (fun r => F8_ r) (fun x => law10_edge x.1 x.2) [] (by
  rintro ⟨a0, a1⟩ ⟨b0, b1⟩ h
  simp only [List.cons.injEq, and_true] at h
  have e0 := EncI.inj (f := (eI .i64)) _ _ h.1
  have e1 := EncI.inj (f := (eI .i64)) _ _ h.2
  subst e0 e1
  rfl)
theorem w_law10_edge {ctr : Ctr} (hC : CtrOk Try.prog ctr) (hm : Try.prog.follows .mixedOrders = true) : sp_law10_edge.Ok Try.prog := by
 refine spF_ok ?_
 rintro ⟨to, out⟩ r0 hf0
 try unfold law10_edge at hf0
 refine callOk_h (tt := TTab) (keep := false) (rs := [(4, some 67)]) (n := ⟨8, []⟩) (body := bd_law10_edge) TTab_ok Try.func48 rfl (by kernel_rfl) rfl rfl (by show (2 : Nat) ≤ 8; decide) fun E hE => ?_
 obtain rfl := someE hf0
 exact awpEnd X0 TTab_ok hC hm hE 4000 (hs := []) (x := (.agg [I to, I out])) [] (by kernel_rfl) (LeV.refl _)
noncomputable def bd_equals_Differ : Code := (Try.f31.body).getD .skip
noncomputable def sp_equals_Differ : Spec := spF (α := S_api_Machine × S_api_Machine) (ρ := List Int × Bool × Int) 31 (fun x => [F20_ x.1, F20_ x.2]) (fun r => .tup [F1_ r.1, eB r.2.1, (eI .i64) r.2.2]) (fun x => equals_Differ x.1 x.2) [] (by
  rintro ⟨a0, a1⟩ ⟨b0, b1⟩ h
  simp only [List.cons.injEq, and_true] at h
  have e0 := EncI.inj (f := F20_) _ _ h.1
  have e1 := EncI.inj (f := F20_) _ _ h.2
  subst e0 e1
  rfl)
theorem w_equals_Differ {ctr : Ctr} (hC : CtrOk Try.prog ctr) (hm : Try.prog.follows .mixedOrders = true) (h_equals_both : ctr.Has sp_equals_both) (h_equals_differ : ctr.Has sp_equals_differ) : sp_equals_Differ.Ok Try.prog := by
 refine spF_ok ?_
 rintro ⟨a_, b_⟩ r0 hf0
 try unfold equals_Differ at hf0
 refine callOk_h (tt := TTab) (keep := false) (rs := [(4, none), (5, none), (6, none)]) (n := ⟨26, []⟩) (body := bd_equals_Differ) TTab_ok Try.func31 rfl (by kernel_rfl) rfl rfl (by show (2 : Nat) ≤ 26; decide) fun E hE => ?_
 obtain ⟨r_, h0, hf0⟩ := bindE hf0
 have o0 := hasF h_equals_both (x := (a_, b_)) h0 (loC F20_ a_ <| loC F20_ b_ <| loN)
 rcases bifE hf0 with ⟨c0, hf0⟩ | ⟨c0, hf0⟩
 ·obtain rfl := someE hf0
  exact awpEnd X0 TTab_ok hC hm hE 4000 (hs := [.g [], .a ((eI .i64) r_), bT, .l ([].map (eI .i64))]) (x := (.tup [eSl 1 true (eI .i64) [], B false, I r_])) [ob (hasG h_equals_both), ob o0, ob c0, ob (shM (eI .i64) (eI .i64) [])] (by kernel_rfl) (show LeV (.tup [eSl 1 true (eI .i64) [], B false, I r_]) (.tup [eSl 1 true (eI .i64) ([] : List Int), B false, I r_]) from inferInstance)
 ·obtain ⟨r_1, h1, hf0⟩ := bindE hf0
  have o1 := hasF h_equals_differ (x := (a_, b_)) h1 (loC F20_ a_ <| loC F20_ b_ <| loN)
  have o2 := (⟨rfl, rfl⟩ : T.own (.opq (tupQ [some (eSl 1 true (eI .i64) r_1.1), some (eOs 2 false F0_ r_1.2)])) = T.own (.opq (tupQ [some (eSl 1 true (eI .i64) r_1.1), some (eOs 2 false F0_ r_1.2)])) ∧ 1 = 1)
  have o3 := (⟨rfl, rfl⟩ : T.own (.opq (tupQ [some (eSl 1 true (eI .i64) r_1.1), some (eOs 2 false F0_ r_1.2)])) = T.own (.opq (tupQ [some (eSl 1 true (eI .i64) r_1.1), some (eOs 2 false F0_ r_1.2)])) ∧ 1 = 1)
  obtain rfl := someE hf0
  exact awpEnd ((xExtr Try.prog 21 [some (eSl 1 true (eI .i64) r_1.1), some (eOs 2 false F0_ r_1.2)]).or ((xExtr Try.prog 20 [some (eSl 1 true (eI .i64) r_1.1), some (eOs 2 false F0_ r_1.2)]).or X0)) TTab_ok hC hm hE 4000 (hs := [.g [], .a ((eI .i64) r_), bF, .g [], .a (.opq (tupQ [some (eSl 1 true (eI .i64) r_1.1), some (eOs 2 false F0_ r_1.2)])), aLn r_1.1.length]) (x := (.tup [eSl 1 true (eI .i64) r_1.1, B (decide (((r_1.1.length : Nat) : Int) > 0)), I 0])) [ob (hasG h_equals_both), ob o0, ob c0, ob (hasG h_equals_differ), ob o1, ob o2, ob o3, ob (lnM (eI .i64) r_1.1)] (by kernel_rfl) (LeV.refl _)
noncomputable def bd_equals_Equal : Code := (Try.f38.body).getD .skip
noncomputable def sp_equals_Equal : Spec := spF (α := S_api_Machine × S_api_Machine) (ρ := Bool × Int) 38 (fun x => [F20_ x.1, F20_ x.2]) (fun r => .tup [eB r.1, (eI .i64) r.2]) (fun x => equals_Equal x.1 x.2) [] (by
  rintro ⟨a0, a1⟩ ⟨b0, b1⟩ h
  simp only [List.cons.injEq, and_true] at h
  have e0 := EncI.inj (f := F20_) _ _ h.1
  have e1 := EncI.inj (f := F20_) _ _ h.2
  subst e0 e1
  rfl)
theorem w_equals_Equal {ctr : Ctr} (hC : CtrOk Try.prog ctr) (hm : Try.prog.follows .mixedOrders = true) (h_equals_Differ : ctr.Has sp_equals_Differ) : sp_equals_Equal.Ok Try.prog := by
 refine spF_ok ?_
 rintro ⟨a_, b_⟩ r0 hf0
 try unfold equals_Equal at hf0
 refine callOk_h (tt := TTab) (keep := false) (rs := [(4, none), (5, none)]) (n := ⟨23, []⟩) (body := bd_equals_Equal) TTab_ok Try.func38 rfl (by kernel_rfl) rfl rfl (by show (2 : Nat) ≤ 23; decide) fun E hE => ?_
 obtain ⟨r_, h0, hf0⟩ := bindE hf0
 have o0 := hasF h_equals_Differ (x := (a_, b_)) h0 (loC F20_ a_ <| loC F20_ b_ <| loN)
 rcases bifE hf0 with ⟨c0, hf0⟩ | ⟨c0, hf0⟩
 ·obtain rfl := someE hf0
  exact awpEnd X0 TTab_ok hC hm hE 4000 (hs := [.g [], .a (.tup [eSl 1 true (eI .i64) r_.1, B r_.2.1, I r_.2.2]), bT, bT, bT]) (x := (.tup [B (!r_.2.1), I r_.2.2])) [ob (hasG h_equals_Differ), ob o0, ob c0, ob c0, ob c0] (by kernel_rfl) (LeV.refl _)
 ·obtain rfl := someE hf0
  exact awpEnd X0 TTab_ok hC hm hE 4000 (hs := [.g [], .a (.tup [eSl 1 true (eI .i64) r_.1, B r_.2.1, I r_.2.2]), bF, bF, bF]) (x := (.tup [B false, I r_.2.2])) [ob (hasG h_equals_Differ), ob o0, ob c0, ob c0, ob c0] (by kernel_rfl) (LeV.refl _)
noncomputable def bd_equals_Within : Code := (Try.f41.body).getD .skip
noncomputable def sp_equals_Within : Spec := spF (α := S_api_Machine × S_api_Machine × Int) (ρ := Bool × Int) 41 (fun x => [F20_ x.1, F20_ x.2.1, (eI .i64) x.2.2]) (fun r => .tup [eB r.1, (eI .i64) r.2]) (fun x => equals_Within x.1 x.2.1 x.2.2) [] (by
  rintro ⟨a0, a1, a2⟩ ⟨b0, b1, b2⟩ h
  simp only [List.cons.injEq, and_true] at h
  have e0 := EncI.inj (f := F20_) _ _ h.1
  have e1 := EncI.inj (f := F20_) _ _ h.2.1
  have e2 := EncI.inj (f := (eI .i64)) _ _ h.2.2
  subst e0 e1 e2
  rfl)
theorem w_equals_Within {ctr : Ctr} (hC : CtrOk Try.prog ctr) (hm : Try.prog.follows .mixedOrders = true) (h_equals_Differ : ctr.Has sp_equals_Differ) : sp_equals_Within.Ok Try.prog := by
 refine spF_ok ?_
 rintro ⟨a_, b_, k_⟩ r0 hf0
 try unfold equals_Within at hf0
 refine callOk_h (tt := TTab) (keep := false) (rs := [(6, none), (7, none)]) (n := ⟨33, []⟩) (body := bd_equals_Within) TTab_ok Try.func41 rfl (by kernel_rfl) rfl rfl (by show (3 : Nat) ≤ 33; decide) fun E hE => ?_
 obtain ⟨r_, h0, hf0⟩ := bindE hf0
 have o0 := hasF h_equals_Differ (x := (a_, b_)) h0 (loC F20_ a_ <| loC F20_ b_ <| loN)
 rcases bifE hf0 with ⟨c0, hf0⟩ | ⟨c0, hf0⟩
 ·obtain rfl := someE hf0
  exact awpEnd X0 TTab_ok hC hm hE 4000 (hs := [.g [], .a (.tup [eSl 1 true (eI .i64) r_.1, B r_.2.1, I r_.2.2]), bT]) (x := (.tup [B false, I r_.2.2])) [ob (hasG h_equals_Differ), ob o0, ob c0] (by kernel_rfl) (LeV.refl _)
 ·rcases bifE hf0 with ⟨c1, hf0⟩ | ⟨c1, hf0⟩
  ·obtain rfl := someE hf0
   exact awpEnd X0 TTab_ok hC hm hE 4000 (hs := [.g [], .a (.tup [eSl 1 true (eI .i64) r_.1, B r_.2.1, I r_.2.2]), bF, bT]) (x := (.tup [B false, I 1])) [ob (hasG h_equals_Differ), ob o0, ob c0, ob c1] (by kernel_rfl) (LeV.refl _)
  ·rcases bifE hf0 with ⟨c2, hf0⟩ | ⟨c2, hf0⟩
   ·obtain rfl := someE hf0
    exact awpEnd X0 TTab_ok hC hm hE 4000 (hs := (.g [] :: .a (.tup [eSl 1 true (eI .i64) r_.1, B r_.2.1, I r_.2.2]) :: bF :: bF :: (rpN 5 bT []))) (x := (.tup [B true, I 0])) (ob (hasG h_equals_Differ) :: ob o0 :: ob c0 :: ob c1 :: (rpN 5 (ob c2) [])) (by kernel_rfl) (LeV.refl _)
   ·obtain rfl := someE hf0
    exact awpEnd X0 TTab_ok hC hm hE 4000 (hs := (.g [] :: .a (.tup [eSl 1 true (eI .i64) r_.1, B r_.2.1, I r_.2.2]) :: (rpN 4 bF [aLn r_.1.length, bF, bF, bF]))) (x := (.tup [B (decide (((r_.1.length : Nat) : Int) > k_)), I 0])) [ob (hasG h_equals_Differ), ob o0, ob c0, ob c1, ob c2, ob c2, ob (lnM (eI .i64) r_.1), ob c2, ob c2, ob c2] (by kernel_rfl) (LeV.refl _)
noncomputable def bd_ref01_Compare : Code := (Try.f74.body).getD .skip
noncomputable def sp_ref01_Compare : Spec := spF (α := List Int × List Int) (ρ := Int) 74 (fun x => [F3_ x.1, F3_ x.2]) (fun r => (eI .i64) r) (fun x => ref01_Compare x.1 x.2) [] (by
  rintro ⟨a0, a1⟩ ⟨b0, b1⟩ h
  simp only [List.cons.injEq, and_true] at h
  have e0 := EncI.inj (f := F3_) _ _ h.1
  have e1 := EncI.inj (f := F3_) _ _ h.2
  subst e0 e1
  rfl)
abbrev ST_ref01_Compare_J1 : List (Nat × T) := []
abbrev ST_ref01_Compare_L2 (a_ : List Int) (b_ : List Int) (i_ : Int) : List (Nat × T) := [(0, .d (eSl 1 false (eI .i64) a_)), (1, .d (eSl 1 false (eI .i64) b_)), (5, .d (I i_))]
theorem w_ref01_Compare {ctr : Ctr} (hC : CtrOk Try.prog ctr) (hm : Try.prog.follows .mixedOrders = true) : sp_ref01_Compare.Ok Try.prog := by
 refine spF_ok ?_
 rintro ⟨a_, b_⟩ r0 hf0
 try unfold ref01_Compare at hf0
 refine callOk_h (tt := TTab) (keep := true) (rs := [(4, none)]) (n := ⟨40, []⟩) (body := bd_ref01_Compare) TTab_ok Try.func74 rfl (by kernel_rfl) rfl rfl (by show (2 : Nat) ≤ 40; decide) fun E hE => ?_
 rcases bifE hf0 with ⟨c0, hf0⟩ | ⟨c0, hf0⟩
 ·obtain rfl := someE hf0
  exact awpEnd X0 TTab_ok hC hm hE 4000 (hs := [aLn a_.length, aLn b_.length, bT]) (x := (I (-1))) [ob (lnM (eI .i64) a_), ob (lnM (eI .i64) b_), ob c0] (by kernel_rfl) (LeV.refl _)
 ·rcases bifE hf0 with ⟨c1, hf0⟩ | ⟨c1, hf0⟩
  ·obtain rfl := someE hf0
   exact awpEnd X0 TTab_ok hC hm hE 4000 (hs := [aLn a_.length, aLn b_.length, bF, aLn a_.length, aLn b_.length, bT]) (x := (I 1)) [ob (lnM (eI .i64) a_), ob (lnM (eI .i64) b_), ob c0, ob (lnM (eI .i64) a_), ob (lnM (eI .i64) b_), ob c1] (by kernel_rfl) (LeV.refl _)
  ·refine awpAt X0 TTab_ok hC hm [0, 1] 4000 [aLn a_.length, aLn b_.length, bF, aLn a_.length, aLn b_.length, bF, .cut 0] (sub [1, 1, 1] bd_ref01_Compare) (frs [1, 1, 1] [] bd_ref01_Compare []) [(0, .d (eSl 1 false (eI .i64) a_)), (1, .d (eSl 1 false (eI .i64) b_))] [ob (lnM (eI .i64) a_), ob (lnM (eI .i64) b_), ob c0, ob (lnM (eI .i64) a_), ob (lnM (eI .i64) b_), ob c1] (by kernel_rfl) fun st0 h0 => ?_
   refine awpJoin' (X := Unit) (x := (sub [1, 1, 1, 2] bd_ref01_Compare)) (y := (sub [1, 1, 1, 1] bd_ref01_Compare)) (by kernel_rfl) [] [0, 1] _ h0 (fun z => ref01_Compare_J1 = some r0) (fun z => ST_ref01_Compare_J1) ?_ fun J1 hJ1 => ?_
   ·rintro ⟨⟩ hf0
    unfold ref01_Compare_J1 at hf0
    obtain rfl := someE hf0
    exact awpEnd X0 TTab_ok hC hm hE 4000 (hs := []) (x := (I 0)) [] (by kernel_rfl) (LeV.refl _)
   ·obtain ⟨t2, ht2, hf0⟩ := bindE hf0
    refine awpAt X0 TTab_ok hC hm [0, 1, 5] 4000 [] (sub [1, 1, 1, 2, 1, 0] bd_ref01_Compare) (frs [1, 1, 1, 2, 1, 0] [J1] bd_ref01_Compare []) [(0, .d (eSl 1 false (eI .i64) a_)), (1, .d (eSl 1 false (eI .i64) b_)), (5, .d (I 0))] [] (by kernel_rfl) fun st0 h0 => ?_
    refine awpLoop' (X := Int × Nat) (c' := (sub [1, 1, 1, 2, 1, 0, 0] bd_ref01_Compare)) (by kernel_rfl) [0, 1, 5] (fun x => loopN (fun s => ref01_Compare_L2 a_ b_ s) x.2 x.1 = some t2) (fun x => x.2) (fun x => ST_ref01_Compare_L2 a_ b_ x.1) (0, fuel) _ h0 inferInstance ht2 ?_
    rintro ⟨i_, n2⟩ hn2 J2 hJ2
    obtain ⟨m2, lr1, rfl, hf1, hl1⟩ := loopE hn2
    try unfold ref01_Compare_L2 at hf1
    rcases bifE hf1 with ⟨c2, hf1⟩ | ⟨c2, hf1⟩
    ·obtain ⟨a__e, h0, hf1⟩ := bindE hf1
     obtain ⟨b__e, h1, hf1⟩ := bindE hf1
     rcases bifE hf1 with ⟨c3, hf1⟩ | ⟨c3, hf1⟩
     ·obtain rfl := someE hf1
      obtain rfl := hl1
      obtain rfl := someE hf0
      exact awpEnd X0 TTab_ok hC hm hE 4000 (hs := [aLn a_.length, bT, .a ((eI .i64) a__e), .a ((eI .i64) b__e), bT]) (x := (I (-1))) [ob (lnM (eI .i64) a_), ob c2, ob (i0 h0), ob (iM (eI .i64) h0), ob (i0 h1), ob (iM (eI .i64) h1), ob c3] (by kernel_rfl) (LeV.refl _)
     ·obtain ⟨a__e1, h2, hf1⟩ := bindE hf1
      obtain ⟨b__e1, h3, hf1⟩ := bindE hf1
      rcases bifE hf1 with ⟨c4, hf1⟩ | ⟨c4, hf1⟩
      ·obtain rfl := someE hf1
       obtain rfl := hl1
       obtain rfl := someE hf0
       exact awpEnd X0 TTab_ok hC hm hE 4000 (hs := [aLn a_.length, bT, .a ((eI .i64) a__e), .a ((eI .i64) b__e), bF, .a ((eI .i64) a__e1), .a ((eI .i64) b__e1), bT]) (x := (I 1)) [ob (lnM (eI .i64) a_), ob c2, ob (i0 h0), ob (iM (eI .i64) h0), ob (i0 h1), ob (iM (eI .i64) h1), ob c3, ob (i0 h2), ob (iM (eI .i64) h2), ob (i0 h3), ob (iM (eI .i64) h3), ob c4] (by kernel_rfl) (LeV.refl _)
      ·obtain rfl := someE hf1
       exact awpBack X0 TTab_ok hC hm [0, 1, 5] 4000 [aLn a_.length, bT, .a ((eI .i64) a__e), .a ((eI .i64) b__e), bF, .a ((eI .i64) a__e1), .a ((eI .i64) b__e1), bF] J2 [(0, .d (eSl 1 false (eI .i64) a_)), (1, .d (eSl 1 false (eI .i64) b_)), (5, .d (I (w64 (i_ + 1))))] [ob (lnM (eI .i64) a_), ob c2, ob (i0 h0), ob (iM (eI .i64) h0), ob (i0 h1), ob (iM (eI .i64) h1), ob c3, ob (i0 h2), ob (iM (eI .i64) h2), ob (i0 h3), ob (iM (eI .i64) h3), ob c4] (by kernel_rfl) fun st0 h0 => hJ2 st0 _ (w64 (i_ + 1), m2) hl1 (Nat.lt_succ_self m2) h0 inferInstance
    ·obtain rfl := someE hf1
     obtain rfl := hl1
     exact awpBack X0 TTab_ok hC hm [] 4000 [aLn a_.length, bF] J1 [] [ob (lnM (eI .i64) a_), ob c2] (by kernel_rfl) fun st0 h0 => hJ1 st0 _ () hf0 h0 inferInstance
noncomputable def bd_ref01_Same : Code := (Try.f34.body).getD .skip
noncomputable def sp_ref01_Same : Spec := spF (α := List Int × List Int) (ρ := Bool) 34 (fun x => [F3_ x.1, F3_ x.2]) (fun r => eB r) (fun x => ref01_Same x.1 x.2) [] (by
  rintro ⟨a0, a1⟩ ⟨b0, b1⟩ h
  simp only [List.cons.injEq, and_true] at h
  have e0 := EncI.inj (f := F3_) _ _ h.1
  have e1 := EncI.inj (f := F3_) _ _ h.2
  subst e0 e1
  rfl)
theorem w_ref01_Same {ctr : Ctr} (hC : CtrOk Try.prog ctr) (hm : Try.prog.follows .mixedOrders = true) (h_ref01_Compare : ctr.Has sp_ref01_Compare) : sp_ref01_Same.Ok Try.prog := by
 refine spF_ok ?_
 rintro ⟨a_, b_⟩ r0 hf0
 try unfold ref01_Same at hf0
 refine callOk_h (tt := TTab) (keep := true) (rs := [(4, none)]) (n := ⟨9, []⟩) (body := bd_ref01_Same) TTab_ok Try.func34 rfl (by kernel_rfl) rfl rfl (by show (2 : Nat) ≤ 9; decide) fun E hE => ?_
 obtain ⟨r_, h0, hf0⟩ := bindE hf0
 have o0 := hasF h_ref01_Compare (x := (a_, b_)) h0 (loC F3_ a_ <| loC F3_ b_ <| loN)
 obtain rfl := someE hf0
 exact awpEnd X0 TTab_ok hC hm hE 4000 (hs := [.g [], .a ((eI .i64) r_)]) (x := (B (r_ == 0))) [ob (hasG h_ref01_Compare), ob o0] (by kernel_rfl) (LeV.refl _)
noncomputable def bd_law10_list : Code := (Try.f33.body).getD .skip
noncomputable def sp_law10_list : Spec := spF (α := List Int × Int × List Int × Int) (ρ := Bool) 33 (fun x => [F1_ x.1, (eI .i64) x.2.1, F3_ x.2.2.1, (eI .i64) x.2.2.2]) (fun r => eB r) (fun x => law10_list x.1 x.2.1 x.2.2.1 x.2.2.2) [] (by
  rintro ⟨a0, a1, a2, a3⟩ ⟨b0, b1, b2, b3⟩ h
  simp only [List.cons.injEq, and_true] at h
  have e0 := EncI.inj (f := F1_) _ _ h.1
  have e1 := EncI.inj (f := (eI .i64)) _ _ h.2.1
  have e2 := EncI.inj (f := F3_) _ _ h.2.2.1
  have e3 := EncI.inj (f := (eI .i64)) _ _ h.2.2.2
  subst e0 e1 e2 e3
  rfl)
theorem w_law10_list {ctr : Ctr} (hC : CtrOk Try.prog ctr) (hm : Try.prog.follows .mixedOrders = true) (h_ref01_Same : ctr.Has sp_ref01_Same) : sp_law10_list.Ok Try.prog := by
 refine spF_ok ?_
 rintro ⟨l_, e_, want, f_⟩ r0 hf0
 try unfold law10_list at hf0
 refine callOk_h (tt := TTab) (keep := true) (rs := [(8, none)]) (n := ⟨24, []⟩) (body := bd_law10_list) TTab_ok Try.func33 rfl (by kernel_rfl) rfl rfl (by show (4 : Nat) ≤ 24; decide) fun E hE => ?_
 rcases bifE hf0 with ⟨c0, hf0⟩ | ⟨c0, hf0⟩
 ·obtain ⟨r_, h0, hf0⟩ := bindE hf0
  have o0 := hasF h_ref01_Same (x := (l_, want)) h0 (loC F1_ l_ <| loC F3_ want <| loN)
  rcases bifE hf0 with ⟨c1, hf0⟩ | ⟨c1, hf0⟩
  ·obtain rfl := someE hf0
   exact awpEnd X0 TTab_ok hC hm hE 4000 (hs := [bT, bT, bT, .g [], .a (eB r_), bT, bT, bT, aLn l_.length, bT, bT, aLn l_.length, bT, bT]) (x := (B (((l_.length : Nat) : Int) == ((l_.length : Nat) : Int)))) [ob c0, ob c0, ob c0, ob (hasG h_ref01_Same), ob o0, ob c0, ob c1, ob c1, ob (lnM (eI .i64) l_), ob c1, ob c1, ob (lnM (eI .i64) l_), ob c1, ob c1] (by kernel_rfl) (LeV.refl _)
  ·obtain rfl := someE hf0
   exact awpEnd X0 TTab_ok hC hm hE 4000 (hs := (bT :: bT :: bT :: .g [] :: .a (eB r_) :: bT :: (rpN 6 bF []))) (x := (B false)) (ob c0 :: ob c0 :: ob c0 :: ob (hasG h_ref01_Same) :: ob o0 :: ob c0 :: (rpN 6 (ob c1) [])) (by kernel_rfl) (LeV.refl _)
 ·obtain rfl := someE hf0
  exact awpEnd X0 TTab_ok hC hm hE 4000 (hs := (rpN 10 bF [])) (x := (B false)) (rpN 4 (ob c0) (rpN 6 oF [])) (by kernel_rfl) (LeV.refl _)
noncomputable def bd_law10_lives : Code := (Try.f36.body).getD .skip
noncomputable def sp_law10_lives : Spec := spF (α := Unit) (ρ := Bool) 36 (fun x => []) (fun r => eB r) (fun x => law10_lives) [] (fun _ _ _ => rfl)
theorem w_law10_lives {ctr : Ctr} (hC : CtrOk Try.prog ctr) (hm : Try.prog.follows .mixedOrders = true) (h_law10_edge : ctr.Has sp_law10_edge) (h_equals_Differ : ctr.Has sp_equals_Differ) (h_equals_Equal : ctr.Has sp_equals_Equal) (h_equals_Relate : ctr.Has sp_equals_Relate) (h_equals_Within : ctr.Has sp_equals_Within) (h_equals_CheckRelation : ctr.Has sp_equals_CheckRelation) (h_law10_list : ctr.Has sp_law10_list) (h_law10_pairs : ctr.Has sp_law10_pairs) : sp_law10_lives.Ok Try.prog := by
 refine spF_ok ?_
 rintro ⟨⟩ r0 hf0
 try unfold law10_lives at hf0
 refine callOk_h (tt := TTab) (keep := true) (rs := [(0, none)]) (n := ⟨221, []⟩) (body := bd_law10_lives) TTab_ok Try.func36 rfl (by kernel_rfl) rfl rfl (by show (0 : Nat) ≤ 221; decide) fun E hE => ?_
 obtain ⟨r_, h0, hf0⟩ := bindE hf0
 have o0 := hasF h_law10_edge (x := (1, 0)) h0 (loC (eI .i64) 1 <| loC (eI .i64) 0 <| loN)
 obtain ⟨r_1, h1, hf0⟩ := bindE hf0
 have o1 := hasF h_law10_edge (x := (2, 0)) h1 (loC (eI .i64) 2 <| loC (eI .i64) 0 <| loN)
 obtain ⟨r_2, h2, hf0⟩ := bindE hf0
 have o2 := hasF h_law10_edge (x := (0, 1)) h2 (loC (eI .i64) 0 <| loC (eI .i64) 1 <| loN)
 obtain ⟨r_3, h3, hf0⟩ := bindE hf0
 have o3 := hasF h_law10_edge (x := (1, 0)) h3 (loC (eI .i64) 1 <| loC (eI .i64) 0 <| loN)
 obtain ⟨r_4, h4, hf0⟩ := bindE hf0
 have o4 := hasF h_law10_edge (x := (2, 0)) h4 (loC (eI .i64) 2 <| loC (eI .i64) 0 <| loN)
 obtain ⟨r_5, h5, hf0⟩ := bindE hf0
 have o5 := hasF h_law10_edge (x := (3, 1)) h5 (loC (eI .i64) 3 <| loC (eI .i64) 1 <| loN)
 obtain ⟨r_6, h6, hf0⟩ := bindE hf0
 have o6 := hasF h_law10_edge (x := (1, 0)) h6 (loC (eI .i64) 1 <| loC (eI .i64) 0 <| loN)
 obtain ⟨r_7, h7, hf0⟩ := bindE hf0
 have o7 := hasF h_law10_edge (x := (1, 0)) h7 (loC (eI .i64) 1 <| loC (eI .i64) 0 <| loN)
 obtain ⟨r_8, h8, hf0⟩ := bindE hf0
 have o8 := hasF h_law10_edge (x := (2, 0)) h8 (loC (eI .i64) 2 <| loC (eI .i64) 0 <| loN)
 obtain ⟨r_9, h9, hf0⟩ := bindE hf0
 have o9 := hasF h_law10_edge (x := (2, 0)) h9 (loC (eI .i64) 2 <| loC (eI .i64) 0 <| loN)
 obtain ⟨r_10, h10, hf0⟩ := bindE hf0
 have o10 := hasF h_law10_edge (x := (0, 0)) h10 (loC (eI .i64) 0 <| loC (eI .i64) 0 <| loN)
 obtain ⟨r_11, h11, hf0⟩ := bindE hf0
 have o11 := hasF h_law10_edge (x := (0, 0)) h11 (loC (eI .i64) 0 <| loC (eI .i64) 0 <| loN)
 have o12 := shM F9_ F10_ ([[r_], [r_1], [r_2]])
 have o13 := shM F9_ F10_ ([[r_3], [r_4], [r_5], [r_6]])
 obtain ⟨r_12, h12, hf0⟩ := bindE hf0
 have o14 := hasF h_equals_Differ (x := ((S_api_Machine.mk 1 2 ([[r_], [r_1], [r_2]])), (S_api_Machine.mk 1 2 ([[r_3], [r_4], [r_5], [r_6]])))) h12 (loC F19_ (S_api_Machine.mk 1 2 ([[r_], [r_1], [r_2]])) <| loC F19_ (S_api_Machine.mk 1 2 ([[r_3], [r_4], [r_5], [r_6]])) <| loN)
 have o15 := shM F9_ F10_ ([[r_], [r_1], [r_2]])
 have o16 := shM F9_ F10_ ([[r_3], [r_4], [r_5], [r_6]])
 obtain ⟨r_13, h13, hf0⟩ := bindE hf0
 have o17 := hasF h_equals_Equal (x := ((S_api_Machine.mk 1 2 ([[r_], [r_1], [r_2]])), (S_api_Machine.mk 1 2 ([[r_3], [r_4], [r_5], [r_6]])))) h13 (loC F19_ (S_api_Machine.mk 1 2 ([[r_], [r_1], [r_2]])) <| loC F19_ (S_api_Machine.mk 1 2 ([[r_3], [r_4], [r_5], [r_6]])) <| loN)
 obtain ⟨r_14, h14, hf0⟩ := bindE hf0
 have o18 := hasF h_equals_Relate (x := ((S_api_Machine.mk 1 2 ([[r_], [r_1], [r_2]])), (S_api_Machine.mk 1 2 ([[r_3], [r_4], [r_5], [r_6]])))) h14 (loC F19_ (S_api_Machine.mk 1 2 ([[r_], [r_1], [r_2]])) <| loC F19_ (S_api_Machine.mk 1 2 ([[r_3], [r_4], [r_5], [r_6]])) <| loN)
 have o19 := shM F9_ F10_ ([[r_7], [r_8], [r_9]])
 obtain ⟨r_15, h15, hf0⟩ := bindE hf0
 have o20 := hasF h_equals_Differ (x := ((S_api_Machine.mk 1 2 ([[r_], [r_1], [r_2]])), (S_api_Machine.mk 1 2 ([[r_7], [r_8], [r_9]])))) h15 (loC F19_ (S_api_Machine.mk 1 2 ([[r_], [r_1], [r_2]])) <| loC F19_ (S_api_Machine.mk 1 2 ([[r_7], [r_8], [r_9]])) <| loN)
 have o21 := shM F9_ F10_ ([[r_7], [r_8], [r_9]])
 obtain ⟨r_16, h16, hf0⟩ := bindE hf0
 have o22 := hasF h_equals_Within (x := ((S_api_Machine.mk 1 2 ([[r_], [r_1], [r_2]])), (S_api_Machine.mk 1 2 ([[r_7], [r_8], [r_9]])), 2)) h16 (loC F19_ (S_api_Machine.mk 1 2 ([[r_], [r_1], [r_2]])) <| loC F19_ (S_api_Machine.mk 1 2 ([[r_7], [r_8], [r_9]])) <| loC (eI .i64) 2 <| loN)
 obtain ⟨r_17, h17, hf0⟩ := bindE hf0
 have o23 := hasF h_equals_Within (x := ((S_api_Machine.mk 1 2 ([[r_], [r_1], [r_2]])), (S_api_Machine.mk 1 2 ([[r_7], [r_8], [r_9]])), 3)) h17 (loC F19_ (S_api_Machine.mk 1 2 ([[r_], [r_1], [r_2]])) <| loC F19_ (S_api_Machine.mk 1 2 ([[r_7], [r_8], [r_9]])) <| loC (eI .i64) 3 <| loN)
 have o24 := shM F0_ F0_ ([(Arr2.mk 0 0), (Arr2.mk 0 3), (Arr2.mk 1 1), (Arr2.mk 2 2)])
 obtain ⟨r_18, h18, hf0⟩ := bindE hf0
 have o25 := hasF h_equals_CheckRelation (x := ((S_api_Machine.mk 1 2 ([[r_], [r_1], [r_2]])), (S_api_Machine.mk 1 2 ([[r_3], [r_4], [r_5], [r_6]])), [(Arr2.mk 0 0), (Arr2.mk 0 3), (Arr2.mk 1 1), (Arr2.mk 2 2)])) h18 (loC F19_ (S_api_Machine.mk 1 2 ([[r_], [r_1], [r_2]])) <| loC F19_ (S_api_Machine.mk 1 2 ([[r_3], [r_4], [r_5], [r_6]])) <| loC F5_ ([(Arr2.mk 0 0), (Arr2.mk 0 3), (Arr2.mk 1 1), (Arr2.mk 2 2)] : List (Arr2 Int)) <| loN)
 have o26 := shM F0_ F0_ ([(Arr2.mk 0 0), (Arr2.mk 1 1)])
 obtain ⟨r_19, h19, hf0⟩ := bindE hf0
 have o27 := hasF h_equals_CheckRelation (x := ((S_api_Machine.mk 1 2 ([[r_], [r_1], [r_2]])), (S_api_Machine.mk 1 2 ([[r_3], [r_4], [r_5], [r_6]])), [(Arr2.mk 0 0), (Arr2.mk 1 1)])) h19 (loC F19_ (S_api_Machine.mk 1 2 ([[r_], [r_1], [r_2]])) <| loC F19_ (S_api_Machine.mk 1 2 ([[r_3], [r_4], [r_5], [r_6]])) <| loC F5_ ([(Arr2.mk 0 0), (Arr2.mk 1 1)] : List (Arr2 Int)) <| loN)
 have o28 := shM F9_ F10_ ([[r_10, r_11]])
 obtain ⟨r_20, h20, hf0⟩ := bindE hf0
 have o29 := hasF h_equals_Equal (x := ((S_api_Machine.mk 1 2 ([[r_], [r_1], [r_2]])), (S_api_Machine.mk 2 1 ([[r_10, r_11]])))) h20 (loC F19_ (S_api_Machine.mk 1 2 ([[r_], [r_1], [r_2]])) <| loC F19_ (S_api_Machine.mk 2 1 ([[r_10, r_11]])) <| loN)
 obtain ⟨r_21, h21, hf0⟩ := bindE hf0
 have o30 := hasF h_equals_Within (x := ((S_api_Machine.mk 1 2 ([[r_], [r_1], [r_2]])), (S_api_Machine.mk 1 2 ([[r_3], [r_4], [r_5], [r_6]])), (-1))) h21 (loC F19_ (S_api_Machine.mk 1 2 ([[r_], [r_1], [r_2]])) <| loC F19_ (S_api_Machine.mk 1 2 ([[r_3], [r_4], [r_5], [r_6]])) <| loC (eI .i64) (-1) <| loN)
 have o31 := shM F0_ F0_ ([(Arr2.mk 0 4)])
 obtain ⟨r_22, h22, hf0⟩ := bindE hf0
 have o32 := hasF h_equals_CheckRelation (x := ((S_api_Machine.mk 1 2 ([[r_], [r_1], [r_2]])), (S_api_Machine.mk 1 2 ([[r_3], [r_4], [r_5], [r_6]])), [(Arr2.mk 0 4)])) h22 (loC F19_ (S_api_Machine.mk 1 2 ([[r_], [r_1], [r_2]])) <| loC F19_ (S_api_Machine.mk 1 2 ([[r_3], [r_4], [r_5], [r_6]])) <| loC F5_ ([(Arr2.mk 0 4)] : List (Arr2 Int)) <| loN)
 refine awpAt X0 TTab_ok hC hm [5, 6, 7, 8, 9, 10, 11, 12, 13, 14, 15, 16, 17, 18, 19, 20, 21, 22, 23, 25, 27, 29] 4000 [.g [], .a (F8_ r_), .g [], .a (F8_ r_1), .g [], .a (F8_ r_2), .g [], .a (F8_ r_3), .g [], .a (F8_ r_4), .g [], .a (F8_ r_5), .g [], .a (F8_ r_6), .g [], .a (F8_ r_7), .g [], .a (F8_ r_8), .g [], .a (F8_ r_9), .g [], .a (F8_ r_10), .g [], .a (F8_ r_11), .g [], .l (([[r_], [r_1], [r_2]]).map F10_), .l (([[r_3], [r_4], [r_5], [r_6]]).map F10_), .a (.tup [eSl 1 true (eI .i64) r_12.1, B r_12.2.1, I r_12.2.2]), .l (([[r_], [r_1], [r_2]]).map F10_), .l (([[r_3], [r_4], [r_5], [r_6]]).map F10_), .g [], .a (.tup [B r_13.1, I r_13.2]), .g [], .a (.tup [eSl 2 true F0_ r_14.1, B r_14.2.1, I r_14.2.2]), .g [], .l (([[r_7], [r_8], [r_9]]).map F10_), .a (.tup [eSl 1 true (eI .i64) r_15.1, B r_15.2.1, I r_15.2.2]), .l (([[r_7], [r_8], [r_9]]).map F10_), .g [], .a (.tup [B r_16.1, I r_16.2]), .g [], .a (.tup [B r_17.1, I r_17.2]), .g [], .l (([(Arr2.mk 0 0), (Arr2.mk 0 3), (Arr2.mk 1 1), (Arr2.mk 2 2)]).map F0_), .a (.tup [B r_18.1, I r_18.2]), .g [], .l (([(Arr2.mk 0 0), (Arr2.mk 1 1)]).map F0_), .a (.tup [B r_19.1, I r_19.2]), .g [], .l (([[r_10, r_11]]).map F10_), .a (.tup [B r_20.1, I r_20.2]), .g [], .a (.tup [B r_21.1, I r_21.2]), .g [], .l (([(Arr2.mk 0 4)]).map F0_), .a (.tup [B r_22.1, I r_22.2]), .cut 0] (sub [1, 1, 1, 1, 1, 1, 1, 1, 1, 1, 1, 1, 1, 1, 1, 1] bd_law10_lives) (frs [1, 1, 1, 1, 1, 1, 1, 1, 1, 1, 1, 1, 1, 1, 1, 1] [] bd_law10_lives []) [(5, .d (eSl 1 true (eI .i64) r_12.1)), (6, .d (B r_12.2.1)), (7, .d (I r_12.2.2)), (8, .d (B r_13.1)), (9, .d (I r_13.2)), (10, .d (eSl 2 true F0_ r_14.1)), (11, .d (B r_14.2.1)), (12, .d (I r_14.2.2)), (13, .d (eSl 1 true (eI .i64) r_15.1)), (14, .d (B r_15.2.1)), (15, .d (I r_15.2.2)), (16, .d (B r_16.1)), (17, .d (I r_16.2)), (18, .d (B r_17.1)), (19, .d (I r_17.2)), (20, .d (B r_18.1)), (21, .d (I r_18.2)), (22, .d (B r_19.1)), (23, .d (I r_19.2)), (25, .d (I r_20.2)), (27, .d (I r_21.2)), (29, .d (I r_22.2))] [ob (hasG h_law10_edge), ob o0, ob (hasG h_law10_edge), ob o1, ob (hasG h_law10_edge), ob o2, ob (hasG h_law10_edge), ob o3, ob (hasG h_law10_edge), ob o4, ob (hasG h_law10_edge), ob o5, ob (hasG h_law10_edge), ob o6, ob (hasG h_law10_edge), ob o7, ob (hasG h_law10_edge), ob o8, ob (hasG h_law10_edge), ob o9, ob (hasG h_law10_edge), ob o10, ob (hasG h_law10_edge), ob o11, ob (hasG h_equals_Differ), ob o12, ob o13, ob o14, ob o15, ob o16, ob (hasG h_equals_Equal), ob o17, ob (hasG h_equals_Relate), ob o18, ob (hasG h_equals_Differ), ob o19, ob o20, ob o21, ob (hasG h_equals_Within), ob o22, ob (hasG h_equals_Within), ob o23, ob (hasG h_equals_CheckRelation), ob o24, ob o25, ob (hasG h_equals_CheckRelation), ob o26, ob o27, ob (hasG h_equals_Equal), ob o28, ob o29, ob (hasG h_equals_Within), ob o30, ob (hasG h_equals_CheckRelation), ob o31, ob o32] (by kernel_rfl) fun st0 h0 => awpOf h0 ?_
 obtain ⟨r_23, h23, hf0⟩ := bindE hf0
 have o33 := tabC_at (f := .fn 33 []) (xs := [F1_ r_12.1, (eI .i64) r_12.2.2, F3_ ([] : List Int), (eI .i64) 0]) (ls := []) (r := B r_23) (ys := []) [F1_ r_12.1, (eI .i64) r_12.2.2, F1_ ([] : List Int), (eI .i64) 0] (show LeTs [F1_ r_12.1, (eI .i64) r_12.2.2, F1_ ([] : List Int), (eI .i64) 0] [F1_ r_12.1, (eI .i64) r_12.2.2, F3_ ([] : List Int), (eI .i64) 0] from inferInstance)
 rcases bifE hf0 with ⟨c0, hf0⟩ | ⟨c0, hf0⟩
 ·rcases bifE hf0 with ⟨c1, hf0⟩ | ⟨c1, hf0⟩
  ·rcases bifE hf0 with ⟨c2, hf0⟩ | ⟨c2, hf0⟩
   ·rcases bifE hf0 with ⟨c3, hf0⟩ | ⟨c3, hf0⟩
    ·have o34 := shM F0_ F0_ ([(Arr2.mk 0 0), (Arr2.mk 0 3), (Arr2.mk 1 1), (Arr2.mk 2 2)])
     obtain ⟨r_24, h24, hf0⟩ := bindE hf0
     have o35 := tabC_at (f := .fn 43 []) (xs := [F5_ r_14.1, F6_ ([(Arr2.mk 0 0), (Arr2.mk 0 3), (Arr2.mk 1 1), (Arr2.mk 2 2)] : List (Arr2 Int))]) (ls := []) (r := B r_24) (ys := []) [F5_ r_14.1, F5_ ([(Arr2.mk 0 0), (Arr2.mk 0 3), (Arr2.mk 1 1), (Arr2.mk 2 2)] : List (Arr2 Int))] (show LeTs [F5_ r_14.1, F5_ ([(Arr2.mk 0 0), (Arr2.mk 0 3), (Arr2.mk 1 1), (Arr2.mk 2 2)] : List (Arr2 Int))] [F5_ r_14.1, F6_ ([(Arr2.mk 0 0), (Arr2.mk 0 3), (Arr2.mk 1 1), (Arr2.mk 2 2)] : List (Arr2 Int))] from inferInstance)
     rcases bifE hf0 with ⟨c4, hf0⟩ | ⟨c4, hf0⟩
     ·rcases bifE hf0 with ⟨c5, hf0⟩ | ⟨c5, hf0⟩
      ·rcases bifE hf0 with ⟨c6, hf0⟩ | ⟨c6, hf0⟩
       ·have o36 := shM (eI .i64) (eI .i64) ([0, 0, 0])
        obtain ⟨r_25, h25, hf0⟩ := bindE hf0
        have o37 := tabC_at (f := .fn 33 []) (xs := [F1_ r_15.1, (eI .i64) r_15.2.2, F3_ ([0, 0, 0] : List Int), (eI .i64) 0]) (ls := []) (r := B r_25) (ys := []) [F1_ r_15.1, (eI .i64) r_15.2.2, F1_ ([0, 0, 0] : List Int), (eI .i64) 0] (show LeTs [F1_ r_15.1, (eI .i64) r_15.2.2, F1_ ([0, 0, 0] : List Int), (eI .i64) 0] [F1_ r_15.1, (eI .i64) r_15.2.2, F3_ ([0, 0, 0] : List Int), (eI .i64) 0] from inferInstance)
        rcases bifE hf0 with ⟨c7, hf0⟩ | ⟨c7, hf0⟩
        ·rcases bifE hf0 with ⟨c8, hf0⟩ | ⟨c8, hf0⟩
         ·rcases bifE hf0 with ⟨c9, hf0⟩ | ⟨c9, hf0⟩
          ·rcases bifE hf0 with ⟨c10, hf0⟩ | ⟨c10, hf0⟩
           ·rcases bifE hf0 with ⟨c11, hf0⟩ | ⟨c11, hf0⟩
            ·rcases bifE hf0 with ⟨c12, hf0⟩ | ⟨c12, hf0⟩
             ·rcases bifE hf0 with ⟨c13, hf0⟩ | ⟨c13, hf0⟩
              ·rcases bifE hf0 with ⟨c14, hf0⟩ | ⟨c14, hf0⟩
               ·rcases bifE hf0 with ⟨c15, hf0⟩ | ⟨c15, hf0⟩
                ·rcases bifE hf0 with ⟨c16, hf0⟩ | ⟨c16, hf0⟩
                 ·rcases bifE hf0 with ⟨c17, hf0⟩ | ⟨c17, hf0⟩
                  ·rcases bifE hf0 with ⟨c18, hf0⟩ | ⟨c18, hf0⟩
                   ·obtain rfl := someE hf0
                    exact awpEnd ((xLend (P := Try.prog) TTab [] (lentCall (hasCall hC h_law10_list (x := (r_15.1, r_15.2.2, ([0, 0, 0] : List Int), 0)) h25)) 174).or ((xLend (P := Try.prog) TTab [] (lentCall (hasCall hC h_law10_pairs (x := (r_14.1, ([(Arr2.mk 0 0), (Arr2.mk 0 3), (Arr2.mk 1 1), (Arr2.mk 2 2)] : List (Arr2 Int)))) h24)) 161).or ((xLend (P := Try.prog) TTab [] (lentCall (hasCall hC h_law10_list (x := (r_12.1, r_12.2.2, ([] : List Int), 0)) h23)) 142).or X0))) TTab_ok hC hm hE 4000 (hs := (rpN 15 bT (.l (([(Arr2.mk 0 0), (Arr2.mk 0 3), (Arr2.mk 1 1), (Arr2.mk 2 2)]).map F0_) :: (rpN 10 bT (.l (([0, 0, 0]).map (eI .i64)) :: (rpN 34 bT [])))))) (x := (B (r_22.2 == 1))) (ob o33 :: ob c0 :: ob c0 :: ob c0 :: ob c1 :: ob c1 :: ob c2 :: ob c2 :: ob c2 :: (rpN 7 (ob c3) (ob o34 :: ob o35 :: ob c3 :: ob c4 :: ob c4 :: ob c5 :: ob c5 :: ob c5 :: (rpN 4 (ob c6) [ob o36, ob o37, ob c6, ob c7, ob c7, ob c8, ob c8, ob c9, ob c9, ob c9, ob c10, ob c10, ob c10, ob c11, ob c11, ob c11, ob c12, ob c12, ob c13, ob c13, ob c13, ob c14, ob c14, ob c14, ob c15, ob c15, ob c15, ob c16, ob c16, ob c16, ob c17, ob c17, ob c17, ob c18, ob c18, ob c18])))) (by kernel_rfl) (LeV.refl _)
                   ·obtain rfl := someE hf0
                    exact awpEnd ((xLend (P := Try.prog) TTab [] (lentCall (hasCall hC h_law10_list (x := (r_15.1, r_15.2.2, ([0, 0, 0] : List Int), 0)) h25)) 174).or ((xLend (P := Try.prog) TTab [] (lentCall (hasCall hC h_law10_pairs (x := (r_14.1, ([(Arr2.mk 0 0), (Arr2.mk 0 3), (Arr2.mk 1 1), (Arr2.mk 2 2)] : List (Arr2 Int)))) h24)) 161).or ((xLend (P := Try.prog) TTab [] (lentCall (hasCall hC h_law10_list (x := (r_12.1, r_12.2.2, ([] : List Int), 0)) h23)) 142).or X0))) TTab_ok hC hm hE 4000 (hs := (rpN 15 bT (.l (([(Arr2.mk 0 0), (Arr2.mk 0 3), (Arr2.mk 1 1), (Arr2.mk 2 2)]).map F0_) :: (rpN 10 bT (.l (([0, 0, 0]).map (eI .i64)) :: (rpN 31 bT [bF, bF, bF])))))) (x := (B false)) (ob o33 :: ob c0 :: ob c0 :: ob c0 :: ob c1 :: ob c1 :: ob c2 :: ob c2 :: ob c2 :: (rpN 7 (ob c3) (ob o34 :: ob o35 :: ob c3 :: ob c4 :: ob c4 :: ob c5 :: ob c5 :: ob c5 :: (rpN 4 (ob c6) [ob o36, ob o37, ob c6, ob c7, ob c7, ob c8, ob c8, ob c9, ob c9, ob c9, ob c10, ob c10, ob c10, ob c11, ob c11, ob c11, ob c12, ob c12, ob c13, ob c13, ob c13, ob c14, ob c14, ob c14, ob c15, ob c15, ob c15, ob c16, ob c16, ob c16, ob c17, ob c17, ob c17, ob c18, ob c18, ob c18])))) (by kernel_rfl) (LeV.refl _)
                  ·obtain rfl := someE hf0
                   exact awpEnd ((xLend (P := Try.prog) TTab [] (lentCall (hasCall hC h_law10_list (x := (r_15.1, r_15.2.2, ([0, 0, 0] : List Int), 0)) h25)) 174).or ((xLend (P := Try.prog) TTab [] (lentCall (hasCall hC h_law10_pairs (x := (r_14.1, ([(Arr2.mk 0 0), (Arr2.mk 0 3), (Arr2.mk 1 1), (Arr2.mk 2 2)] : List (Arr2 Int)))) h24)) 161).or ((xLend (P := Try.prog) TTab [] (lentCall (hasCall hC h_law10_list (x := (r_12.1, r_12.2.2, ([] : List Int), 0)) h23)) 142).or X0))) TTab_ok hC hm hE 4000 (hs := (rpN 15 bT (.l (([(Arr2.mk 0 0), (Arr2.mk 0 3), (Arr2.mk 1 1), (Arr2.mk 2 2)]).map F0_) :: (rpN 10 bT (.l (([0, 0, 0]).map (eI .i64)) :: (rpN 28 bT (rpN 6 bF []))))))) (x := (B false)) (ob o33 :: ob c0 :: ob c0 :: ob c0 :: ob c1 :: ob c1 :: ob c2 :: ob c2 :: ob c2 :: (rpN 7 (ob c3) (ob o34 :: ob o35 :: ob c3 :: ob c4 :: ob c4 :: ob c5 :: ob c5 :: ob c5 :: (rpN 4 (ob c6) [ob o36, ob o37, ob c6, ob c7, ob c7, ob c8, ob c8, ob c9, ob c9, ob c9, ob c10, ob c10, ob c10, ob c11, ob c11, ob c11, ob c12, ob c12, ob c13, ob c13, ob c13, ob c14, ob c14, ob c14, ob c15, ob c15, ob c15, ob c16, ob c16, ob c16, ob c17, ob c17, ob c17, oF, oF, oF])))) (by kernel_rfl) (LeV.refl _)
                 ·obtain rfl := someE hf0
                  exact awpEnd ((xLend (P := Try.prog) TTab [] (lentCall (hasCall hC h_law10_list (x := (r_15.1, r_15.2.2, ([0, 0, 0] : List Int), 0)) h25)) 174).or ((xLend (P := Try.prog) TTab [] (lentCall (hasCall hC h_law10_pairs (x := (r_14.1, ([(Arr2.mk 0 0), (Arr2.mk 0 3), (Arr2.mk 1 1), (Arr2.mk 2 2)] : List (Arr2 Int)))) h24)) 161).or ((xLend (P := Try.prog) TTab [] (lentCall (hasCall hC h_law10_list (x := (r_12.1, r_12.2.2, ([] : List Int), 0)) h23)) 142).or X0))) TTab_ok hC hm hE 4000 (hs := (rpN 15 bT (.l (([(Arr2.mk 0 0), (Arr2.mk 0 3), (Arr2.mk 1 1), (Arr2.mk 2 2)]).map F0_) :: (rpN 10 bT (.l (([0, 0, 0]).map (eI .i64)) :: (rpN 25 bT (rpN 9 bF []))))))) (x := (B false)) (ob o33 :: ob c0 :: ob c0 :: ob c0 :: ob c1 :: ob c1 :: ob c2 :: ob c2 :: ob c2 :: (rpN 7 (ob c3) (ob o34 :: ob o35 :: ob c3 :: ob c4 :: ob c4 :: ob c5 :: ob c5 :: ob c5 :: (rpN 4 (ob c6) (ob o36 :: ob o37 :: ob c6 :: ob c7 :: ob c7 :: ob c8 :: ob c8 :: ob c9 :: ob c9 :: ob c9 :: ob c10 :: ob c10 :: ob c10 :: ob c11 :: ob c11 :: ob c11 :: ob c12 :: ob c12 :: ob c13 :: ob c13 :: ob c13 :: ob c14 :: ob c14 :: ob c14 :: ob c15 :: ob c15 :: ob c15 :: ob c16 :: ob c16 :: ob c16 :: (rpN 6 oF [])))))) (by kernel_rfl) (LeV.refl _)
                ·obtain rfl := someE hf0
                 exact awpEnd ((xLend (P := Try.prog) TTab [] (lentCall (hasCall hC h_law10_list (x := (r_15.1, r_15.2.2, ([0, 0, 0] : List Int), 0)) h25)) 174).or ((xLend (P := Try.prog) TTab [] (lentCall (hasCall hC h_law10_pairs (x := (r_14.1, ([(Arr2.mk 0 0), (Arr2.mk 0 3), (Arr2.mk 1 1), (Arr2.mk 2 2)] : List (Arr2 Int)))) h24)) 161).or ((xLend (P := Try.prog) TTab [] (lentCall (hasCall hC h_law10_list (x := (r_12.1, r_12.2.2, ([] : List Int), 0)) h23)) 142).or X0))) TTab_ok hC hm hE 4000 (hs := (rpN 15 bT (.l (([(Arr2.mk 0 0), (Arr2.mk 0 3), (Arr2.mk 1 1), (Arr2.mk 2 2)]).map F0_) :: (rpN 10 bT (.l (([0, 0, 0]).map (eI .i64)) :: (rpN 22 bT (rpN 12 bF []))))))) (x := (B false)) (ob o33 :: ob c0 :: ob c0 :: ob c0 :: ob c1 :: ob c1 :: ob c2 :: ob c2 :: ob c2 :: (rpN 7 (ob c3) (ob o34 :: ob o35 :: ob c3 :: ob c4 :: ob c4 :: ob c5 :: ob c5 :: ob c5 :: (rpN 4 (ob c6) (ob o36 :: ob o37 :: ob c6 :: ob c7 :: ob c7 :: ob c8 :: ob c8 :: ob c9 :: ob c9 :: ob c9 :: ob c10 :: ob c10 :: ob c10 :: ob c11 :: ob c11 :: ob c11 :: ob c12 :: ob c12 :: ob c13 :: ob c13 :: ob c13 :: ob c14 :: ob c14 :: ob c14 :: ob c15 :: ob c15 :: ob c15 :: (rpN 9 oF [])))))) (by kernel_rfl) (LeV.refl _)
               ·obtain rfl := someE hf0
                exact awpEnd ((xLend (P := Try.prog) TTab [] (lentCall (hasCall hC h_law10_list (x := (r_15.1, r_15.2.2, ([0, 0, 0] : List Int), 0)) h25)) 174).or ((xLend (P := Try.prog) TTab [] (lentCall (hasCall hC h_law10_pairs (x := (r_14.1, ([(Arr2.mk 0 0), (Arr2.mk 0 3), (Arr2.mk 1 1), (Arr2.mk 2 2)] : List (Arr2 Int)))) h24)) 161).or ((xLend (P := Try.prog) TTab [] (lentCall (hasCall hC h_law10_list (x := (r_12.1, r_12.2.2, ([] : List Int), 0)) h23)) 142).or X0))) TTab_ok hC hm hE 4000 (hs := (rpN 15 bT (.l (([(Arr2.mk 0 0), (Arr2.mk 0 3), (Arr2.mk 1 1), (Arr2.mk 2 2)]).map F0_) :: (rpN 10 bT (.l (([0, 0, 0]).map (eI .i64)) :: (rpN 19 bT (rpN 15 bF []))))))) (x := (B false)) (ob o33 :: ob c0 :: ob c0 :: ob c0 :: ob c1 :: ob c1 :: ob c2 :: ob c2 :: ob c2 :: (rpN 7 (ob c3) (ob o34 :: ob o35 :: ob c3 :: ob c4 :: ob c4 :: ob c5 :: ob c5 :: ob c5 :: (rpN 4 (ob c6) (ob o36 :: ob o37 :: ob c6 :: ob c7 :: ob c7 :: ob c8 :: ob c8 :: ob c9 :: ob c9 :: ob c9 :: ob c10 :: ob c10 :: ob c10 :: ob c11 :: ob c11 :: ob c11 :: ob c12 :: ob c12 :: ob c13 :: ob c13 :: ob c13 :: ob c14 :: ob c14 :: ob c14 :: (rpN 12 oF [])))))) (by kernel_rfl) (LeV.refl _)
              ·obtain rfl := someE hf0
               exact awpEnd ((xLend (P := Try.prog) TTab [] (lentCall (hasCall hC h_law10_list (x := (r_15.1, r_15.2.2, ([0, 0, 0] : List Int), 0)) h25)) 174).or ((xLend (P := Try.prog) TTab [] (lentCall (hasCall hC h_law10_pairs (x := (r_14.1, ([(Arr2.mk 0 0), (Arr2.mk 0 3), (Arr2.mk 1 1), (Arr2.mk 2 2)] : List (Arr2 Int)))) h24)) 161).or ((xLend (P := Try.prog) TTab [] (lentCall (hasCall hC h_law10_list (x := (r_12.1, r_12.2.2, ([] : List Int), 0)) h23)) 142).or X0))) TTab_ok hC hm hE 4000 (hs := (rpN 15 bT (.l (([(Arr2.mk 0 0), (Arr2.mk 0 3), (Arr2.mk 1 1), (Arr2.mk 2 2)]).map F0_) :: (rpN 10 bT (.l (([0, 0, 0]).map (eI .i64)) :: (rpN 16 bT (rpN 18 bF []))))))) (x := (B false)) (ob o33 :: ob c0 :: ob c0 :: ob c0 :: ob c1 :: ob c1 :: ob c2 :: ob c2 :: ob c2 :: (rpN 7 (ob c3) (ob o34 :: ob o35 :: ob c3 :: ob c4 :: ob c4 :: ob c5 :: ob c5 :: ob c5 :: (rpN 4 (ob c6) (ob o36 :: ob o37 :: ob c6 :: ob c7 :: ob c7 :: ob c8 :: ob c8 :: ob c9 :: ob c9 :: ob c9 :: ob c10 :: ob c10 :: ob c10 :: ob c11 :: ob c11 :: ob c11 :: ob c12 :: ob c12 :: ob c13 :: ob c13 :: ob c13 :: (rpN 15 oF [])))))) (by kernel_rfl) (LeV.refl _)
             ·obtain rfl := someE hf0
              exact awpEnd ((xLend (P := Try.prog) TTab [] (lentCall (hasCall hC h_law10_list (x := (r_15.1, r_15.2.2, ([0, 0, 0] : List Int), 0)) h25)) 174).or ((xLend (P := Try.prog) TTab [] (lentCall (hasCall hC h_law10_pairs (x := (r_14.1, ([(Arr2.mk 0 0), (Arr2.mk 0 3), (Arr2.mk 1 1), (Arr2.mk 2 2)] : List (Arr2 Int)))) h24)) 161).or ((xLend (P := Try.prog) TTab [] (lentCall (hasCall hC h_law10_list (x := (r_12.1, r_12.2.2, ([] : List Int), 0)) h23)) 142).or X0))) TTab_ok hC hm hE 4000 (hs := (rpN 15 bT (.l (([(Arr2.mk 0 0), (Arr2.mk 0 3), (Arr2.mk 1 1), (Arr2.mk 2 2)]).map F0_) :: (rpN 10 bT (.l (([0, 0, 0]).map (eI .i64)) :: (rpN 14 bT (rpN 20 bF []))))))) (x := (B false)) (ob o33 :: ob c0 :: ob c0 :: ob c0 :: ob c1 :: ob c1 :: ob c2 :: ob c2 :: ob c2 :: (rpN 7 (ob c3) (ob o34 :: ob o35 :: ob c3 :: ob c4 :: ob c4 :: ob c5 :: ob c5 :: ob c5 :: (rpN 4 (ob c6) (ob o36 :: ob o37 :: ob c6 :: ob c7 :: ob c7 :: ob c8 :: ob c8 :: ob c9 :: ob c9 :: ob c9 :: ob c10 :: ob c10 :: ob c10 :: ob c11 :: ob c11 :: ob c11 :: ob c12 :: ob c12 :: (rpN 18 oF [])))))) (by kernel_rfl) (LeV.refl _)
            ·obtain rfl := someE hf0
             exact awpEnd ((xLend (P := Try.prog) TTab [] (lentCall (hasCall hC h_law10_list (x := (r_15.1, r_15.2.2, ([0, 0, 0] : List Int), 0)) h25)) 174).or ((xLend (P := Try.prog) TTab [] (lentCall (hasCall hC h_law10_pairs (x := (r_14.1, ([(Arr2.mk 0 0), (Arr2.mk 0 3), (Arr2.mk 1 1), (Arr2.mk 2 2)] : List (Arr2 Int)))) h24)) 161).or ((xLend (P := Try.prog) TTab [] (lentCall (hasCall hC h_law10_list (x := (r_12.1, r_12.2.2, ([] : List Int), 0)) h23)) 142).or X0))) TTab_ok hC hm hE 4000 (hs := (rpN 15 bT (.l (([(Arr2.mk 0 0), (Arr2.mk 0 3), (Arr2.mk 1 1), (Arr2.mk 2 2)]).map F0_) :: (rpN 10 bT (.l (([0, 0, 0]).map (eI .i64)) :: (rpN 11 bT (rpN 23 bF []))))))) (x := (B false)) (ob o33 :: ob c0 :: ob c0 :: ob c0 :: ob c1 :: ob c1 :: ob c2 :: ob c2 :: ob c2 :: (rpN 7 (ob c3) (ob o34 :: ob o35 :: ob c3 :: ob c4 :: ob c4 :: ob c5 :: ob c5 :: ob c5 :: (rpN 4 (ob c6) (ob o36 :: ob o37 :: ob c6 :: ob c7 :: ob c7 :: ob c8 :: ob c8 :: ob c9 :: ob c9 :: ob c9 :: ob c10 :: ob c10 :: ob c10 :: ob c11 :: ob c11 :: ob c11 :: (rpN 20 oF [])))))) (by kernel_rfl) (LeV.refl _)
           ·obtain rfl := someE hf0
            exact awpEnd ((xLend (P := Try.prog) TTab [] (lentCall (hasCall hC h_law10_list (x := (r_15.1, r_15.2.2, ([0, 0, 0] : List Int), 0)) h25)) 174).or ((xLend (P := Try.prog) TTab [] (lentCall (hasCall hC h_law10_pairs (x := (r_14.1, ([(Arr2.mk 0 0), (Arr2.mk 0 3), (Arr2.mk 1 1), (Arr2.mk 2 2)] : List (Arr2 Int)))) h24)) 161).or ((xLend (P := Try.prog) TTab [] (lentCall (hasCall hC h_law10_list (x := (r_12.1, r_12.2.2, ([] : List Int), 0)) h23)) 142).or X0))) TTab_ok hC hm hE 4000 (hs := (rpN 15 bT (.l (([(Arr2.mk 0 0), (Arr2.mk 0 3), (Arr2.mk 1 1), (Arr2.mk 2 2)]).map F0_) :: (rpN 10 bT (.l (([0, 0, 0]).map (eI .i64)) :: (rpN 8 bT (rpN 26 bF []))))))) (x := (B false)) (ob o33 :: ob c0 :: ob c0 :: ob c0 :: ob c1 :: ob c1 :: ob c2 :: ob c2 :: ob c2 :: (rpN 7 (ob c3) (ob o34 :: ob o35 :: ob c3 :: ob c4 :: ob c4 :: ob c5 :: ob c5 :: ob c5 :: (rpN 4 (ob c6) (ob o36 :: ob o37 :: ob c6 :: ob c7 :: ob c7 :: ob c8 :: ob c8 :: ob c9 :: ob c9 :: ob c9 :: ob c10 :: ob c10 :: ob c10 :: (rpN 23 oF [])))))) (by kernel_rfl) (LeV.refl _)
          ·obtain rfl := someE hf0
           exact awpEnd ((xLend (P := Try.prog) TTab [] (lentCall (hasCall hC h_law10_list (x := (r_15.1, r_15.2.2, ([0, 0, 0] : List Int), 0)) h25)) 174).or ((xLend (P := Try.prog) TTab [] (lentCall (hasCall hC h_law10_pairs (x := (r_14.1, ([(Arr2.mk 0 0), (Arr2.mk 0 3), (Arr2.mk 1 1), (Arr2.mk 2 2)] : List (Arr2 Int)))) h24)) 161).or ((xLend (P := Try.prog) TTab [] (lentCall (hasCall hC h_law10_list (x := (r_12.1, r_12.2.2, ([] : List Int), 0)) h23)) 142).or X0))) TTab_ok hC hm hE 4000 (hs := (rpN 15 bT (.l (([(Arr2.mk 0 0), (Arr2.mk 0 3), (Arr2.mk 1 1), (Arr2.mk 2 2)]).map F0_) :: (rpN 10 bT (.l (([0, 0, 0]).map (eI .i64)) :: (rpN 5 bT (rpN 29 bF []))))))) (x := (B false)) (ob o33 :: ob c0 :: ob c0 :: ob c0 :: ob c1 :: ob c1 :: ob c2 :: ob c2 :: ob c2 :: (rpN 7 (ob c3) (ob o34 :: ob o35 :: ob c3 :: ob c4 :: ob c4 :: ob c5 :: ob c5 :: ob c5 :: (rpN 4 (ob c6) (ob o36 :: ob o37 :: ob c6 :: ob c7 :: ob c7 :: ob c8 :: ob c8 :: ob c9 :: ob c9 :: ob c9 :: (rpN 26 oF [])))))) (by kernel_rfl) (LeV.refl _)
         ·obtain rfl := someE hf0
          exact awpEnd ((xLend (P := Try.prog) TTab [] (lentCall (hasCall hC h_law10_list (x := (r_15.1, r_15.2.2, ([0, 0, 0] : List Int), 0)) h25)) 174).or ((xLend (P := Try.prog) TTab [] (lentCall (hasCall hC h_law10_pairs (x := (r_14.1, ([(Arr2.mk 0 0), (Arr2.mk 0 3), (Arr2.mk 1 1), (Arr2.mk 2 2)] : List (Arr2 Int)))) h24)) 161).or ((xLend (P := Try.prog) TTab [] (lentCall (hasCall hC h_law10_list (x := (r_12.1, r_12.2.2, ([] : List Int), 0)) h23)) 142).or X0))) TTab_ok hC hm hE 4000 (hs := (rpN 15 bT (.l (([(Arr2.mk 0 0), (Arr2.mk 0 3), (Arr2.mk 1 1), (Arr2.mk 2 2)]).map F0_) :: (rpN 10 bT (.l (([0, 0, 0]).map (eI .i64)) :: bT :: bT :: bT :: (rpN 31 bF [])))))) (x := (B false)) (ob o33 :: ob c0 :: ob c0 :: ob c0 :: ob c1 :: ob c1 :: ob c2 :: ob c2 :: ob c2 :: (rpN 7 (ob c3) (ob o34 :: ob o35 :: ob c3 :: ob c4 :: ob c4 :: ob c5 :: ob c5 :: ob c5 :: (rpN 4 (ob c6) (ob o36 :: ob o37 :: ob c6 :: ob c7 :: ob c7 :: ob c8 :: ob c8 :: (rpN 29 oF [])))))) (by kernel_rfl) (LeV.refl _)
        ·obtain rfl := someE hf0
         exact awpEnd ((xLend (P := Try.prog) TTab [] (lentCall (hasCall hC h_law10_list (x := (r_15.1, r_15.2.2, ([0, 0, 0] : List Int), 0)) h25)) 174).or ((xLend (P := Try.prog) TTab [] (lentCall (hasCall hC h_law10_pairs (x := (r_14.1, ([(Arr2.mk 0 0), (Arr2.mk 0 3), (Arr2.mk 1 1), (Arr2.mk 2 2)] : List (Arr2 Int)))) h24)) 161).or ((xLend (P := Try.prog) TTab [] (lentCall (hasCall hC h_law10_list (x := (r_12.1, r_12.2.2, ([] : List Int), 0)) h23)) 142).or X0))) TTab_ok hC hm hE 4000 (hs := (rpN 15 bT (.l (([(Arr2.mk 0 0), (Arr2.mk 0 3), (Arr2.mk 1 1), (Arr2.mk 2 2)]).map F0_) :: (rpN 10 bT (.l (([0, 0, 0]).map (eI .i64)) :: bT :: (rpN 33 bF [])))))) (x := (B false)) (ob o33 :: ob c0 :: ob c0 :: ob c0 :: ob c1 :: ob c1 :: ob c2 :: ob c2 :: ob c2 :: (rpN 7 (ob c3) (ob o34 :: ob o35 :: ob c3 :: ob c4 :: ob c4 :: ob c5 :: ob c5 :: ob c5 :: (rpN 4 (ob c6) (ob o36 :: ob o37 :: ob c6 :: ob c7 :: ob c7 :: (rpN 31 oF [])))))) (by kernel_rfl) (LeV.refl _)
       ·obtain rfl := someE hf0
        exact awpEnd ((xLend (P := Try.prog) TTab [] (lentCall (hasCall hC h_law10_pairs (x := (r_14.1, ([(Arr2.mk 0 0), (Arr2.mk 0 3), (Arr2.mk 1 1), (Arr2.mk 2 2)] : List (Arr2 Int)))) h24)) 161).or ((xLend (P := Try.prog) TTab [] (lentCall (hasCall hC h_law10_list (x := (r_12.1, r_12.2.2, ([] : List Int), 0)) h23)) 142).or X0)) TTab_ok hC hm hE 4000 (hs := (rpN 15 bT (.l (([(Arr2.mk 0 0), (Arr2.mk 0 3), (Arr2.mk 1 1), (Arr2.mk 2 2)]).map F0_) :: (rpN 6 bT (rpN 38 bF []))))) (x := (B false)) (ob o33 :: ob c0 :: ob c0 :: ob c0 :: ob c1 :: ob c1 :: ob c2 :: ob c2 :: ob c2 :: (rpN 7 (ob c3) (ob o34 :: ob o35 :: ob c3 :: ob c4 :: ob c4 :: ob c5 :: ob c5 :: ob c5 :: (rpN 5 (ob c6) (rpN 33 oF []))))) (by kernel_rfl) (LeV.refl _)
      ·obtain rfl := someE hf0
       exact awpEnd ((xLend (P := Try.prog) TTab [] (lentCall (hasCall hC h_law10_pairs (x := (r_14.1, ([(Arr2.mk 0 0), (Arr2.mk 0 3), (Arr2.mk 1 1), (Arr2.mk 2 2)] : List (Arr2 Int)))) h24)) 161).or ((xLend (P := Try.prog) TTab [] (lentCall (hasCall hC h_law10_list (x := (r_12.1, r_12.2.2, ([] : List Int), 0)) h23)) 142).or X0)) TTab_ok hC hm hE 4000 (hs := (rpN 15 bT (.l (([(Arr2.mk 0 0), (Arr2.mk 0 3), (Arr2.mk 1 1), (Arr2.mk 2 2)]).map F0_) :: bT :: bT :: bT :: (rpN 41 bF [])))) (x := (B false)) (ob o33 :: ob c0 :: ob c0 :: ob c0 :: ob c1 :: ob c1 :: ob c2 :: ob c2 :: ob c2 :: (rpN 7 (ob c3) (ob o34 :: ob o35 :: ob c3 :: ob c4 :: ob c4 :: ob c5 :: ob c5 :: ob c5 :: (rpN 38 oF [])))) (by kernel_rfl) (LeV.refl _)
     ·obtain rfl := someE hf0
      exact awpEnd ((xLend (P := Try.prog) TTab [] (lentCall (hasCall hC h_law10_pairs (x := (r_14.1, ([(Arr2.mk 0 0), (Arr2.mk 0 3), (Arr2.mk 1 1), (Arr2.mk 2 2)] : List (Arr2 Int)))) h24)) 161).or ((xLend (P := Try.prog) TTab [] (lentCall (hasCall hC h_law10_list (x := (r_12.1, r_12.2.2, ([] : List Int), 0)) h23)) 142).or X0)) TTab_ok hC hm hE 4000 (hs := (rpN 15 bT (.l (([(Arr2.mk 0 0), (Arr2.mk 0 3), (Arr2.mk 1 1), (Arr2.mk 2 2)]).map F0_) :: bT :: (rpN 43 bF [])))) (x := (B false)) (ob o33 :: ob c0 :: ob c0 :: ob c0 :: ob c1 :: ob c1 :: ob c2 :: ob c2 :: ob c2 :: (rpN 7 (ob c3) (ob o34 :: ob o35 :: ob c3 :: ob c4 :: ob c4 :: (rpN 41 oF [])))) (by kernel_rfl) (LeV.refl _)
    ·obtain rfl := someE hf0
     exact awpEnd ((xLend (P := Try.prog) TTab [] (lentCall (hasCall hC h_law10_list (x := (r_12.1, r_12.2.2, ([] : List Int), 0)) h23)) 142).or X0) TTab_ok hC hm hE 4000 (hs := (rpN 8 bT (rpN 51 bF []))) (x := (B false)) (ob o33 :: ob c0 :: ob c0 :: ob c0 :: ob c1 :: ob c1 :: ob c2 :: ob c2 :: ob c2 :: (rpN 8 (ob c3) (rpN 43 oF []))) (by kernel_rfl) (LeV.refl _)
   ·obtain rfl := someE hf0
    exact awpEnd ((xLend (P := Try.prog) TTab [] (lentCall (hasCall hC h_law10_list (x := (r_12.1, r_12.2.2, ([] : List Int), 0)) h23)) 142).or X0) TTab_ok hC hm hE 4000 (hs := (rpN 5 bT (rpN 54 bF []))) (x := (B false)) (ob o33 :: ob c0 :: ob c0 :: ob c0 :: ob c1 :: ob c1 :: ob c2 :: ob c2 :: ob c2 :: (rpN 51 oF [])) (by kernel_rfl) (LeV.refl _)
  ·obtain rfl := someE hf0
   exact awpEnd ((xLend (P := Try.prog) TTab [] (lentCall (hasCall hC h_law10_list (x := (r_12.1, r_12.2.2, ([] : List Int), 0)) h23)) 142).or X0) TTab_ok hC hm hE 4000 (hs := (bT :: bT :: bT :: (rpN 56 bF []))) (x := (B false)) (ob o33 :: ob c0 :: ob c0 :: ob c0 :: ob c1 :: ob c1 :: (rpN 54 oF [])) (by kernel_rfl) (LeV.refl _)
 ·obtain rfl := someE hf0
  exact awpEnd ((xLend (P := Try.prog) TTab [] (lentCall (hasCall hC h_law10_list (x := (r_12.1, r_12.2.2, ([] : List Int), 0)) h23)) 142).or X0) TTab_ok hC hm hE 4000 (hs := (rpN 59 bF [])) (x := (B false)) (ob o33 :: ob c0 :: ob c0 :: ob c0 :: (rpN 56 oF [])) (by kernel_rfl) (LeV.refl _)
noncomputable def bd_law10_EqualsRelate : Code := (Try.f8.body).getD .skip
noncomputable def sp_law10_EqualsRelate : Spec := spF (α := S_law10_D × List (Arr2 Int)) (ρ := Bool) 8 (fun x => [F24_ x.1, (eSl 2 false (eArr2 (eI .u8))) x.2]) (fun r => eB r) (fun x => law10_EqualsRelate x.1 x.2) [] (by
  rintro ⟨a0, a1⟩ ⟨b0, b1⟩ h
  simp only [List.cons.injEq, and_true] at h
  have e0 := EncI.inj (f := F24_) _ _ h.1
  have e1 := EncI.inj (f := (eSl 2 false (eArr2 (eI .u8)))) _ _ h.2
  subst e0 e1
  rfl)
abbrev ST_law10_EqualsRelate_J4 : List (Nat × T) := []
abbrev ST_law10_EqualsRelate_J5 (r_ : S_api_Machine × S_api_Machine) (less : List (Arr2 Int)) : List (Nat × T) := [(5, .own (.box (F20_ r_.1))), (6, .own (.box (F20_ r_.2))), (18, .own (eOs 2 false F0_ less))]
abbrev ST_law10_EqualsRelate_J7 (more : List (Arr2 Int)) (r_ : S_api_Machine × S_api_Machine) (r_1 : List (Arr2 Int) × Bool × Int) (all1 : List (Arr2 Int)) (k_ : Int) (less2 : List (Arr2 Int)) : List (Nat × T) := [(5, .own (.box (F20_ r_.1))), (6, .own (.box (F20_ r_.2))), (7, .d (eSl 2 true F0_ r_1.1)), (12, .own (eOs 2 false F0_ all1)), (18, .own (eOs 2 false F0_ less2)), (19, .d (I (Int.tmod ((more.length : Nat) : Int) ((r_1.1.length : Nat) : Int)))), (20, .d (I k_))]
abbrev ST_law10_EqualsRelate_L6 (more : List (Arr2 Int)) (r_ : S_api_Machine × S_api_Machine) (r_1 : List (Arr2 Int) × Bool × Int) (all1 : List (Arr2 Int)) (less1 : List (Arr2 Int)) (k_ : Int) : List (Nat × T) := [(5, .own (.box (F20_ r_.1))), (6, .own (.box (F20_ r_.2))), (7, .d (eSl 2 true F0_ r_1.1)), (12, .own (eOs 2 false F0_ all1)), (18, .own (eOs 2 false F0_ less1)), (19, .d (I (Int.tmod ((more.length : Nat) : Int) ((r_1.1.length : Nat) : Int)))), (20, .d (I k_))]
abbrev ST_law10_EqualsRelate_J3 (more : List (Arr2 Int)) (r_ : S_api_Machine × S_api_Machine) (r_1 : List (Arr2 Int) × Bool × Int) (all1 : List (Arr2 Int)) : List (Nat × T) := [(1, .d (eSl 2 false (eArr2 (eI .u8)) more)), (5, .own (.box (F20_ r_.1))), (6, .own (.box (F20_ r_.2))), (7, .d (eSl 2 true F0_ r_1.1)), (8, .d (B r_1.2.1)), (12, .own (eOs 2 false F0_ all1))]
abbrev ST_law10_EqualsRelate_J2 (more : List (Arr2 Int)) (r_ : S_api_Machine × S_api_Machine) (r_1 : List (Arr2 Int) × Bool × Int) (all1 : List (Arr2 Int)) : List (Nat × T) := [(1, .d (eSl 2 false (eArr2 (eI .u8)) more)), (5, .own (.box (F20_ r_.1))), (6, .own (.box (F20_ r_.2))), (7, .d (eSl 2 true F0_ r_1.1)), (8, .d (B r_1.2.1)), (12, .own (eOs 2 false F0_ all1))]
abbrev ST_law10_EqualsRelate_L8 (more : List (Arr2 Int)) (r_ : S_api_Machine × S_api_Machine) (r_1 : List (Arr2 Int) × Bool × Int) (all2 : List (Arr2 Int)) (k_1 : Int) : List (Nat × T) := [(1, .d (eSl 2 false (eArr2 (eI .u8)) more)), (5, .own (.box (F20_ r_.1))), (6, .own (.box (F20_ r_.2))), (7, .d (eSl 2 true F0_ r_1.1)), (8, .d (B r_1.2.1)), (12, .own (eOs 2 false F0_ all2)), (15, .d (I k_1))]
abbrev ST_law10_EqualsRelate_J1 (more : List (Arr2 Int)) (r_ : S_api_Machine × S_api_Machine) (r_1 : List (Arr2 Int) × Bool × Int) (all : List (Arr2 Int)) : List (Nat × T) := [(1, .d (eSl 2 false (eArr2 (eI .u8)) more)), (5, .own (.box (F20_ r_.1))), (6, .own (.box (F20_ r_.2))), (7, .d (eSl 2 true F0_ r_1.1)), (8, .d (B r_1.2.1)), (12, .own (eOs 2 false F0_ all))]
theorem w_law10_EqualsRelate {ctr : Ctr} (hC : CtrOk Try.prog ctr) (hm : Try.prog.follows .mixedOrders = true) (h_law10_D_Of : ctr.Has sp_law10_D_Of) (h_equals_Relate : ctr.Has sp_equals_Relate) (h_ref10_Differ : ctr.Has sp_ref10_Differ) (h_ref10_Pairs : ctr.Has sp_ref10_Pairs) (h_law10_pairs : ctr.Has sp_law10_pairs) (h_equals_CheckRelation : ctr.Has sp_equals_CheckRelation) (h_ref10_Certifies : ctr.Has sp_ref10_Certifies) (h_law10_lives : ctr.Has sp_law10_lives) : sp_law10_EqualsRelate.Ok Try.prog := by
 refine spF_ok ?_
 rintro ⟨x_, more⟩ r0 hf0
 try unfold law10_EqualsRelate at hf0
 refine callOk_h (tt := TTab) (keep := true) (rs := [(4, none)]) (n := ⟨178, []⟩) (body := bd_law10_EqualsRelate) TTab_ok Try.func8 rfl (by kernel_rfl) rfl rfl (by show (2 : Nat) ≤ 178; decide) fun E hE => ?_
 rcases bifE hf0 with ⟨c0, hf0⟩ | ⟨c0, hf0⟩
 ·obtain rfl := someE hf0
  exact awpEnd X0 TTab_ok hC hm hE 4000 (hs := [aLn more.length, bT]) (x := (B true)) [ob (lnM (eArr2 (eI .u8)) more), ob c0] (by kernel_rfl) (LeV.refl _)
 ·obtain ⟨r_, h0, hf0⟩ := bindE hf0
  have o0 := hasF h_law10_D_Of (x := (S_law10_D.mk x_.M x_.X x_.Alike x_.Swap x_.Place x_.To)) h0 (loC F24_ (S_law10_D.mk x_.M x_.X x_.Alike x_.Swap x_.Place x_.To) <| loN)
  obtain ⟨r_1, h1, hf0⟩ := bindE hf0
  have o1 := hasF h_equals_Relate (x := (r_.1, r_.2)) h1 (loC F20_ r_.1 <| loC F20_ r_.2 <| loN)
  obtain ⟨r_2, h2, hf0⟩ := bindE hf0
  have o2 := hasF h_ref10_Differ (x := (r_.1, r_.2)) h2 (loC F20_ r_.1 <| loC F20_ r_.2 <| loN)
  rcases bifE hf0 with ⟨c1, hf0⟩ | ⟨c1, hf0⟩
  ·obtain rfl := someE hf0
   exact awpEnd X0 TTab_ok hC hm hE 4000 (hs := (aLn more.length :: bF :: .g [] :: .a (.tup [.agg [I r_.1.Inputs, I r_.1.Outputs, eSl 1 false F11_ r_.1.Rows], .agg [I r_.2.Inputs, I r_.2.Outputs, eSl 1 false F11_ r_.2.Rows]]) :: .g [] :: .a (.tup [eSl 2 true F0_ r_1.1, B r_1.2.1, I r_1.2.2]) :: .g [] :: .a (.tup [eSl 1 false (eI .i64) r_2.1, B r_2.2]) :: (rpN 5 bT []))) (x := (B false)) (ob (lnM (eArr2 (eI .u8)) more) :: ob c0 :: ob (hasG h_law10_D_Of) :: ob o0 :: ob (hasG h_equals_Relate) :: ob o1 :: ob (hasG h_ref10_Differ) :: ob o2 :: (rpN 4 (ob c1) [oT])) (by kernel_rfl) (LeV.refl _)
  ·rcases bifE hf0 with ⟨c2, hf0⟩ | ⟨c2, hf0⟩
   ·obtain rfl := someE hf0
    exact awpEnd X0 TTab_ok hC hm hE 4000 (hs := (aLn more.length :: bF :: .g [] :: .a (.tup [.agg [I r_.1.Inputs, I r_.1.Outputs, eSl 1 false F11_ r_.1.Rows], .agg [I r_.2.Inputs, I r_.2.Outputs, eSl 1 false F11_ r_.2.Rows]]) :: .g [] :: .a (.tup [eSl 2 true F0_ r_1.1, B r_1.2.1, I r_1.2.2]) :: .g [] :: .a (.tup [eSl 1 false (eI .i64) r_2.1, B r_2.2]) :: (rpN 4 bF [bT]))) (x := (B false)) (ob (lnM (eArr2 (eI .u8)) more) :: ob c0 :: ob (hasG h_law10_D_Of) :: ob o0 :: ob (hasG h_equals_Relate) :: ob o1 :: ob (hasG h_ref10_Differ) :: ob o2 :: (rpN 4 (ob c1) [ob c2])) (by kernel_rfl) (LeV.refl _)
   ·refine awpAt X0 TTab_ok hC hm [1, 5, 6, 7, 8, 12] 4000 (aLn more.length :: bF :: .g [] :: .a (.tup [.agg [I r_.1.Inputs, I r_.1.Outputs, eSl 1 false F11_ r_.1.Rows], .agg [I r_.2.Inputs, I r_.2.Outputs, eSl 1 false F11_ r_.2.Rows]]) :: .g [] :: .a (.tup [eSl 2 true F0_ r_1.1, B r_1.2.1, I r_1.2.2]) :: .g [] :: .a (.tup [eSl 1 false (eI .i64) r_2.1, B r_2.2]) :: (rpN 5 bF [.cut 1])) (sub [1, 1, 1, 1, 1, 1, 1] bd_law10_EqualsRelate) (frs [1, 1, 1, 1, 1, 1, 1] [] bd_law10_EqualsRelate []) [(1, .d (eSl 2 false (eArr2 (eI .u8)) more)), (5, .own (.box (F20_ r_.1))), (6, .own (.box (F20_ r_.2))), (7, .d (eSl 2 true F0_ r_1.1)), (8, .d (B r_1.2.1)), (12, .own (eOs 2 true F0_ []))] (ob (lnM (eArr2 (eI .u8)) more) :: ob c0 :: ob (hasG h_law10_D_Of) :: ob o0 :: ob (hasG h_equals_Relate) :: ob o1 :: ob (hasG h_ref10_Differ) :: ob o2 :: (rpN 4 (ob c1) [ob c2])) (by kernel_rfl) fun st0 h0 => ?_
    refine awpJoin' (X := List (Arr2 Int)) (x := (sub [1, 1, 1, 1, 1, 1, 1, 2] bd_law10_EqualsRelate)) (y := (sub [1, 1, 1, 1, 1, 1, 1, 1] bd_law10_EqualsRelate)) (by kernel_rfl) [1, 5, 6, 7, 8, 12] [1, 5, 6, 7, 8, 12] _ h0 (fun z => law10_EqualsRelate_J1 more r_ r_1 z = some r0) (fun z => ST_law10_EqualsRelate_J1 more r_ r_1 z) ?_ fun J1 hJ1 => ?_
    ·rintro all hf0
     unfold law10_EqualsRelate_J1 at hf0
     refine awpAt X0 TTab_ok hC hm [1, 5, 6, 7, 8, 12] 4000 [.cut 0] (sub [1, 1, 1, 1, 1, 1, 1, 1] bd_law10_EqualsRelate) (frs [1, 1, 1, 1, 1, 1, 1, 1] [] bd_law10_EqualsRelate []) [(1, .d (eSl 2 false (eArr2 (eI .u8)) more)), (5, .own (.box (F20_ r_.1))), (6, .own (.box (F20_ r_.2))), (7, .d (eSl 2 true F0_ r_1.1)), (8, .d (B r_1.2.1)), (12, .own (eOs 2 false F0_ all))] [] (by kernel_rfl) fun st0 h0 => ?_
     refine awpJoin' (X := List (Arr2 Int)) (x := (sub [1, 1, 1, 1, 1, 1, 1, 1, 2] bd_law10_EqualsRelate)) (y := (sub [1, 1, 1, 1, 1, 1, 1, 1, 1] bd_law10_EqualsRelate)) (by kernel_rfl) [1, 5, 6, 7, 8, 12] [1, 5, 6, 7, 8, 12] _ h0 (fun z => law10_EqualsRelate_J2 more r_ r_1 z = some r0) (fun z => ST_law10_EqualsRelate_J2 more r_ r_1 z) ?_ fun J2 hJ2 => ?_
     ·rintro all1 hf0
      unfold law10_EqualsRelate_J2 at hf0
      have o3 := shM F0_ F0_ all1
      obtain ⟨r_3, h3, hf0⟩ := bindE hf0
      have o4 := hasF h_equals_CheckRelation (x := (r_.1, r_.2, all1)) h3 (loC F20_ r_.1 <| loC F20_ r_.2 <| loC F6_ all1 <| loN)
      refine awpAt X0 TTab_ok hC hm [1, 5, 6, 7, 8, 12, 16, 17] 4000 [.g [], .l (all1.map F0_), .a (.tup [B r_3.1, I r_3.2]), .cut 0] (sub [1, 1, 1, 1, 1, 1, 1, 1, 1, 1] bd_law10_EqualsRelate) (frs [1, 1, 1, 1, 1, 1, 1, 1, 1, 1] [] bd_law10_EqualsRelate []) [(1, .d (eSl 2 false (eArr2 (eI .u8)) more)), (5, .own (.box (F20_ r_.1))), (6, .own (.box (F20_ r_.2))), (7, .d (eSl 2 true F0_ r_1.1)), (8, .d (B r_1.2.1)), (12, .own (eOs 2 false F0_ all1)), (16, .d (B r_3.1)), (17, .d (I r_3.2))] [ob (hasG h_equals_CheckRelation), ob o3, ob o4] (by kernel_rfl) fun st0 h0 => ?_
      refine awpJoin' (X := Unit) (x := (sub [1, 1, 1, 1, 1, 1, 1, 1, 1, 1, 2] bd_law10_EqualsRelate)) (y := (sub [1, 1, 1, 1, 1, 1, 1, 1, 1, 1, 1] bd_law10_EqualsRelate)) (by kernel_rfl) [1, 5, 6, 7, 8, 12] [1, 5, 6, 7, 8, 12, 16, 17] _ h0 (fun z => law10_EqualsRelate_J3 more r_ r_1 all1 = some r0) (fun z => ST_law10_EqualsRelate_J3 more r_ r_1 all1) ?_ fun J3 hJ3 => ?_
      ·rintro ⟨⟩ hf0
       unfold law10_EqualsRelate_J3 at hf0
       refine awpAt X0 TTab_ok hC hm [1, 5, 6, 7, 8, 12] 4000 [.cut 0] (sub [1, 1, 1, 1, 1, 1, 1, 1, 1, 1, 1] bd_law10_EqualsRelate) (frs [1, 1, 1, 1, 1, 1, 1, 1, 1, 1, 1] [] bd_law10_EqualsRelate []) [(1, .d (eSl 2 false (eArr2 (eI .u8)) more)), (5, .own (.box (F20_ r_.1))), (6, .own (.box (F20_ r_.2))), (7, .d (eSl 2 true F0_ r_1.1)), (8, .d (B r_1.2.1)), (12, .own (eOs 2 false F0_ all1))] [] (by kernel_rfl) fun st0 h0 => ?_
       refine awpJoin' (X := Unit) (x := (sub [1, 1, 1, 1, 1, 1, 1, 1, 1, 1, 1, 2] bd_law10_EqualsRelate)) (y := (sub [1, 1, 1, 1, 1, 1, 1, 1, 1, 1, 1, 1] bd_law10_EqualsRelate)) (by kernel_rfl) [] [1, 5, 6, 7, 8, 12] _ h0 (fun z => law10_EqualsRelate_J4 = some r0) (fun z => ST_law10_EqualsRelate_J4) ?_ fun J4 hJ4 => ?_
       ·rintro ⟨⟩ hf0
        unfold law10_EqualsRelate_J4 at hf0
        obtain ⟨r_4, h4, hf0⟩ := bindE hf0
        have o5 := hasF h_law10_lives (x := ()) h4 (loN)
        obtain rfl := someE hf0
        exact awpEnd X0 TTab_ok hC hm hE 4000 (hs := [.g [], .a (eB r_4)]) (x := (B r_4)) [ob (hasG h_law10_lives), ob o5] (by kernel_rfl) (LeV.refl _)
       ·rcases bifE hf0 with ⟨c3, hf0⟩ | ⟨c3, hf0⟩
        ·rcases bifE hf0 with ⟨c4, hf0⟩ | ⟨c4, hf0⟩
         ·obtain ⟨g0, hf0⟩ := gdE hf0
          refine awpAt X0 TTab_ok hC hm [5, 6, 7, 12, 18, 19] 4000 [bT, bT, aLn r_1.1.length, bT, bT, bT, aLn more.length, aLn r_1.1.length, .cut 0] (sub [1, 1, 1, 1, 1, 1, 1, 1, 1, 1, 1, 2, 1, 0, 1, 1] bd_law10_EqualsRelate) (frs [1, 1, 1, 1, 1, 1, 1, 1, 1, 1, 1, 2, 1, 0, 1, 1] [J4] bd_law10_EqualsRelate []) [(5, .own (.box (F20_ r_.1))), (6, .own (.box (F20_ r_.2))), (7, .d (eSl 2 true F0_ r_1.1)), (12, .own (eOs 2 false F0_ all1)), (18, .own (eOs 2 true F0_ [])), (19, .d (I (Int.tmod ((more.length : Nat) : Int) ((r_1.1.length : Nat) : Int))))] [ob c3, ob c3, ob (lnM F0_ r_1.1), ob c3, ob c3, ob c4, ob (lnM (eArr2 (eI .u8)) more), ob (lnM F0_ r_1.1), ob g0] (by kernel_rfl) fun st0 h0 => ?_
          refine awpJoin' (X := List (Arr2 Int)) (x := (sub [1, 1, 1, 1, 1, 1, 1, 1, 1, 1, 1, 2, 1, 0, 1, 1, 2] bd_law10_EqualsRelate)) (y := (sub [1, 1, 1, 1, 1, 1, 1, 1, 1, 1, 1, 2, 1, 0, 1, 1, 1] bd_law10_EqualsRelate)) (by kernel_rfl) [5, 6, 18] [5, 6, 7, 12, 18, 19] _ h0 (fun z => law10_EqualsRelate_J5 r_ z = some r0) (fun z => ST_law10_EqualsRelate_J5 r_ z) ?_ fun J5 hJ5 => ?_
          ·rintro less hf0
           unfold law10_EqualsRelate_J5 at hf0
           have o6 := shM F0_ F0_ less
           obtain ⟨r_5, h5, hf0⟩ := bindE hf0
           have o7 := hasF h_equals_CheckRelation (x := (r_.1, r_.2, less)) h5 (loC F20_ r_.1 <| loC F20_ r_.2 <| loC F6_ less <| loN)
           rcases bifE hf0 with ⟨c5, hf0⟩ | ⟨c5, hf0⟩
           ·obtain rfl := someE hf0
            exact awpEnd X0 TTab_ok hC hm hE 4000 (hs := (.g [] :: .l (less.map F0_) :: .a (.tup [B r_5.1, I r_5.2]) :: (rpN 4 bT []))) (x := (B false)) [ob (hasG h_equals_CheckRelation), ob o6, ob o7, ob c5, ob c5, ob c5, oT] (by kernel_rfl) (LeV.refl _)
           ·rcases bifE hf0 with ⟨c6, hf0⟩ | ⟨c6, hf0⟩
            ·obtain rfl := someE hf0
             exact awpEnd X0 TTab_ok hC hm hE 4000 (hs := [.g [], .l (less.map F0_), .a (.tup [B r_5.1, I r_5.2]), bF, bF, bF, bT]) (x := (B false)) [ob (hasG h_equals_CheckRelation), ob o6, ob o7, ob c5, ob c5, ob c5, ob c6] (by kernel_rfl) (LeV.refl _)
            ·exact awpBack X0 TTab_ok hC hm [] 4000 (.g [] :: .l (less.map F0_) :: .a (.tup [B r_5.1, I r_5.2]) :: (rpN 4 bF [])) J4 [] [ob (hasG h_equals_CheckRelation), ob o6, ob o7, ob c5, ob c5, ob c5, ob c6] (by kernel_rfl) fun st0 h0 => hJ4 st0 _ () hf0 h0 inferInstance
          ·obtain ⟨t6, ht6, hf0⟩ := bindE hf0
           refine awpAt X0 TTab_ok hC hm [5, 6, 7, 12, 18, 19, 20] 4000 [] (sub [1, 1, 1, 1, 1, 1, 1, 1, 1, 1, 1, 2, 1, 0, 1, 1, 2, 1, 0] bd_law10_EqualsRelate) (frs [1, 1, 1, 1, 1, 1, 1, 1, 1, 1, 1, 2, 1, 0, 1, 1, 2, 1, 0] [J4, J5] bd_law10_EqualsRelate []) [(5, .own (.box (F20_ r_.1))), (6, .own (.box (F20_ r_.2))), (7, .d (eSl 2 true F0_ r_1.1)), (12, .own (eOs 2 false F0_ all1)), (18, .own (eOs 2 true F0_ [])), (19, .d (I (Int.tmod ((more.length : Nat) : Int) ((r_1.1.length : Nat) : Int)))), (20, .d (I 0))] [] (by kernel_rfl) fun st0 h0 => ?_
           refine awpLoop' (X := (List (Arr2 Int) × Int) × Nat) (c' := (sub [1, 1, 1, 1, 1, 1, 1, 1, 1, 1, 1, 2, 1, 0, 1, 1, 2, 1, 0, 0] bd_law10_EqualsRelate)) (by kernel_rfl) [5, 6, 7, 12, 18, 19, 20] (fun x => loopN (fun s => law10_EqualsRelate_L6 more r_1 all1 s.1 s.2) x.2 x.1 = some t6) (fun x => x.2) (fun x => ST_law10_EqualsRelate_L6 more r_ r_1 all1 x.1.1 x.1.2) ((([] : List (Arr2 Int)), 0), fuel) _ h0 inferInstance ht6 ?_
           rintro ⟨⟨less1, k_⟩, n6⟩ hn6 J6 hJ6
           obtain ⟨m6, lr1, rfl, hf1, hl1⟩ := loopE hn6
           try unfold law10_EqualsRelate_L6 at hf1
           rcases bifE hf1 with ⟨c7, hf1⟩ | ⟨c7, hf1⟩
           ·refine awpAt X0 TTab_ok hC hm [5, 6, 7, 12, 18, 19, 20] 4000 [aLn all1.length, bT, .cut 0] (sub [1, 1, 1, 1, 1, 1, 1, 1, 1, 1, 1, 2, 1, 0, 1, 1, 2, 1, 0, 0, 1] bd_law10_EqualsRelate) (frs [1, 1, 1, 1, 1, 1, 1, 1, 1, 1, 1, 2, 1, 0, 1, 1, 2, 1, 0, 0, 1] [J4, J5, J6] bd_law10_EqualsRelate []) [(5, .own (.box (F20_ r_.1))), (6, .own (.box (F20_ r_.2))), (7, .d (eSl 2 true F0_ r_1.1)), (12, .own (eOs 2 false F0_ all1)), (18, .own (eOs 2 false F0_ less1)), (19, .d (I (Int.tmod ((more.length : Nat) : Int) ((r_1.1.length : Nat) : Int)))), (20, .d (I k_))] [ob (lnM F0_ all1), ob c7] (by kernel_rfl) fun st0 h0 => ?_
            refine awpJoin' (X := List (Arr2 Int)) (x := (sub [1, 1, 1, 1, 1, 1, 1, 1, 1, 1, 1, 2, 1, 0, 1, 1, 2, 1, 0, 0, 1, 2] bd_law10_EqualsRelate)) (y := (sub [1, 1, 1, 1, 1, 1, 1, 1, 1, 1, 1, 2, 1, 0, 1, 1, 2, 1, 0, 0, 1, 1] bd_law10_EqualsRelate)) (by kernel_rfl) [5, 6, 7, 12, 18, 19, 20] [5, 6, 7, 12, 18, 19, 20] _ h0 (fun z => law10_EqualsRelate_J7 k_ z = some lr1) (fun z => ST_law10_EqualsRelate_J7 more r_ r_1 all1 k_ z) ?_ fun J7 hJ7 => ?_
            ·rintro less2 hf1
             unfold law10_EqualsRelate_J7 at hf1
             obtain rfl := someE hf1
             exact awpBack X0 TTab_ok hC hm [5, 6, 7, 12, 18, 19, 20] 4000 [] J6 [(5, .own (.box (F20_ r_.1))), (6, .own (.box (F20_ r_.2))), (7, .d (eSl 2 true F0_ r_1.1)), (12, .own (eOs 2 false F0_ all1)), (18, .own (eOs 2 false F0_ less2)), (19, .d (I (Int.tmod ((more.length : Nat) : Int) ((r_1.1.length : Nat) : Int)))), (20, .d (I (w64 (k_ + 1))))] [] (by kernel_rfl) fun st0 h0 => hJ6 st0 _ ((less2, w64 (k_ + 1)), m6) hl1 (Nat.lt_succ_self m6) h0 inferInstance
            ·obtain ⟨all_e, h6, hf1⟩ := bindE hf1
             obtain ⟨u_, h7, hf1⟩ := bindE hf1
             rcases bifE hf1 with ⟨c8, hf1⟩ | ⟨c8, hf1⟩
             ·obtain ⟨all_e1, h8, hf1⟩ := bindE hf1
              have o8 := dM F0_ ([all_e1] : List (Arr2 Int))
              have o9 := dM F0_ ([all_e1] : List (Arr2 Int))
              obtain ⟨g1, hf1⟩ := gdE hf1
              have o10 := aL F0_ F0_ g1
              have o11 := aM F0_ less1 ([all_e1] : List (Arr2 Int))
              exact awpBack X0 TTab_ok hC hm [5, 6, 7, 12, 18, 19, 20] 4000 [.a (F0_ all_e), .a (F0_ u_), bT, .a (F0_ all_e1), bT, .l ((less1 ++ ([all_e1] : List (Arr2 Int))).map F0_)] J7 [(5, .own (.box (F20_ r_.1))), (6, .own (.box (F20_ r_.2))), (7, .d (eSl 2 true F0_ r_1.1)), (12, .own (eOs 2 false F0_ all1)), (18, .own (eOs 2 false F0_ (less1 ++ ([all_e1] : List (Arr2 Int))))), (19, .d (I (Int.tmod ((more.length : Nat) : Int) ((r_1.1.length : Nat) : Int)))), (20, .d (I k_))] [ob (iL F0_ h6), ob (iM F0_ h6), ob (i0 h7), ob (iM F0_ h7), ob c8, ob (iL F0_ h8), ob (iM F0_ h8), ob o8, ob o9, ob o10, ob o11] (by kernel_rfl) fun st0 h0 => hJ7 st0 _ (less1 ++ ([all_e1] : List (Arr2 Int))) hf1 h0 inferInstance
             ·exact awpBack X0 TTab_ok hC hm [5, 6, 7, 12, 18, 19, 20] 4000 [.a (F0_ all_e), .a (F0_ u_), bF] J7 [(5, .own (.box (F20_ r_.1))), (6, .own (.box (F20_ r_.2))), (7, .d (eSl 2 true F0_ r_1.1)), (12, .own (eOs 2 false F0_ all1)), (18, .own (eOs 2 false F0_ less1)), (19, .d (I (Int.tmod ((more.length : Nat) : Int) ((r_1.1.length : Nat) : Int)))), (20, .d (I k_))] [ob (iL F0_ h6), ob (iM F0_ h6), ob (i0 h7), ob (iM F0_ h7), ob c8] (by kernel_rfl) fun st0 h0 => hJ7 st0 _ less1 hf1 h0 inferInstance
           ·obtain rfl := someE hf1
            obtain rfl := hl1
            exact awpBack X0 TTab_ok hC hm [5, 6, 18] 4000 [aLn all1.length, bF] J5 [(5, .own (.box (F20_ r_.1))), (6, .own (.box (F20_ r_.2))), (18, .own (eOs 2 false F0_ less1))] [ob (lnM F0_ all1), ob c7] (by kernel_rfl) fun st0 h0 => hJ5 st0 _ less1 hf0 h0 inferInstance
         ·exact awpBack X0 TTab_ok hC hm [] 4000 [bT, bT, aLn r_1.1.length, bT, bT, bF] J4 [] [ob c3, ob c3, ob (lnM F0_ r_1.1), ob c3, ob c3, ob c4] (by kernel_rfl) fun st0 h0 => hJ4 st0 _ () hf0 h0 inferInstance
        ·exact awpBack X0 TTab_ok hC hm [] 4000 (rpN 5 bF []) J4 [] (rpN 4 (ob c3) [oF]) (by kernel_rfl) fun st0 h0 => hJ4 st0 _ () hf0 h0 inferInstance
      ·rcases bifE hf0 with ⟨c9, hf0⟩ | ⟨c9, hf0⟩
       ·obtain rfl := someE hf0
        exact awpEnd X0 TTab_ok hC hm hE 4000 (hs := (rpN 13 bT [])) (x := (B false)) (rpN 8 (ob c9) (rpN 5 oT [])) (by kernel_rfl) (LeV.refl _)
       ·have o12 := shM F0_ F0_ all1
        obtain ⟨r_6, h9, hf0⟩ := bindE hf0
        have o13 := hasF h_ref10_Certifies (x := (r_.1, r_.2, all1)) h9 (loC F20_ r_.1 <| loC F20_ r_.2 <| loC F6_ all1 <| loN)
        rcases bifE hf0 with ⟨c10, hf0⟩ | ⟨c10, hf0⟩
        ·obtain rfl := someE hf0
         exact awpEnd X0 TTab_ok hC hm hE 4000 (hs := (rpN 5 bF (.g [] :: .l (all1.map F0_) :: .a ((eI .i64) r_6) :: bF :: bF :: bF :: (rpN 5 bT [])))) (x := (B false)) (rpN 5 (ob c9) (ob (hasG h_ref10_Certifies) :: ob o12 :: ob o13 :: ob c9 :: ob c9 :: ob c9 :: (rpN 4 (ob c10) [oT]))) (by kernel_rfl) (LeV.refl _)
        ·rcases bifE hf0 with ⟨c11, hf0⟩ | ⟨c11, hf0⟩
         ·rcases bifE hf0 with ⟨c12, hf0⟩ | ⟨c12, hf0⟩
          ·obtain rfl := someE hf0
           exact awpEnd X0 TTab_ok hC hm hE 4000 (hs := (rpN 5 bF (.g [] :: .l (all1.map F0_) :: .a ((eI .i64) r_6) :: (rpN 5 bF [bT, bT, bF, bT, bF, bT])))) (x := (B false)) (rpN 5 (ob c9) [ob (hasG h_ref10_Certifies), ob o12, ob o13, ob c9, ob c9, ob c9, ob c10, ob c10, ob c11, ob c11, ob c10, ob c11, ob c10, ob c12]) (by kernel_rfl) (LeV.refl _)
          ·exact awpBack X0 TTab_ok hC hm [1, 5, 6, 7, 8, 12] 4000 (rpN 5 bF (.g [] :: .l (all1.map F0_) :: .a ((eI .i64) r_6) :: (rpN 5 bF [bT, bT, bF, bT, bF, bF]))) J3 [(1, .d (eSl 2 false (eArr2 (eI .u8)) more)), (5, .own (.box (F20_ r_.1))), (6, .own (.box (F20_ r_.2))), (7, .d (eSl 2 true F0_ r_1.1)), (8, .d (B r_1.2.1)), (12, .own (eOs 2 false F0_ all1))] (rpN 5 (ob c9) [ob (hasG h_ref10_Certifies), ob o12, ob o13, ob c9, ob c9, ob c9, ob c10, ob c10, ob c11, ob c11, ob c10, ob c11, ob c10, ob c12]) (by kernel_rfl) fun st0 h0 => hJ3 st0 _ () hf0 h0 inferInstance
         ·exact awpBack X0 TTab_ok hC hm [1, 5, 6, 7, 8, 12] 4000 (rpN 5 bF (.g [] :: .l (all1.map F0_) :: .a ((eI .i64) r_6) :: (rpN 11 bF []))) J3 [(1, .d (eSl 2 false (eArr2 (eI .u8)) more)), (5, .own (.box (F20_ r_.1))), (6, .own (.box (F20_ r_.2))), (7, .d (eSl 2 true F0_ r_1.1)), (8, .d (B r_1.2.1)), (12, .own (eOs 2 false F0_ all1))] (rpN 5 (ob c9) [ob (hasG h_ref10_Certifies), ob o12, ob o13, ob c9, ob c9, ob c9, ob c10, ob c10, ob c11, ob c11, ob c10, ob c11, ob c10, oF]) (by kernel_rfl) fun st0 h0 => hJ3 st0 _ () hf0 h0 inferInstance
     ·obtain ⟨t8, ht8, hf0⟩ := bindE hf0
      refine awpAt X0 TTab_ok hC hm [1, 5, 6, 7, 8, 12, 15] 4000 [] (sub [1, 1, 1, 1, 1, 1, 1, 1, 2, 1, 0] bd_law10_EqualsRelate) (frs [1, 1, 1, 1, 1, 1, 1, 1, 2, 1, 0] [J2] bd_law10_EqualsRelate []) [(1, .d (eSl 2 false (eArr2 (eI .u8)) more)), (5, .own (.box (F20_ r_.1))), (6, .own (.box (F20_ r_.2))), (7, .d (eSl 2 true F0_ r_1.1)), (8, .d (B r_1.2.1)), (12, .own (eOs 2 false F0_ all)), (15, .d (I 0))] [] (by kernel_rfl) fun st0 h0 => ?_
      refine awpLoop' (X := (List (Arr2 Int) × Int) × Nat) (c' := (sub [1, 1, 1, 1, 1, 1, 1, 1, 2, 1, 0, 0] bd_law10_EqualsRelate)) (by kernel_rfl) [1, 5, 6, 7, 8, 12, 15] (fun x => loopN (fun s => law10_EqualsRelate_L8 more r_ s.1 s.2) x.2 x.1 = some t8) (fun x => x.2) (fun x => ST_law10_EqualsRelate_L8 more r_ r_1 x.1.1 x.1.2) ((all, 0), fuel) _ h0 inferInstance ht8 ?_
      rintro ⟨⟨all2, k_1⟩, n8⟩ hn8 J8 hJ8
      obtain ⟨m8, lr1, rfl, hf1, hl1⟩ := loopE hn8
      try unfold law10_EqualsRelate_L8 at hf1
      rcases bifE hf1 with ⟨c13, hf1⟩ | ⟨c13, hf1⟩
      ·obtain ⟨more_e, h10, hf1⟩ := bindE hf1
       have o14 := lnM F11_ r_.1.Rows
       obtain ⟨g2, hf1⟩ := gdE hf1
       obtain ⟨more_e1, h11, hf1⟩ := bindE hf1
       have o15 := lnM F11_ r_.2.Rows
       obtain ⟨g3, hf1⟩ := gdE hf1
       have o16 := dM F0_ ([(Arr2.mk (Int.tmod (w64 (more_e.e0)) ((r_.1.Rows.length : Nat) : Int)) (Int.tmod (w64 (more_e1.e1)) ((r_.2.Rows.length : Nat) : Int)))] : List (Arr2 Int))
       have o17 := dM F0_ ([(Arr2.mk (Int.tmod (w64 (more_e.e0)) ((r_.1.Rows.length : Nat) : Int)) (Int.tmod (w64 (more_e1.e1)) ((r_.2.Rows.length : Nat) : Int)))] : List (Arr2 Int))
       obtain ⟨g4, hf1⟩ := gdE hf1
       have o18 := aL F0_ F0_ g4
       have o19 := aM F0_ all2 ([(Arr2.mk (Int.tmod (w64 (more_e.e0)) ((r_.1.Rows.length : Nat) : Int)) (Int.tmod (w64 (more_e1.e1)) ((r_.2.Rows.length : Nat) : Int)))] : List (Arr2 Int))
       obtain rfl := someE hf1
       exact awpBack X0 TTab_ok hC hm [1, 5, 6, 7, 8, 12, 15] 4000 [aLn more.length, bT, .a ((eArr2 (eI .u8)) more_e), .a (.atom (.int .u8 more_e.e0)), aLn r_.1.Rows.length, .a ((eArr2 (eI .u8)) more_e1), .a (.atom (.int .u8 more_e1.e1)), aLn r_.2.Rows.length, bT, .l ((all2 ++ ([(Arr2.mk (Int.tmod (w64 (more_e.e0)) ((r_.1.Rows.length : Nat) : Int)) (Int.tmod (w64 (more_e1.e1)) ((r_.2.Rows.length : Nat) : Int)))] : List (Arr2 Int))).map F0_)] J8 [(1, .d (eSl 2 false (eArr2 (eI .u8)) more)), (5, .own (.box (F20_ r_.1))), (6, .own (.box (F20_ r_.2))), (7, .d (eSl 2 true F0_ r_1.1)), (8, .d (B r_1.2.1)), (12, .own (eOs 2 false F0_ (all2 ++ ([(Arr2.mk (Int.tmod (w64 (more_e.e0)) ((r_.1.Rows.length : Nat) : Int)) (Int.tmod (w64 (more_e1.e1)) ((r_.2.Rows.length : Nat) : Int)))] : List (Arr2 Int))))), (15, .d (I (w64 (k_1 + 1))))] [ob (lnM (eArr2 (eI .u8)) more), ob c13, ob (i0 h10), ob (iM (eArr2 (eI .u8)) h10), ob (rfl : some (.atom (.int .u8 more_e.e0) : A) = some (.atom (.int .u8 more_e.e0) : A)), ob (rfl : true = true), ob o14, ob g2, ob (i0 h11), ob (iM (eArr2 (eI .u8)) h11), ob (rfl : some (.atom (.int .u8 more_e1.e1) : A) = some (.atom (.int .u8 more_e1.e1) : A)), ob (rfl : true = true), ob o15, ob g3, ob o16, ob o17, ob o18, ob o19] (by kernel_rfl) fun st0 h0 => hJ8 st0 _ (((all2 ++ ([(Arr2.mk (Int.tmod (w64 (more_e.e0)) ((r_.1.Rows.length : Nat) : Int)) (Int.tmod (w64 (more_e1.e1)) ((r_.2.Rows.length : Nat) : Int)))] : List (Arr2 Int))), w64 (k_1 + 1)), m8) hl1 (Nat.lt_succ_self m8) h0 inferInstance
      ·obtain rfl := someE hf1
       obtain rfl := hl1
       exact awpBack X0 TTab_ok hC hm [1, 5, 6, 7, 8, 12] 4000 [aLn more.length, bF] J2 [(1, .d (eSl 2 false (eArr2 (eI .u8)) more)), (5, .own (.box (F20_ r_.1))), (6, .own (.box (F20_ r_.2))), (7, .d (eSl 2 true F0_ r_1.1)), (8, .d (B r_1.2.1)), (12, .own (eOs 2 false F0_ all2))] [ob (lnM (eArr2 (eI .u8)) more), ob c13] (by kernel_rfl) fun st0 h0 => hJ2 st0 _ all2 hf0 h0 inferInstance
    ·rcases bifE hf0 with ⟨c14, hf0⟩ | ⟨c14, hf0⟩
     ·obtain ⟨r_7, h12, hf0⟩ := bindE hf0
      have o20 := hasF h_ref10_Pairs (x := (r_.1, r_.2)) h12 (loC F20_ r_.1 <| loC F20_ r_.2 <| loN)
      have o21 := shM F0_ F0_ r_7
      obtain ⟨r_8, h13, hf0⟩ := bindE hf0
      have o22 := tabC_at (f := .fn 43 []) (xs := [F5_ r_1.1, F6_ r_7]) (ls := []) (r := B r_8) (ys := []) [F5_ r_1.1, F6_ r_7] (show LeTs [F5_ r_1.1, F6_ r_7] [F5_ r_1.1, F6_ r_7] from inferInstance)
      rcases bifE hf0 with ⟨c15, hf0⟩ | ⟨c15, hf0⟩
      ·obtain rfl := someE hf0
       exact awpEnd ((xLend (P := Try.prog) TTab [] (lentCall (hasCall hC h_law10_pairs (x := (r_1.1, r_7)) h13)) 56).or X0) TTab_ok hC hm hE 4000 (hs := [bT, .g [], .a (F7_ r_7), .l (r_7.map F0_), bT]) (x := (B false)) [ob c14, ob (hasG h_ref10_Pairs), ob o20, ob o21, ob o22, ob c15] (by kernel_rfl) (LeV.refl _)
      ·obtain ⟨r_9, h14, hf0⟩ := bindE hf0
       have o23 := hasF h_equals_CheckRelation (x := (r_.1, r_.2, r_1.1)) h14 (loC F20_ r_.1 <| loC F20_ r_.2 <| loC F5_ r_1.1 <| loN)
       rcases bifE hf0 with ⟨c16, hf0⟩ | ⟨c16, hf0⟩
       ·obtain rfl := someE hf0
        exact awpEnd ((xLend (P := Try.prog) TTab [] (lentCall (hasCall hC h_law10_pairs (x := (r_1.1, r_7)) h13)) 56).or X0) TTab_ok hC hm hE 4000 (hs := (bT :: .g [] :: .a (F7_ r_7) :: .l (r_7.map F0_) :: bF :: .g [] :: .a (.tup [B r_9.1, I r_9.2]) :: (rpN 4 bT []))) (x := (B false)) [ob c14, ob (hasG h_ref10_Pairs), ob o20, ob o21, ob o22, ob c15, ob (hasG h_equals_CheckRelation), ob o23, ob c16, ob c16, ob c16, oT] (by kernel_rfl) (LeV.refl _)
       ·rcases bifE hf0 with ⟨c17, hf0⟩ | ⟨c17, hf0⟩
        ·obtain rfl := someE hf0
         exact awpEnd ((xLend (P := Try.prog) TTab [] (lentCall (hasCall hC h_law10_pairs (x := (r_1.1, r_7)) h13)) 56).or X0) TTab_ok hC hm hE 4000 (hs := [bT, .g [], .a (F7_ r_7), .l (r_7.map F0_), bF, .g [], .a (.tup [B r_9.1, I r_9.2]), bF, bF, bF, bT]) (x := (B false)) [ob c14, ob (hasG h_ref10_Pairs), ob o20, ob o21, ob o22, ob c15, ob (hasG h_equals_CheckRelation), ob o23, ob c16, ob c16, ob c16, ob c17] (by kernel_rfl) (LeV.refl _)
        ·obtain ⟨g5, hf0⟩ := gdE hf0
         have o24 := aL F0_ F0_ g5
         exact awpBack ((xLend (P := Try.prog) TTab [] (lentCall (hasCall hC h_law10_pairs (x := (r_1.1, r_7)) h13)) 56).or X0) TTab_ok hC hm [1, 5, 6, 7, 8, 12] 4000 (bT :: .g [] :: .a (F7_ r_7) :: .l (r_7.map F0_) :: bF :: .g [] :: .a (.tup [B r_9.1, I r_9.2]) :: (rpN 4 bF [.l (r_1.1.map F0_)])) J1 [(1, .d (eSl 2 false (eArr2 (eI .u8)) more)), (5, .own (.box (F20_ r_.1))), (6, .own (.box (F20_ r_.2))), (7, .d (eSl 2 true F0_ r_1.1)), (8, .d (B r_1.2.1)), (12, .own (eOs 2 false F0_ r_1.1))] [ob c14, ob (hasG h_ref10_Pairs), ob o20, ob o21, ob o22, ob c15, ob (hasG h_equals_CheckRelation), ob o23, ob c16, ob c16, ob c16, ob c17, ob (dM F0_ r_1.1), ob o24, ob (aM0 F0_ r_1.1)] (by kernel_rfl) fun st0 h0 => hJ1 st0 _ r_1.1 hf0 h0 inferInstance
     ·rcases bifE hf0 with ⟨c18, hf0⟩ | ⟨c18, hf0⟩
      ·obtain rfl := someE hf0
       exact awpEnd X0 TTab_ok hC hm hE 4000 (hs := [bF, aLn r_1.1.length, bT]) (x := (B false)) [ob c14, ob (lnM F0_ r_1.1), ob c18] (by kernel_rfl) (LeV.refl _)
      ·exact awpBack X0 TTab_ok hC hm [1, 5, 6, 7, 8, 12] 4000 [bF, aLn r_1.1.length, bF] J1 [(1, .d (eSl 2 false (eArr2 (eI .u8)) more)), (5, .own (.box (F20_ r_.1))), (6, .own (.box (F20_ r_.2))), (7, .d (eSl 2 true F0_ r_1.1)), (8, .d (B r_1.2.1)), (12, .own (eOs 2 true F0_ []))] [ob c14, ob (lnM F0_ r_1.1), ob c18] (by kernel_rfl) fun st0 h0 => hJ1 st0 _ ([] : List (Arr2 Int)) hf0 h0 inferInstance
end Go.Own

namespace Go.Own
open Go.Proofs
set_option linter.unusedVariables false
theorem ks_ne {l : List Spec} {s : Spec} (h : ((l.map Spec.k).contains s.k) = false) : ∀ t ∈ l, t.k ≠ s.k := by
  intro t ht e
  have : (l.map Spec.k).contains s.k = true := by
    rw [List.contains_iff_mem, ← e]
    exact List.mem_map_of_mem ht
  rw [h] at this
  cases this
theorem has_at {l : List Spec} {c : Ctr} (H : ∀ t ∈ l, c.Has t) (i : Nat) {s : Spec} (h : l[i]? = some s) : c.Has s := H _ (List.mem_of_getElem? h)
theorem orders : Try.prog.follows .mixedOrders = true := by kernel_rfl
noncomputable def L0 : List Spec := sp_law04_M_Of :: []
noncomputable def L1 : List Spec := sp_ref04_Copy :: L0
noncomputable def L2 : List Spec := sp_ref04_Check :: L1
noncomputable def L3 : List Spec := sp_law10_D_Of :: L2
noncomputable def L4 : List Spec := sp_machines_none :: L3
noncomputable def L5 : List Spec := sp_machines_fits :: L4
noncomputable def L6 : List Spec := sp_machines_Check_1 :: L5
noncomputable def L7 : List Spec := sp_slices_IndexFunc_api_Edge_api_Edge :: L6
noncomputable def L8 : List Spec := sp_slices_ContainsFunc_api_Edge_api_Edge :: L7
noncomputable def L9 : List Spec := sp_machines_Check :: L8
noncomputable def L10 : List Spec := sp_cmp_Or_api_Errno :: L9
noncomputable def L11 : List Spec := sp_equals_both :: L10
noncomputable def L12 : List Spec := sp_equals_meets :: L11
noncomputable def L13 : List Spec := sp_slices_Clip_int_int :: L12
noncomputable def L14 : List Spec := sp_equals_word :: L13
noncomputable def L15 : List Spec := sp_slices_Index_2_int_2_int :: L14
noncomputable def L16 : List Spec := sp_slices_Contains_2_int_2_int :: L15
noncomputable def L17 : List Spec := sp_equals_differ :: L16
noncomputable def L18 : List Spec := sp_cmp_isNaN_int :: L17
noncomputable def L19 : List Spec := sp_cmp_Compare_int :: L18
noncomputable def L20 : List Spec := sp_slices_Compare_int_int :: L19
noncomputable def L21 : List Spec := sp_equals_Relate_1 :: L20
noncomputable def L22 : List Spec := sp_slices_Clip_2_int_2_int :: L21
noncomputable def L23 : List Spec := sp_equals_Relate :: L22
noncomputable def L24 : List Spec := sp_ref10_Beside :: L23
noncomputable def L25 : List Spec := sp_ref07_apart :: L24
noncomputable def L26 : List Spec := sp_ref07_Marked :: L25
noncomputable def L27 : List Spec := sp_ref10_Differ :: L26
noncomputable def L28 : List Spec := sp_ref10_Pairs :: L27
noncomputable def L29 : List Spec := sp_law10_pairs :: L28
noncomputable def L30 : List Spec := sp_equals_CheckRelation :: L29
noncomputable def L31 : List Spec := sp_ref10_In :: L30
noncomputable def L32 : List Spec := sp_ref10_Certifies :: L31
noncomputable def L33 : List Spec := sp_law10_edge :: L32
noncomputable def L34 : List Spec := sp_equals_Differ :: L33
noncomputable def L35 : List Spec := sp_equals_Equal :: L34
noncomputable def L36 : List Spec := sp_equals_Within :: L35
noncomputable def L37 : List Spec := sp_ref01_Compare :: L36
noncomputable def L38 : List Spec := sp_ref01_Same :: L37
noncomputable def L39 : List Spec := sp_law10_list :: L38
noncomputable def L40 : List Spec := sp_law10_lives :: L39
noncomputable def L41 : List Spec := sp_law10_EqualsRelate :: L40
theorem L0_ok : SpecsOk Try.prog L0 := ⟨fun _ hC H => w_law04_M_Of hC orders, ks_ne (by kernel_rfl), trivial⟩
theorem L1_ok : SpecsOk Try.prog L1 := ⟨fun _ hC H => w_ref04_Copy hC orders, ks_ne (by kernel_rfl), L0_ok⟩
theorem L2_ok : SpecsOk Try.prog L2 := ⟨fun _ hC H => w_ref04_Check hC orders, ks_ne (by kernel_rfl), L1_ok⟩
theorem L3_ok : SpecsOk Try.prog L3 := ⟨fun _ hC H => w_law10_D_Of hC orders (has_at H 2 rfl) (has_at H 1 rfl) (has_at H 0 rfl), ks_ne (by kernel_rfl), L2_ok⟩
theorem L4_ok : SpecsOk Try.prog L4 := ⟨fun _ hC H => w_machines_none hC orders, ks_ne (by kernel_rfl), L3_ok⟩
theorem L5_ok : SpecsOk Try.prog L5 := ⟨fun _ hC H => w_machines_fits hC orders (has_at H 0 rfl), ks_ne (by kernel_rfl), L4_ok⟩
theorem L6_ok : SpecsOk Try.prog L6 := ⟨fun _ hC H => w_machines_Check_1 hC orders (has_at H 0 rfl), ks_ne (by kernel_rfl), L5_ok⟩
theorem L7_ok : SpecsOk Try.prog L7 := ⟨fun _ hC H => w_slices_IndexFunc_api_Edge_api_Edge hC orders (has_at H 0 rfl), ks_ne (by kernel_rfl), L6_ok⟩
theorem L8_ok : SpecsOk Try.prog L8 := ⟨fun _ hC H => w_slices_ContainsFunc_api_Edge_api_Edge hC orders (has_at H 0 rfl), ks_ne (by kernel_rfl), L7_ok⟩
theorem L9_ok : SpecsOk Try.prog L9 := ⟨fun _ hC H => w_machines_Check hC orders (has_at H 0 rfl), ks_ne (by kernel_rfl), L8_ok⟩
theorem L10_ok : SpecsOk Try.prog L10 := ⟨fun _ hC H => w_cmp_Or_api_Errno hC orders, ks_ne (by kernel_rfl), L9_ok⟩
theorem L11_ok : SpecsOk Try.prog L11 := ⟨fun _ hC H => w_equals_both hC orders (has_at H 1 rfl) (has_at H 0 rfl), ks_ne (by kernel_rfl), L10_ok⟩
theorem L12_ok : SpecsOk Try.prog L12 := ⟨fun _ hC H => w_equals_meets hC orders, ks_ne (by kernel_rfl), L11_ok⟩
theorem L13_ok : SpecsOk Try.prog L13 := ⟨fun _ hC H => w_slices_Clip_int_int hC orders, ks_ne (by kernel_rfl), L12_ok⟩
theorem L14_ok : SpecsOk Try.prog L14 := ⟨fun _ hC H => w_equals_word hC orders (has_at H 0 rfl), ks_ne (by kernel_rfl), L13_ok⟩
theorem L15_ok : SpecsOk Try.prog L15 := ⟨fun _ hC H => w_slices_Index_2_int_2_int hC orders, ks_ne (by kernel_rfl), L14_ok⟩
theorem L16_ok : SpecsOk Try.prog L16 := ⟨fun _ hC H => w_slices_Contains_2_int_2_int hC orders (has_at H 0 rfl), ks_ne (by kernel_rfl), L15_ok⟩
theorem L17_ok : SpecsOk Try.prog L17 := ⟨fun _ hC H => w_equals_differ hC orders (has_at H 4 rfl) (has_at H 2 rfl) (has_at H 0 rfl), ks_ne (by kernel_rfl), L16_ok⟩
theorem L18_ok : SpecsOk Try.prog L18 := ⟨fun _ hC H => w_cmp_isNaN_int hC orders, ks_ne (by kernel_rfl), L17_ok⟩
theorem L19_ok : SpecsOk Try.prog L19 := ⟨fun _ hC H => w_cmp_Compare_int hC orders (has_at H 0 rfl), ks_ne (by kernel_rfl), L18_ok⟩
theorem L20_ok : SpecsOk Try.prog L20 := ⟨fun _ hC H => w_slices_Compare_int_int hC orders (has_at H 0 rfl), ks_ne (by kernel_rfl), L19_ok⟩
theorem L21_ok : SpecsOk Try.prog L21 := ⟨fun _ hC H => w_equals_Relate_1 hC orders (has_at H 0 rfl), ks_ne (by kernel_rfl), L20_ok⟩
theorem L22_ok : SpecsOk Try.prog L22 := ⟨fun _ hC H => w_slices_Clip_2_int_2_int hC orders, ks_ne (by kernel_rfl), L21_ok⟩
theorem L23_ok : SpecsOk Try.prog L23 := ⟨fun _ hC H => w_equals_Relate hC orders (has_at H 11 rfl) (has_at H 5 rfl) (has_at H 1 rfl) (has_at H 0 rfl), ks_ne (by kernel_rfl), L22_ok⟩
theorem L24_ok : SpecsOk Try.prog L24 := ⟨fun _ hC H => w_ref10_Beside hC orders, ks_ne (by kernel_rfl), L23_ok⟩
theorem L25_ok : SpecsOk Try.prog L25 := ⟨fun _ hC H => w_ref07_apart hC orders, ks_ne (by kernel_rfl), L24_ok⟩
theorem L26_ok : SpecsOk Try.prog L26 := ⟨fun _ hC H => w_ref07_Marked hC orders (has_at H 0 rfl), ks_ne (by kernel_rfl), L25_ok⟩
theorem L27_ok : SpecsOk Try.prog L27 := ⟨fun _ hC H => w_ref10_Differ hC orders (has_at H 2 rfl) (has_at H 0 rfl), ks_ne (by kernel_rfl), L26_ok⟩
theorem L28_ok : SpecsOk Try.prog L28 := ⟨fun _ hC H => w_ref10_Pairs hC orders, ks_ne (by kernel_rfl), L27_ok⟩
theorem L29_ok : SpecsOk Try.prog L29 := ⟨fun _ hC H => w_law10_pairs hC orders, ks_ne (by kernel_rfl), L28_ok⟩
theorem L30_ok : SpecsOk Try.prog L30 := ⟨fun _ hC H => w_equals_CheckRelation hC orders (has_at H 18 rfl), ks_ne (by kernel_rfl), L29_ok⟩
theorem L31_ok : SpecsOk Try.prog L31 := ⟨fun _ hC H => w_ref10_In hC orders, ks_ne (by kernel_rfl), L30_ok⟩
theorem L32_ok : SpecsOk Try.prog L32 := ⟨fun _ hC H => w_ref10_Certifies hC orders (has_at H 0 rfl), ks_ne (by kernel_rfl), L31_ok⟩
theorem L33_ok : SpecsOk Try.prog L33 := ⟨fun _ hC H => w_law10_edge hC orders, ks_ne (by kernel_rfl), L32_ok⟩
theorem L34_ok : SpecsOk Try.prog L34 := ⟨fun _ hC H => w_equals_Differ hC orders (has_at H 22 rfl) (has_at H 16 rfl), ks_ne (by kernel_rfl), L33_ok⟩
theorem L35_ok : SpecsOk Try.prog L35 := ⟨fun _ hC H => w_equals_Equal hC orders (has_at H 0 rfl), ks_ne (by kernel_rfl), L34_ok⟩
theorem L36_ok : SpecsOk Try.prog L36 := ⟨fun _ hC H => w_equals_Within hC orders (has_at H 1 rfl), ks_ne (by kernel_rfl), L35_ok⟩
theorem L37_ok : SpecsOk Try.prog L37 := ⟨fun _ hC H => w_ref01_Compare hC orders, ks_ne (by kernel_rfl), L36_ok⟩
theorem L38_ok : SpecsOk Try.prog L38 := ⟨fun _ hC H => w_ref01_Same hC orders (has_at H 0 rfl), ks_ne (by kernel_rfl), L37_ok⟩
theorem L39_ok : SpecsOk Try.prog L39 := ⟨fun _ hC H => w_law10_list hC orders (has_at H 0 rfl), ks_ne (by kernel_rfl), L38_ok⟩
theorem L40_ok : SpecsOk Try.prog L40 := ⟨fun _ hC H => w_law10_lives hC orders (has_at H 6 rfl) (has_at H 5 rfl) (has_at H 4 rfl) (has_at H 16 rfl) (has_at H 3 rfl) (has_at H 9 rfl) (has_at H 0 rfl) (has_at H 10 rfl), ks_ne (by kernel_rfl), L39_ok⟩
theorem L41_ok : SpecsOk Try.prog L41 := ⟨fun _ hC H => w_law10_EqualsRelate hC orders (has_at H 37 rfl) (has_at H 17 rfl) (has_at H 13 rfl) (has_at H 12 rfl) (has_at H 11 rfl) (has_at H 10 rfl) (has_at H 8 rfl) (has_at H 0 rfl), ks_ne (by kernel_rfl), L40_ok⟩
end Go.Own

namespace Go.Own
set_option linter.unusedVariables false
theorem w64_in {x : Int} (h1 : -9223372036854775808 ≤ x) (h2 : x ≤ 9223372036854775807) : w64 x = x := by
  simp only [w64, IntKind.wrap, IntKind.bits, IntKind.signed]
  simp
  omega
section
variable {α β σ τ ρ : Type}
def Ret (x : Option α) (Q : α → Prop) : Prop := ∃ a, x = some a ∧ Q a
theorem Ret.mono {x : Option α} {Q R : α → Prop} (h : Ret x Q) (q : ∀ a, Q a → R a) : Ret x R := by
  obtain ⟨a, e, h⟩ := h
  exact ⟨a, e, q a h⟩
theorem Ret.eq {x : Option α} {a : α} (h : Ret x fun b => b = a) : x = some a := by
  obtain ⟨b, e, rfl⟩ := h
  exact e
theorem ret_some {a : α} {Q : α → Prop} : Ret (some a) Q ↔ Q a := ⟨fun ⟨b, e, q⟩ => by cases e; exact q, fun q => ⟨a, rfl, q⟩⟩
theorem ret_bind {x : Option α} {f : α → Option β} {Q : β → Prop} : Ret (Option.bind x f) Q ↔ Ret x fun a => Ret (f a) Q := by
  cases x with
  | none => exact ⟨fun ⟨b, e, _⟩ => (by cases e), fun ⟨b, e, _⟩ => (by cases e)⟩
  | some a => exact ⟨fun h => ⟨a, rfl, h⟩, fun ⟨b, e, h⟩ => by cases e; exact h⟩
theorem ret_gd {p : Prop} [Decidable p] {x : Option α} {Q : α → Prop} : Ret (gd p x) Q ↔ p ∧ Ret x Q := by
  unfold gd
  by_cases h : p
  · rw [if_pos h]; exact ⟨fun q => ⟨h, q⟩, fun q => q.2⟩
  · rw [if_neg h]; exact ⟨fun ⟨b, e, _⟩ => by (cases e), fun q => (h q.1).elim⟩
theorem ret_bif {c : Bool} {x y : Option α} {Q : α → Prop} : Ret (bif c then x else y) Q ↔ (c = true → Ret x Q) ∧ (c = false → Ret y Q) := by
  cases c <;> simp
theorem ret_idx {l : List α} {i : Int} {Q : α → Prop} : Ret (idx l i) Q ↔ 0 ≤ i ∧ ∃ x, l[i.toNat]? = some x ∧ Q x := by
  cases i with
  | ofNat n =>
    show (∃ a, l[n]? = some a ∧ Q a) ↔ _
    simp
  | negSucc n => exact ⟨fun ⟨b, e, _⟩ => by (cases e), fun ⟨h, _⟩ => by omega⟩
theorem idx_nat (l : List α) (i : Nat) : idx l (i : Int) = l[i]? := rfl
theorem gdT {p : Prop} [Decidable p] {x : Option α} (h : p) : gd p x = x := by unfold gd; rw [if_pos h]
theorem bdT {x : Option α} {u : α} {f : α → Option ρ} (h : x = some u) : Option.bind x f = f u := by rw [h]; rfl
theorem loopN_succ (step : σ → Option (LR σ τ)) (n : Nat) (s : σ) : loopN step (n + 1) s = (match step s with | none => none | some (.next s') => loopN step n s' | some (.done t) => some t) := rfl
def LRP (N : σ → Prop) (D : τ → Prop) : LR σ τ → Prop
  | .next s => N s
  | .done t => D t
theorem ret_loop {step : σ → Option (LR σ τ)} (I : σ → Prop) (m : σ → Nat) {R : τ → Prop} {s : σ} (hs : I s) (hm : m s < 18446744073709551616)
    (h : ∀ s, I s → Ret (step s) (LRP (fun s' => I s' ∧ m s' < m s) R)) : Ret (loop step s) R := by
  have gen : ∀ (n : Nat) (s : σ), I s → m s < n → Ret (loopN step n s) R := by
    intro n
    induction n with
    | zero => intro s _ h; omega
    | succ n ih =>
      intro s hs hm
      obtain ⟨a, e, q⟩ := h s hs
      rw [loopN_succ, e]
      cases a with
      | next s' => exact ih s' q.1 (by have := q.2; omega)
      | done t => exact ⟨t, rfl, q⟩
  exact gen fuel s hs hm
theorem loop_seq {step : σ → Option (LR σ τ)} (st : Nat → σ) (n : Nat) {t : τ} (hn : n < 9223372036854775808) (h : ∀ i, i < n → step (st i) = some (.next (st (i + 1)))) (hd : step (st n) = some (.done t)) : loop step (st 0) = some t := by
  have gen : ∀ (k : Nat) (i : Nat), i ≤ n → n - i < k → loopN step k (st i) = some t := by
    intro k
    induction k with
    | zero => intro i _ h; omega
    | succ k ih =>
      intro i hi hk
      rw [loopN_succ]
      rcases Nat.lt_or_ge i n with q | q
      · rw [h i q]
        exact ih (i + 1) q (by omega)
      · have : i = n := by omega
        subst this
        rw [hd]
  exact gen fuel 0 (Nat.zero_le _) (by show n - 0 < 18446744073709551616; omega)
def firstS (f : Nat → α → Option ρ) : List α → Nat → Option ρ
  | [], _ => none
  | x :: l, i => match f i x with | some r => some r | none => firstS f l (i + 1)
theorem firstS_none {f : Nat → α → Option ρ} : ∀ {l : List α} {k : Nat}, (∀ i x, l[i]? = some x → f (k + i) x = none) → firstS f l k = none
  | [], _, _ => rfl
  | x :: l, k, h => by
    have h0 := h 0 x rfl
    simp only [Nat.add_zero] at h0
    simp only [firstS, h0]
    exact firstS_none fun i y hy => by have := h (i + 1) y (by simpa using hy); rwa [show k + 1 + i = k + (i + 1) by omega]
theorem firstS_some {f : Nat → α → Option ρ} {r : ρ} : ∀ {l : List α} {k : Nat}, firstS f l k = some r → ∃ i x, l[i]? = some x ∧ f (k + i) x = some r
  | [], _, h => by cases h
  | x :: l, k, h => by
    simp only [firstS] at h
    cases hf : f k x with
    | some r' => rw [hf] at h; exact ⟨0, x, rfl, by rw [Nat.add_zero, hf]; exact h⟩
    | none =>
      rw [hf] at h
      obtain ⟨i, y, h1, h2⟩ := firstS_some h
      exact ⟨i + 1, y, by simpa using h1, by rw [← h2]; congr 1; omega⟩
theorem firstS_isNone {f : Nat → α → Option ρ} {l : List α} {k : Nat} (h : firstS f l k = none) : ∀ i x, l[i]? = some x → f (k + i) x = none := by
  induction l generalizing k with
  | nil => intro i x h; simp at h
  | cons y l ih =>
    intro i x hx
    simp only [firstS] at h
    cases hf : f k y with
    | some r' => rw [hf] at h; cases h
    | none =>
      rw [hf] at h
      cases i with
      | zero => simp at hx; subst hx; simpa using hf
      | succ i => have := ih h i x (by simpa using hx); rwa [show k + (i + 1) = k + 1 + i by omega]
def oS : Option ρ → Unit ⊕ ρ
  | some r => .inr r
  | none => .inl ()
def nS (i : Nat) : Option ρ → LR Int (Unit ⊕ ρ)
  | some r => .done (.inr r)
  | none => .next (w64 ((i : Int) + 1))
theorem loop_list (l : List α) (hl : l.length < 4611686018427387904) {step : Int → Option (LR Int (Unit ⊕ ρ))} (f : Nat → α → Option ρ)
    (h : ∀ (i : Nat) (x : α), l[i]? = some x → step (i : Int) = some (nS i (f i x))) (h2 : step (l.length : Int) = some (.done (.inl ()))) :
    loop step 0 = some (oS (firstS f l 0)) := by
  have gen : ∀ (n : Nat) (k : Nat), k ≤ l.length → l.length - k < n → loopN step n (k : Int) = some (oS (firstS f (l.drop k) k)) := by
    intro n
    induction n with
    | zero => intro k _ h; omega
    | succ n ih =>
      intro k hk hn
      rw [loopN_succ]
      rcases Nat.lt_or_ge k l.length with hlt | hge
      · have hx : l[k]? = some l[k] := List.getElem?_eq_getElem hlt
        rw [h k _ hx, List.drop_eq_getElem_cons hlt]
        simp only [firstS]
        cases hf : f k l[k] with
        | some r => rfl
        | none =>
          simp only [nS]
          rw [w64_in (by omega) (by omega)]
          exact ih (k + 1) hlt (by omega)
      · have : k = l.length := by omega
        subst this
        rw [h2, List.drop_length]
        rfl
  exact gen fuel 0 (Nat.zero_le _) (by show l.length - 0 < 18446744073709551616; omega)
end
end Go.Own

namespace Go.Own
set_option linter.unusedVariables false
def fitB (m : S_api_Machine) (x : S_api_Edge) : Bool := (x.To == -1 && x.Out == -1) || (decide (0 ≤ x.To) && decide (x.To < (m.Rows.length : Int)) && decide (0 ≤ x.Out) && decide (x.Out < m.Outputs))
def rowB (m : S_api_Machine) (r : List S_api_Edge) : Bool := decide ((r.length : Int) = m.Inputs) && r.all (fitB m)
def chk (m : S_api_Machine) : Int :=
  if m.Inputs > 16 ∨ m.Outputs > 16 ∨ (m.Rows.length : Int) > 64 then 3 else if m.Inputs < 1 ∨ m.Outputs < 1 ∨ m.Rows.length = 0 then 1 else if m.Rows.all (rowB m) = true then 0 else 1
theorem fits_eq (m : S_api_Machine) (x : S_api_Edge) : machines_fits m x = some (fitB m x) := by
  unfold machines_fits machines_none
  simp only [Option.bind_some, Bool.and_true]
  rcases Bool.eq_false_or_eq_true (x.To == (-1) && x.Out == (-1)) with h | h
  · simp [fitB, h]
  · rw [h]
    simp only [fitB, h, Bool.false_or, cond_false]
    by_cases h1 : (0 : Int) ≤ x.To
    · by_cases h2 : x.To < (m.Rows.length : Int)
      · by_cases h3 : (0 : Int) ≤ x.Out
        · simp [Bool.cond_eq_ite, h1, h2, h3]
        · simp [Bool.cond_eq_ite, h1, h2, h3]
      · simp [Bool.cond_eq_ite, h1, h2]
    · simp [h1]
theorem contains_eq (m : S_api_Machine) (r : List S_api_Edge) (hl : r.length < 4611686018427387904) : slices_ContainsFunc_api_Edge_api_Edge r m = some (!r.all (fitB m)) := by
  have hloop : loop (fun s => slices_IndexFunc_api_Edge_api_Edge_L2 r m s) 0 = some (oS (firstS (fun i x => if fitB m x = true then none else some (i : Int)) r 0)) := by
    refine loop_list r hl _ ?_ ?_
    · intro i x hx
      have hi := (List.getElem?_eq_some_iff.1 hx).1
      unfold slices_IndexFunc_api_Edge_api_Edge_L2
      have hd : decide ((i : Int) < ((r.length : Nat) : Int)) = true := by simpa using hi
      rw [hd, cond_true, idx_nat, bdT hx]
      unfold machines_Check_1
      simp only [fits_eq, Option.bind_some]
      cases fitB m x <;> rfl
    · unfold slices_IndexFunc_api_Edge_api_Edge_L2
      simp
  unfold slices_ContainsFunc_api_Edge_api_Edge slices_IndexFunc_api_Edge_api_Edge
  rw [hloop]
  simp only [Option.bind_some]
  cases hf : firstS (fun i x => if fitB m x = true then none else some (i : Int)) r 0 with
  | some q =>
    obtain ⟨i, x, h1, h2⟩ := firstS_some hf
    have hx : fitB m x ≠ true := by
      intro h; rw [if_pos h] at h2; cases h2
    rw [if_neg hx] at h2
    simp only [Option.some.injEq] at h2
    have : r.all (fitB m) = false := by
      rw [List.all_eq_false]
      exact ⟨x, List.mem_of_getElem? h1, hx⟩
    rw [this]
    have : (q : Int) ≥ 0 := by rw [← h2]; omega
    show some (decide (q ≥ 0)) = _
    simp [this]
  | none =>
    have : r.all (fitB m) = true := by
      rw [List.all_eq_true]
      intro x hx
      obtain ⟨i, hi⟩ := List.getElem?_of_mem hx
      have := firstS_isNone hf i x hi
      by_cases h : fitB m x = true
      · exact h
      · rw [if_neg h] at this; cases this
    rw [this]
    rfl
theorem check_rows {m : S_api_Machine} (h0 : (m.Rows.length : Int) ≤ 64) (h1 : m.Inputs ≤ 16) : loop (fun s => machines_Check_L2 m s) 0 = some (oS (firstS (fun _ r => if rowB m r = true then none else some (1 : Int)) m.Rows 0)) := by
  refine loop_list m.Rows (by omega) _ ?_ ?_
  · intro i r hr
    have hi := (List.getElem?_eq_some_iff.1 hr).1
    unfold machines_Check_L2
    have hd : decide ((i : Int) < ((m.Rows.length : Nat) : Int)) = true := by simpa using hi
    rw [hd, cond_true, idx_nat, bdT hr]
    by_cases hlen : (r.length : Int) = m.Inputs
    · have hne : (((r.length : Nat) : Int) != m.Inputs) = false := by simpa using hlen
      rw [hne, cond_false, bdT (contains_eq m r (by omega))]
      have : rowB m r = r.all (fitB m) := by simp [rowB, hlen]
      rw [this]
      cases r.all (fitB m) <;> rfl
    · have hne : (((r.length : Nat) : Int) != m.Inputs) = true := by simpa using hlen
      rw [hne, cond_true]
      have : rowB m r = false := by simp [rowB, hlen]
      rw [this]; rfl
  · unfold machines_Check_L2
    simp
theorem rows_first (m : S_api_Machine) : firstS (fun _ r => if rowB m r = true then none else some (1 : Int)) m.Rows 0 = if m.Rows.all (rowB m) = true then none else some 1 := by
  by_cases h : m.Rows.all (rowB m) = true
  · rw [if_pos h]
    refine firstS_none fun i r hr => ?_
    rw [if_pos (List.all_eq_true.1 h r (List.mem_of_getElem? hr))]
  · rw [if_neg h]
    cases hf : firstS (fun _ r => if rowB m r = true then none else some (1 : Int)) m.Rows 0 with
    | some q =>
      obtain ⟨i, x, h1, h2⟩ := firstS_some hf
      split at h2
      · cases h2
      · exact h2.symm ▸ rfl
    | none =>
      exfalso
      apply h
      rw [List.all_eq_true]
      intro x hx
      obtain ⟨i, hi⟩ := List.getElem?_of_mem hx
      have := firstS_isNone hf i x hi
      by_cases h : rowB m x = true
      · exact h
      · rw [if_neg h] at this; cases this
theorem check_eq (m : S_api_Machine) : machines_Check m = some (chk m) := by
  unfold machines_Check chk
  by_cases h1 : m.Inputs > 16
  · simp [h1]
  by_cases h2 : m.Outputs > 16
  · simp [Bool.cond_eq_ite, h1, h2]
  by_cases h3 : (m.Rows.length : Int) > 64
  · simp [Bool.cond_eq_ite, h1, h2, h3]
  rw [if_neg (by simp [Bool.cond_eq_ite, h1, h2, h3])]
  by_cases h4 : m.Inputs < 1
  · simp [Bool.cond_eq_ite, h1, h2, h3, h4]
  by_cases h5 : m.Outputs < 1
  · simp [Bool.cond_eq_ite, h1, h2, h3, h4, h5]
  by_cases h6 : m.Rows.length = 0
  · simp [Bool.cond_eq_ite, h1, h2, h4, h5, h6]
  rw [if_neg (by simp [h4, h5, h6])]
  have h6' : decide (((m.Rows.length : Nat) : Int) < 1) = false := by simp; omega
  have e1 : decide (m.Inputs > 16) = false := by simpa using h1
  have e2 : decide (m.Outputs > 16) = false := by simpa using h2
  have e3 : decide (((m.Rows.length : Nat) : Int) > 64) = false := by simpa using h3
  have e4 : decide (m.Inputs < 1) = false := by simpa using h4
  have e5 : decide (m.Outputs < 1) = false := by simpa using h5
  simp only [e1, e2, e3, e4, e5, h6', cond_false]
  rw [bdT (check_rows (by omega) (by omega)), rows_first]
  by_cases h : m.Rows.all (rowB m) = true
  · rw [if_pos h, if_pos h]; rfl
  · rw [if_neg h, if_neg h]; rfl
theorem ref_edges {m : S_api_Machine} {s : Nat} {r : List S_api_Edge} (hr : m.Rows[s]? = some r) (hlen : (r.length : Int) = m.Inputs) (h1 : m.Inputs ≤ 16) : loop (fun q => ref04_Check_L4 m (s : Int) q) 0 = some (if r.all (fitB m) = true then .inl () else .inr 1) := by
  have hl : loop (fun q => ref04_Check_L4 m (s : Int) q) 0 = some (oS (firstS (fun _ x => if fitB m x = true then none else some (1 : Int)) r 0)) := by
    refine loop_list r (by omega) _ ?_ ?_
    · intro i x hx
      have hi := (List.getElem?_eq_some_iff.1 hx).1
      unfold ref04_Check_L4
      have hd : decide ((i : Int) < m.Inputs) = true := by rw [← hlen]; simpa using hi
      rw [hd, cond_true, idx_nat, bdT hr, idx_nat, bdT hx]
      unfold ref04_Check_J6 ref04_Check_J5 fitB
      by_cases a1 : x.To = -1
      · by_cases a2 : x.Out = -1
        · simp [nS, Bool.cond_eq_ite, a1, a2]
        · simp [nS, Bool.cond_eq_ite, a1, a2]
      · by_cases a2 : x.To < 0
        · have : ¬ 0 ≤ x.To := by omega
          simp [nS, Bool.cond_eq_ite, a1, a2, this]
        · by_cases a3 : (m.Rows.length : Int) ≤ x.To
          · have : ¬ x.To < (m.Rows.length : Int) := by omega
            simp [nS, Bool.cond_eq_ite, a1, a2, a3, this]
          · by_cases a4 : x.Out < 0
            · have : ¬ 0 ≤ x.Out := by omega
              simp [nS, Bool.cond_eq_ite, a1, a2, a3, a4, this]
            · by_cases a5 : m.Outputs ≤ x.Out
              · have : ¬ x.Out < m.Outputs := by omega
                simp [nS, Bool.cond_eq_ite, a1, a2, a3, a4, a5, this]
              · have b1 : 0 ≤ x.To := by omega
                have b2 : x.To < (m.Rows.length : Int) := by omega
                have b3 : 0 ≤ x.Out := by omega
                have b4 : x.Out < m.Outputs := by omega
                simp [nS, Bool.cond_eq_ite, a1, a2, a3, a4, a5, b1, b2, b3, b4]
    · unfold ref04_Check_L4
      simp [hlen]
  rw [hl]
  by_cases h : r.all (fitB m) = true
  · rw [if_pos h]
    rw [firstS_none fun i x hx => by rw [if_pos (List.all_eq_true.1 h x (List.mem_of_getElem? hx))]]
    rfl
  · rw [if_neg h]
    cases hf : firstS (fun _ x => if fitB m x = true then none else some (1 : Int)) r 0 with
    | some q =>
      obtain ⟨i, x, h1, h2⟩ := firstS_some hf
      split at h2
      · cases h2
      · simp only [Option.some.injEq] at h2; rw [← h2]; rfl
    | none =>
      exfalso
      apply h
      rw [List.all_eq_true]
      intro x hx
      obtain ⟨i, hi⟩ := List.getElem?_of_mem hx
      have := firstS_isNone hf i x hi
      by_cases h : fitB m x = true
      · exact h
      · rw [if_neg h] at this; cases this
theorem ref_check (m : S_api_Machine) : ref04_Check m = some (chk m) := by
  unfold ref04_Check chk
  by_cases h1 : m.Inputs > 16
  · simp [h1]
  by_cases h2 : m.Outputs > 16
  · simp [Bool.cond_eq_ite, h1, h2]
  by_cases h3 : (m.Rows.length : Int) > 64
  · simp [Bool.cond_eq_ite, h1, h2, h3]
  rw [if_neg (by simp [Bool.cond_eq_ite, h1, h2, h3])]
  by_cases h4 : m.Inputs < 1
  · simp [Bool.cond_eq_ite, h1, h2, h3, h4]
  by_cases h5 : m.Outputs < 1
  · simp [Bool.cond_eq_ite, h1, h2, h3, h4, h5]
  by_cases h6 : m.Rows.length = 0
  · simp [Bool.cond_eq_ite, h1, h2, h4, h5, h6]
  rw [if_neg (by simp [h4, h5, h6])]
  have e1 : decide (m.Inputs > 16) = false := by simpa using h1
  have e2 : decide (m.Outputs > 16) = false := by simpa using h2
  have e3 : decide (((m.Rows.length : Nat) : Int) > 64) = false := by simpa using h3
  have e4 : decide (m.Inputs < 1) = false := by simpa using h4
  have e5 : decide (m.Outputs < 1) = false := by simpa using h5
  have e6 : (((m.Rows.length : Nat) : Int) == 0) = false := by simp; intro h; rw [h] at h6; exact h6 rfl
  simp only [e1, e2, e3, e4, e5, e6, cond_false]
  have hl : loop (fun s => ref04_Check_L2 m s) 0 = some (oS (firstS (fun _ r => if rowB m r = true then none else some (1 : Int)) m.Rows 0)) := by
    refine loop_list m.Rows (by omega) _ ?_ ?_
    · intro i r hr
      have hi := (List.getElem?_eq_some_iff.1 hr).1
      unfold ref04_Check_L2
      have hd : decide ((i : Int) < ((m.Rows.length : Nat) : Int)) = true := by simpa using hi
      rw [hd, cond_true, idx_nat, bdT hr]
      by_cases hlen : (r.length : Int) = m.Inputs
      · have hne : (((r.length : Nat) : Int) != m.Inputs) = false := by simpa using hlen
        rw [hne, cond_false, bdT (ref_edges hr hlen (by omega))]
        have : rowB m r = r.all (fitB m) := by simp [rowB, hlen]
        rw [this]
        cases r.all (fitB m) <;> rfl
      · have hne : (((r.length : Nat) : Int) != m.Inputs) = true := by simpa using hlen
        rw [hne, cond_true]
        have : rowB m r = false := by simp [rowB, hlen]
        rw [this]; rfl
    · unfold ref04_Check_L2
      simp
  rw [bdT hl, rows_first]
  by_cases h : m.Rows.all (rowB m) = true
  · rw [if_pos h, if_pos h]; rfl
  · rw [if_neg h, if_neg h]; rfl
end Go.Own

namespace Go.Own
set_option linter.unusedVariables false
structure VM (m : S_api_Machine) : Prop where
  in1 : 1 ≤ m.Inputs
  in16 : m.Inputs ≤ 16
  out1 : 1 ≤ m.Outputs
  out16 : m.Outputs ≤ 16
  len1 : 1 ≤ m.Rows.length
  len64 : m.Rows.length ≤ 64
  row : ∀ r ∈ m.Rows, (r.length : Int) = m.Inputs
  edge : ∀ r ∈ m.Rows, ∀ x ∈ r, (x.To = -1 ∧ x.Out = -1) ∨ (0 ≤ x.To ∧ x.To < (m.Rows.length : Int) ∧ 0 ≤ x.Out ∧ x.Out < m.Outputs)
theorem vm_of {m : S_api_Machine} (h : chk m = 0) : VM m := by
  unfold chk at h
  split at h
  · cases h
  split at h
  · cases h
  split at h
  · rename_i h1 h2 h3
    rw [List.all_eq_true] at h3
    refine ⟨by omega, by omega, by omega, by omega, by omega, by omega, fun r hr => ?_, fun r hr x hx => ?_⟩
    · have := h3 r hr
      simp only [rowB, Bool.and_eq_true, decide_eq_true_eq] at this
      exact this.1
    · have := h3 r hr
      simp only [rowB, Bool.and_eq_true, decide_eq_true_eq, List.all_eq_true] at this
      have := this.2 x hx
      simp only [fitB, Bool.or_eq_true, Bool.and_eq_true, beq_iff_eq, decide_eq_true_eq] at this
      rcases this with ⟨a, b⟩ | ⟨⟨⟨a, b⟩, c⟩, d⟩
      · exact .inl ⟨a, b⟩
      · exact .inr ⟨a, b, c, d⟩
  · cases h
theorem chk_of {m : S_api_Machine} (h : VM m) : chk m = 0 := by
  unfold chk
  have := h.in1; have := h.in16; have := h.out1; have := h.out16; have := h.len1; have := h.len64
  rw [if_neg (by omega), if_neg (by omega), if_pos]
  rw [List.all_eq_true]
  intro r hr
  simp only [rowB, Bool.and_eq_true, decide_eq_true_eq, List.all_eq_true]
  refine ⟨h.row r hr, fun x hx => ?_⟩
  simp only [fitB, Bool.or_eq_true, Bool.and_eq_true, beq_iff_eq, decide_eq_true_eq]
  rcases h.edge r hr x hx with ⟨a, b⟩ | ⟨a, b, c, d⟩
  · exact .inl ⟨a, b⟩
  · exact .inr ⟨⟨⟨a, b⟩, c⟩, d⟩
def kk (m : S_api_Machine) : Nat := m.Inputs.toNat
def E (m : S_api_Machine) (s i : Nat) : S_api_Edge := ((m.Rows[s]?.getD [])[i]?).getD ⟨-1, -1⟩
section
variable {m : S_api_Machine} (h : VM m)
include h
theorem VM.kk_eq : ((kk m : Nat) : Int) = m.Inputs := by have := h.in1; unfold kk; omega
theorem VM.kk_le : kk m ≤ 16 := by have := h.in16; unfold kk; omega
theorem VM.rowAt {s : Nat} (hs : s < m.Rows.length) : ∃ r, m.Rows[s]? = some r ∧ r.length = kk m ∧ ∀ i, i < kk m → r[i]? = some (E m s i) := by
  have hr := List.getElem?_eq_getElem hs
  have hl := h.row _ (List.getElem_mem hs)
  have hl' : m.Rows[s].length = kk m := by unfold kk; omega
  refine ⟨_, hr, hl', fun i hi => ?_⟩
  have hi' : i < m.Rows[s].length := by omega
  unfold E
  rw [hr]
  simp only [Option.getD_some]
  rw [List.getElem?_eq_getElem hi']
  rfl
theorem VM.edgeAt {s i : Nat} (hs : s < m.Rows.length) (hi : i < kk m) : ((E m s i).To = -1 ∧ (E m s i).Out = -1) ∨ (0 ≤ (E m s i).To ∧ (E m s i).To < (m.Rows.length : Int) ∧ 0 ≤ (E m s i).Out ∧ (E m s i).Out < m.Outputs) := by
  obtain ⟨r, h1, _, h2⟩ := h.rowAt hs
  exact h.edge r (List.mem_of_getElem? h1) _ (List.mem_of_getElem? (h2 i hi))
theorem VM.edge_eq {s i : Nat} (hs : s < m.Rows.length) (hi : i < kk m) {β : Type} {f : S_api_Edge → Option β} :
    (Option.bind (idx m.Rows (s : Int)) fun r => Option.bind (idx r (i : Int)) f) = f (E m s i) := by
  obtain ⟨r, h1, _, h2⟩ := h.rowAt hs
  rw [idx_nat, h1, Option.bind_some, idx_nat, h2 i hi, Option.bind_some]
end
section
variable {K V : Type} [BEq K] [LawfulBEq K]
theorem mget_set (l : List (K × V)) (x y : K) (v : V) : mget (mset l x v) y = if (x == y) = true then some v else mget l y := by
  induction l with
  | nil => simp only [mset, mget]
  | cons p l ih =>
    simp only [mset]
    by_cases h : p.1 = x
    · rw [if_pos (by simpa using h)]
      simp only [mget]
      by_cases q : x = y
      · rw [if_pos (by simpa using q), if_pos (by simpa using q)]
      · rw [if_neg (by simpa using q), if_neg (by simpa using q), if_neg (by rw [h]; simpa using q)]
    · rw [if_neg (by simpa using h)]
      simp only [mget, ih]
      by_cases q : p.1 = y
      · have q' : ¬ x = y := by rintro rfl; exact h q
        have e1 : (p.1 == y) = true := by simpa using q
        have e2 : (x == y) = false := by simpa using q'
        simp [e1, e2]
      · have e1 : (p.1 == y) = false := by simpa using q
        simp [e1]
end
instance : LawfulBEq (Arr2 Int) := {
  eq_of_beq := by
    intro a b h
    obtain ⟨a0, a1⟩ := a
    obtain ⟨b0, b1⟩ := b
    simp only [BEq.beq, Bool.and_eq_true, decide_eq_true_eq] at h
    rw [h.1, h.2]
  rfl := by
    intro a
    obtain ⟨a0, a1⟩ := a
    simp [BEq.beq] }
end Go.Own

namespace Go.Own
set_option linter.unusedVariables false
section
variable {S : Type}
def rv (k : Nat) : List Nat → Nat
  | [] => 0
  | i :: u => rv k u * k + i + 1
def PathR (k : Nat) (bad : S → Nat → Bool) (nx : S → Nat → Option S) (p0 : S) : List Nat → S → Prop
  | [], q => q = p0
  | i :: u, q => ∃ p, PathR k bad nx p0 u p ∧ i < k ∧ bad p i = false ∧ nx p i = some q
def TellR (k : Nat) (bad : S → Nat → Bool) (nx : S → Nat → Option S) (p0 : S) : List Nat → Prop
  | [] => False
  | i :: u => ∃ p, PathR k bad nx p0 u p ∧ i < k ∧ bad p i = true
def TellF (k : Nat) (bad : S → Nat → Bool) (nx : S → Nat → Option S) : S → List Nat → Prop
  | _, [] => False
  | p, [i] => i < k ∧ bad p i = true
  | p, i :: w => i < k ∧ bad p i = false ∧ ∃ q, nx p i = some q ∧ TellF k bad nx q w
structure Bfs (k : Nat) (bad : S → Nat → Bool) (nx : S → Nat → Option S) (p0 : S) (L : List (S × List Nat)) (at_ i : Nat) : Prop where
  first : L[0]? = some (p0, [])
  mono : ∀ (j j' : Nat) (a b : S × List Nat), j < j' → L[j]? = some a → L[j']? = some b → rv k a.2 < rv k b.2
  path : ∀ a ∈ L, PathR k bad nx p0 a.2 a.1
  ahead : ∀ a c, L[at_]? = some c → a ∈ L → rv k a.2 < rv k c.2 * k + i + 1
  pos : i ≤ k
  lies : at_ ≤ L.length
  fin : at_ = L.length → i = 0
  short : ∀ (j : Nat) (a : S × List Nat), L[j]? = some a → a.2.length ≤ j
  seen : ∀ (j x : Nat) (a : S × List Nat), L[j]? = some a → x < k → (j < at_ ∨ j = at_ ∧ x < i) → bad a.1 x = false ∧ ∀ q, nx a.1 x = some q → ∃ b ∈ L, b.1 = q ∧ rv k b.2 ≤ rv k a.2 * k + x + 1
variable {k : Nat} {bad : S → Nat → Bool} {nx : S → Nat → Option S} {p0 : S}
theorem Bfs.start : Bfs k bad nx p0 [(p0, [])] 0 0 := {
  first := rfl
  mono := by
    intro j j' a b h h1 h2
    have := (List.getElem?_eq_some_iff.1 h2).1
    simp at this
    omega
  path := by intro a ha; simp at ha; subst ha; rfl
  ahead := by intro a c _ ha; simp at ha; subst ha; simp [rv]
  pos := Nat.zero_le _
  lies := by simp
  fin := by intro; rfl
  short := by
    intro j a h
    have := (List.getElem?_eq_some_iff.1 h).1
    simp at this
    subst this
    simp at h
    subst h
    simp
  seen := by rintro j x a h _ (q | ⟨_, q⟩) <;> omega }
theorem Bfs.old {L : List (S × List Nat)} {a i : Nat} (h : Bfs k bad nx p0 L a i) {c : S × List Nat} (hc : L[a]? = some c) (hi : i < k) (hb : bad c.1 i = false)
    (hn : ∀ q, nx c.1 i = some q → ∃ b ∈ L, b.1 = q) : Bfs k bad nx p0 L a (i + 1) := {
  first := h.first
  mono := h.mono
  path := h.path
  ahead := fun x y hy hx => by have := h.ahead x y hy hx; omega
  pos := hi
  lies := h.lies
  fin := fun e => by have := (List.getElem?_eq_some_iff.1 hc).1; omega
  short := h.short
  seen := by
    intro j x y hy hx q
    by_cases e : j = a ∧ x = i
    · obtain ⟨rfl, rfl⟩ := e
      rw [hc] at hy
      cases hy
      refine ⟨hb, fun q hq => ?_⟩
      obtain ⟨b, h1, h2⟩ := hn q hq
      exact ⟨b, h1, h2, by have := h.ahead b c hc h1; omega⟩
    · exact h.seen j x y hy hx (by omega) }
theorem Bfs.new {L : List (S × List Nat)} {a i : Nat} (h : Bfs k bad nx p0 L a i) {c : S × List Nat} (hc : L[a]? = some c) (hi : i < k) (hb : bad c.1 i = false) {q : S}
    (hn : nx c.1 i = some q) : Bfs k bad nx p0 (L ++ [(q, i :: c.2)]) a (i + 1) := by
  have hlt := (List.getElem?_eq_some_iff.1 hc).1
  refine ⟨?_, ?_, ?_, ?_, hi, by simp; omega, fun e => by simp at e; omega, ?_, ?_⟩
  · rw [List.getElem?_append_left (by omega)]; exact h.first
  · intro j j' x y hj h1 h2
    have hl := (List.getElem?_eq_some_iff.1 h2).1
    simp at hl
    rw [List.getElem?_append_left (by omega)] at h1
    rcases Nat.lt_or_ge j' L.length with g | g
    · rw [List.getElem?_append_left g] at h2
      exact h.mono j j' x y hj h1 h2
    · have : j' = L.length := by omega
      subst this
      simp at h2
      subst h2
      exact h.ahead x c hc (List.mem_of_getElem? h1)
  · intro x hx
    rcases List.mem_append.1 hx with g | g
    · exact h.path x g
    · simp at g
      subst g
      exact ⟨c.1, h.path c (List.mem_of_getElem? hc), hi, hb, hn⟩
  · intro x y hy hx
    rw [List.getElem?_append_left hlt] at hy
    rcases List.mem_append.1 hx with g | g
    · have := h.ahead x y hy g; omega
    · simp at g
      subst g
      rw [hc] at hy
      cases hy
      simp [rv]
  · intro j y hy
    rcases Nat.lt_or_ge j L.length with g | g
    · rw [List.getElem?_append_left g] at hy
      exact h.short j y hy
    · have hl := (List.getElem?_eq_some_iff.1 hy).1
      simp at hl
      have : j = L.length := by omega
      subst this
      simp at hy
      subst hy
      have := h.short a c hc
      simp
      omega
  · intro j x y hy hx g
    rw [List.getElem?_append_left (by omega)] at hy
    by_cases e : j = a ∧ x = i
    · obtain ⟨rfl, rfl⟩ := e
      rw [hc] at hy
      cases hy
      refine ⟨hb, fun q' hq => ?_⟩
      rw [hn] at hq
      cases hq
      exact ⟨(q, x :: c.2), by simp, rfl, Nat.le_refl _⟩
    · obtain ⟨h1, h2⟩ := h.seen j x y hy hx (by omega)
      refine ⟨h1, fun q' hq => ?_⟩
      obtain ⟨b, g1, g2⟩ := h2 q' hq
      exact ⟨b, List.mem_append_left _ g1, g2⟩
theorem Bfs.step {L : List (S × List Nat)} {a : Nat} (h : Bfs k bad nx p0 L a k) (ha : a < L.length) : Bfs k bad nx p0 L (a + 1) 0 := {
  first := h.first
  mono := h.mono
  path := h.path
  ahead := by
    intro x c hc hx
    have h1 := h.ahead x _ (List.getElem?_eq_getElem ha) hx
    have h2 := h.mono a (a + 1) _ _ (by omega) (List.getElem?_eq_getElem ha) hc
    have h3 : (rv k L[a].2 + 1) * k ≤ rv k c.2 * k := Nat.mul_le_mul_right _ h2
    rw [Nat.succ_mul] at h3
    omega
  pos := Nat.zero_le _
  lies := ha
  fin := fun _ => rfl
  short := h.short
  seen := fun j x b hb hx g => h.seen j x b hb hx (by rcases g with g | ⟨_, g⟩ <;> omega) }
theorem Bfs.reach {L : List (S × List Nat)} {a i : Nat} (h : Bfs k bad nx p0 L a i) : ∀ (u : List Nat) (q : S), PathR k bad nx p0 u q → (∀ c, L[a]? = some c → rv k u < rv k c.2 * k + i + 1) → ∃ (j : Nat) (b : S × List Nat), L[j]? = some b ∧ b.1 = q ∧ rv k b.2 ≤ rv k u
  | [], q, hp, _ => ⟨0, _, h.first, hp.symm, Nat.zero_le _⟩
  | x :: u, q, ⟨p, hp, hx, hb, hn⟩, hlt => by
    have hk : rv k u ≤ rv k u * k := Nat.le_mul_of_pos_right _ (by omega)
    obtain ⟨j, b, hj, rfl, hr⟩ := h.reach u p hp fun c hc => by have := hlt c hc; simp only [rv] at this; omega
    have hmul : rv k b.2 * k ≤ rv k u * k := Nat.mul_le_mul_right _ hr
    have hjl := (List.getElem?_eq_some_iff.1 hj).1
    have hpos : j < a ∨ j = a ∧ x < i := by
      rcases Nat.lt_trichotomy j a with g | g | g
      · exact .inl g
      · subst g
        refine .inr ⟨rfl, ?_⟩
        have := hlt b hj
        simp only [rv] at this
        omega
      · exfalso
        have hal : a < L.length := by omega
        have h1 := hlt _ (List.getElem?_eq_getElem hal)
        have h2 := h.mono a j _ _ g (List.getElem?_eq_getElem hal) hj
        have h3 : (rv k L[a].2 + 1) * k ≤ rv k b.2 * k := Nat.mul_le_mul_right _ h2
        rw [Nat.succ_mul] at h3
        have := h.pos
        simp only [rv] at h1
        omega
    obtain ⟨_, h2⟩ := h.seen j x b hj hx hpos
    obtain ⟨c, g1, g2, g3⟩ := h2 q hn
    obtain ⟨j', g4⟩ := List.getElem?_of_mem g1
    exact ⟨j', c, g4, g2, by simp only [rv]; omega⟩
theorem Bfs.least {L : List (S × List Nat)} {a i : Nat} (h : Bfs k bad nx p0 L a i) {w : List Nat} (hw : TellR k bad nx p0 w) (hlt : ∀ c, L[a]? = some c → rv k w < rv k c.2 * k + i + 1) : False := by
  cases w with
  | nil => exact hw
  | cons x u =>
    obtain ⟨p, hp, hx, hb⟩ := hw
    have hk : rv k u ≤ rv k u * k := Nat.le_mul_of_pos_right _ (by omega)
    obtain ⟨j, b, hj, rfl, hr⟩ := h.reach u p hp fun c hc => by have := hlt c hc; simp only [rv] at this; omega
    have hmul : rv k b.2 * k ≤ rv k u * k := Nat.mul_le_mul_right _ hr
    have hjl := (List.getElem?_eq_some_iff.1 hj).1
    have hpos : j < a ∨ j = a ∧ x < i := by
      rcases Nat.lt_trichotomy j a with g | g | g
      · exact .inl g
      · subst g
        refine .inr ⟨rfl, ?_⟩
        have := hlt b hj
        simp only [rv] at this
        omega
      · exfalso
        have hal : a < L.length := by omega
        have h1 := hlt _ (List.getElem?_eq_getElem hal)
        have h2 := h.mono a j _ _ g (List.getElem?_eq_getElem hal) hj
        have h3 : (rv k L[a].2 + 1) * k ≤ rv k b.2 * k := Nat.mul_le_mul_right _ h2
        rw [Nat.succ_mul] at h3
        have := h.pos
        simp only [rv] at h1
        omega
    have := (h.seen j x b hj hx hpos).1
    rw [this] at hb
    cases hb
theorem path_cons {i : Nat} {q : S} (hi : i < k) (hb : bad p0 i = false) (hn : nx p0 i = some q) : ∀ {u : List Nat} {r : S}, PathR k bad nx q u r → PathR k bad nx p0 (u ++ [i]) r
  | [], r, h => ⟨p0, rfl, hi, hb, by rw [hn]; exact congrArg some h.symm⟩
  | x :: u, r, ⟨p, hp, h⟩ => ⟨p, path_cons hi hb hn hp, h⟩
theorem tell_rev : ∀ {w : List Nat} {p : S}, TellF k bad nx p w → TellR k bad nx p w.reverse
  | [], _, h => h.elim
  | [i], p, h => ⟨p, rfl, h⟩
  | i :: j :: w, p, ⟨hi, hb, q, hn, h⟩ => by
    have := tell_rev h
    rw [List.reverse_cons]
    cases hr : (j :: w).reverse with
    | nil => simp at hr
    | cons x u =>
      rw [hr] at this
      obtain ⟨r, h1, h2⟩ := this
      exact ⟨r, path_cons hi hb hn h1, h2⟩
theorem path_snoc : ∀ {u : List Nat} {q : S} {i : Nat} {w : List Nat}, PathR k bad nx p0 u q → TellF k bad nx q (i :: w) → TellF k bad nx p0 (u.reverse ++ i :: w)
  | [], q, i, w, h, t => by
    simp only [PathR] at h
    subst h
    exact t
  | x :: u, q, i, w, ⟨p, hp, hx, hb, hn⟩, t => by
    have := path_snoc (i := x) (w := i :: w) hp ⟨hx, hb, q, hn, t⟩
    simpa using this
theorem tell_fwd {w : List Nat} (h : TellR k bad nx p0 w) : TellF k bad nx p0 w.reverse := by
  cases w with
  | nil => exact h
  | cons i u =>
    obtain ⟨p, h1, h2⟩ := h
    have := path_snoc (i := i) (w := []) h1 h2
    simpa using this
def Mk (k : Nat) (bad : S → Nat → Bool) (nx : S → Nat → Option S) : Nat → S → Prop
  | 0, _ => False
  | n + 1, p => Mk k bad nx n p ∨ ∃ i, i < k ∧ (bad p i = true ∨ ∃ q, nx p i = some q ∧ Mk k bad nx n q)
theorem Mk.mono {n m : Nat} {p : S} (h : Mk k bad nx n p) (hm : n ≤ m) : Mk k bad nx m p := by
  induction hm with
  | refl => exact h
  | step _ ih => exact .inl ih
theorem Mk.tell : ∀ {n : Nat} {p : S}, Mk k bad nx n p → ∃ w, TellF k bad nx p w ∧ w.length ≤ n
  | 0, _, h => h.elim
  | n + 1, p, .inl h => by
    obtain ⟨w, h1, h2⟩ := Mk.tell h
    exact ⟨w, h1, by omega⟩
  | n + 1, p, .inr ⟨i, hi, h⟩ => by
    by_cases hb : bad p i = true
    · exact ⟨[i], ⟨hi, hb⟩, by simp⟩
    · rcases h with h | ⟨q, hq, h⟩
      · exact (hb h).elim
      · obtain ⟨w, h1, h2⟩ := Mk.tell h
        refine ⟨i :: w, ?_, by simp; omega⟩
        cases w with
        | nil => exact h1.elim
        | cons j w => exact ⟨hi, by simpa using hb, q, hq, h1⟩
theorem tell_mk : ∀ {w : List Nat} {p : S}, TellF k bad nx p w → Mk k bad nx w.length p
  | [], _, h => h.elim
  | [i], p, h => .inr ⟨i, h.1, .inl h.2⟩
  | i :: j :: w, p, ⟨hi, hb, q, hn, h⟩ => .inr ⟨i, hi, .inr ⟨q, hn, tell_mk h⟩⟩
def Greedy (k : Nat) (bad : S → Nat → Bool) (nx : S → Nat → Option S) : Nat → S → List Nat → Prop
  | 0, _, w => w = []
  | n + 1, p, w => ∃ i u, w = i :: u ∧ i < k ∧ (bad p i = true ∨ ∃ q, nx p i = some q ∧ Mk k bad nx n q) ∧ (∀ j, j < i → ¬ (bad p j = true ∨ ∃ q, nx p j = some q ∧ Mk k bad nx n q)) ∧ (0 < n → ∃ q, nx p i = some q ∧ Greedy k bad nx n q u) ∧ (n = 0 → u = [])
end
end Go.Own

namespace Go.Own
set_option linter.unusedVariables false
set_option linter.unusedSimpArgs false
theorem nodup_bound : ∀ (n : Nat) (l : List Nat), l.Nodup → (∀ x ∈ l, x < n) → l.length ≤ n
  | 0, l, _, h => by
    cases l with
    | nil => simp
    | cons x l => have := h x (by simp); omega
  | n + 1, l, hd, h => by
    by_cases hm : n ∈ l
    · have h1 := List.length_erase_of_mem hm
      have h2 := nodup_bound n (l.erase n) (hd.erase n) fun x hx => by
        have h3 := (hd.mem_erase_iff).1 hx
        have := h x h3.2
        have := h3.1
        omega
      have : 0 < l.length := List.length_pos_of_mem hm
      omega
    · have := nodup_bound n l hd fun x hx => by
        have := h x hx
        have : x ≠ n := fun e => hm (e ▸ hx)
        omega
      omega
def badP (a b : S_api_Machine) (p : Nat × Nat) (i : Nat) : Bool := (E a p.1 i).Out != (E b p.2 i).Out
def nxP (a b : S_api_Machine) (p : Nat × Nat) (i : Nat) : Option (Nat × Nat) := if 0 ≤ (E a p.1 i).To ∧ 0 ≤ (E b p.2 i).To then some ((E a p.1 i).To.toNat, (E b p.2 i).To.toNat) else none
abbrev LL := List ((Nat × Nat) × List Nat)
def pA (q : Nat × Nat) : Arr2 Int := ⟨q.1, q.2⟩
def nodesA (L : LL) : List (Arr2 Int) := L.map fun x => pA x.1
def ArrOk (l : List S_equals_arrival) (L : LL) : Prop :=
  l.length = L.length ∧ ∀ (j : Nat) (c : (Nat × Nat) × List Nat), L[j]? = some c → ∃ x, l[j]? = some x ∧ x.pair_ = pA c.1 ∧ ((c.2 = [] ∧ x.from_ = -1) ∨ ∃ (f i : Nat) (d : (Nat × Nat) × List Nat), f < j ∧ c.2 = i :: d.2 ∧ x.from_ = f ∧ x.input_ = i ∧ L[f]? = some d)
def SeenOk (seen : List (Arr2 Int × Bool)) (L : LL) : Prop := ∀ q : Arr2 Int, (mget seen q).getD false = true ↔ q ∈ nodesA L
def Nodes (a b : S_api_Machine) (L : LL) : Prop := (L.map (·.1)).Nodup ∧ ∀ x ∈ L, x.1.1 < a.Rows.length ∧ x.1.2 < b.Rows.length
theorem pA_inj {p q : Nat × Nat} (h : pA p = pA q) : p = q := by
  obtain ⟨p1, p2⟩ := p
  obtain ⟨q1, q2⟩ := q
  simp only [pA, Arr2.mk.injEq] at h
  simp only [Prod.mk.injEq]
  omega
theorem mem_nodes {L : LL} {q : Nat × Nat} : pA q ∈ nodesA L ↔ ∃ b ∈ L, b.1 = q := by
  unfold nodesA
  rw [List.mem_map]
  constructor
  · rintro ⟨x, h1, h2⟩; exact ⟨x, h1, pA_inj h2⟩
  · rintro ⟨x, h1, h2⟩; exact ⟨x, h1, by rw [h2]⟩
theorem Nodes.length {a b : S_api_Machine} {L : LL} (h : Nodes a b L) (ha : a.Rows.length ≤ 64) (hb : b.Rows.length ≤ 64) : L.length ≤ 4096 := by
  have := nodup_bound 4096 (L.map fun x => x.1.1 * 64 + x.1.2) ?_ ?_
  · simpa using this
  · have : (L.map fun x => x.1.1 * 64 + x.1.2) = (L.map (·.1)).map fun q => q.1 * 64 + q.2 := by rw [List.map_map]; rfl
    rw [this]
    refine List.Pairwise.map _ ?_ (List.Pairwise.and_mem.1 h.1)
    rintro p q ⟨hp, hq, hne⟩ e
    apply hne
    obtain ⟨x, hx, rfl⟩ := List.mem_map.1 hp
    obtain ⟨y, hy, rfl⟩ := List.mem_map.1 hq
    have := h.2 x hx
    have := h.2 y hy
    obtain ⟨⟨p1, p2⟩, _⟩ := x
    obtain ⟨⟨q1, q2⟩, _⟩ := y
    simp only at *
    simp only [Prod.mk.injEq]
    omega
  · intro x hx
    obtain ⟨y, hy, rfl⟩ := List.mem_map.1 hx
    have := h.2 y hy
    omega
theorem word_ret {l : List S_equals_arrival} {L : LL} (h : ArrOk l L) (hl : L.length ≤ 4096) {j : Nat} {c : (Nat × Nat) × List Nat} (hc : L[j]? = some c) (more : List Int) (hm : more.length ≤ 4096) :
    equals_word l (j : Int) more = some (c.2.reverse.map Int.ofNat ++ more) ∧ c.2.length ≤ j := by
  have clip : ∀ s : List Int, slices_Clip_int_int s = some s := by
    intro s
    unfold slices_Clip_int_int
    rw [gdT (by omega)]
    simp
  have lenw : ∀ (j : Nat) (c : (Nat × Nat) × List Nat), L[j]? = some c → c.2.length ≤ j := by
    intro j
    induction j using Nat.strongRecOn with
    | ind j ih =>
      intro c hc
      obtain ⟨x, _, _, h1⟩ := h.2 j c hc
      rcases h1 with ⟨e, _⟩ | ⟨f, i, d, hf, e, _, _, hd⟩
      · rw [e]; simp
      · have := ih f hf d hd
        rw [e]; simp; omega
  refine ⟨?_, lenw j c hc⟩
  have main : Ret (loop (fun s => equals_word_L2 l s.1 s.2) ((j : Int), more)) fun r => r = c.2.reverse.map Int.ofNat ++ more := by
    refine ret_loop (fun s => ∃ (n : Nat) (d : (Nat × Nat) × List Nat), s.1 = (n : Int) ∧ L[n]? = some d ∧ d.2.reverse.map Int.ofNat ++ s.2 = c.2.reverse.map Int.ofNat ++ more) (fun s => s.1.toNat) ⟨j, c, rfl, hc, rfl⟩ ?_ ?_
    · have := (List.getElem?_eq_some_iff.1 hc).1
      simp only [Int.toNat_natCast]
      omega
    · rintro ⟨s1, s2⟩ ⟨n, d, hn, hd, hs⟩
      simp only at hn hs
      subst hn
      obtain ⟨x, hx, hp, h1⟩ := h.2 n d hd
      unfold equals_word_L2
      simp only [ret_bind, ret_idx, Int.toNat_natCast, hx, ret_bif, ret_gd, ret_some, LRP]
      refine ⟨by omega, x, rfl, ?_, ?_⟩
      · intro hne
        rcases h1 with ⟨_, e⟩ | ⟨f, i, g, hf, e, hfr, hin, hg⟩
        · rw [e] at hne; exact absurd hne (by decide)
        · refine ⟨by omega, x, rfl, ?_, by omega, x, rfl, ⟨f, g, hfr, hg, ?_⟩, by omega⟩
          · have l1 := lenw n d hd
            have l2 := lenw j c hc
            have l3 := (List.getElem?_eq_some_iff.1 hc).1
            have l4 := congrArg List.length hs
            simp only [List.length_append, List.length_map, List.length_reverse] at l4
            simp only [List.length_cons, List.length_nil]
            omega
          · rw [hin, ← hs, e]
            simp
      · intro he
        rcases h1 with ⟨e, _⟩ | ⟨f, i, g, hf, e, hfr, _⟩
        · rw [e] at hs
          simpa using hs
        · rw [hfr] at he
          have : ((f : Int) != -1) = true := by simp
          rw [this] at he
          cases he
  unfold equals_word equals_word_J1
  rw [bdT (Ret.eq main), bdT (clip _)]
theorem kk_same {a b : S_api_Machine} (hab : a.Inputs = b.Inputs) : kk a = kk b := by unfold kk; rw [hab]
section
variable {a b : S_api_Machine} (va : VM a) (vb : VM b) (hab : a.Inputs = b.Inputs)
include va vb hab
theorem same_out {p : Nat × Nat} {i : Nat} (h1 : p.1 < a.Rows.length) (h2 : p.2 < b.Rows.length) (hi : i < kk a) (hb : badP a b p i = false) :
    ((E a p.1 i).To = -1 ∧ (E b p.2 i).To = -1 ∧ nxP a b p i = none) ∨ (0 ≤ (E a p.1 i).To ∧ 0 ≤ (E b p.2 i).To ∧ (E a p.1 i).To.toNat < a.Rows.length ∧ (E b p.2 i).To.toNat < b.Rows.length ∧ nxP a b p i = some ((E a p.1 i).To.toNat, (E b p.2 i).To.toNat)) := by
  have hi' : i < kk b := by rw [← kk_same hab]; exact hi
  have e : (E a p.1 i).Out = (E b p.2 i).Out := by simpa [badP] using hb
  rcases va.edgeAt h1 hi with ⟨x1, x2⟩ | ⟨x1, x2, x3, x4⟩ <;> rcases vb.edgeAt h2 hi' with ⟨y1, y2⟩ | ⟨y1, y2, y3, y4⟩
  · exact .inl ⟨x1, y1, by unfold nxP; rw [if_neg (by omega)]⟩
  · omega
  · omega
  · exact .inr ⟨x1, y1, by omega, by omega, by unfold nxP; rw [if_pos ⟨x1, y1⟩]⟩
end
theorem index_ret (s : List (Arr2 Int)) (v : Arr2 Int) (hl : s.length ≤ 4611686018427387903) : slices_Contains_2_int_2_int s v = some (decide (v ∈ s)) := by
  have hloop : loop (fun q => slices_Index_2_int_2_int_L2 s v q) 0 = some (oS (firstS (fun i x => if v = x then some (i : Int) else none) s 0)) := by
    refine loop_list s (by omega) _ ?_ ?_
    · intro i x hx
      have hi := (List.getElem?_eq_some_iff.1 hx).1
      unfold slices_Index_2_int_2_int_L2
      have hd : decide ((i : Int) < ((s.length : Nat) : Int)) = true := by simpa using hi
      rw [hd, cond_true, idx_nat, bdT hx]
      obtain ⟨v0, v1⟩ := v
      obtain ⟨x0, x1⟩ := x
      by_cases e : v0 = x0 ∧ v1 = x1
      · simp [nS, e.1, e.2]
      · have : (v0 == x0 && (v1 == x1 && true)) = false := by
          simp only [Bool.and_true, Bool.and_eq_false_iff, beq_eq_false_iff_ne]
          omega
        simp only [this, cond_false, nS, Arr2.mk.injEq, e, if_false]
    · unfold slices_Index_2_int_2_int_L2
      simp
  unfold slices_Contains_2_int_2_int slices_Index_2_int_2_int
  rw [hloop]
  simp only [Option.bind_some]
  cases hf : firstS (fun i x => if v = x then some (i : Int) else none) s 0 with
  | some q =>
    obtain ⟨i, x, h1, h2⟩ := firstS_some hf
    split at h2
    · rename_i e
      subst e
      simp only [Option.some.injEq] at h2
      have : v ∈ s := List.mem_of_getElem? h1
      simp only [oS, Option.bind_some, decide_eq_true this]
      rw [decide_eq_true (by omega)]
    · cases h2
  | none =>
    have : ¬ v ∈ s := by
      intro hx
      obtain ⟨i, hi⟩ := List.getElem?_of_mem hx
      have := firstS_isNone hf i v hi
      simp at this
    simp only [oS, slices_Index_2_int_2_int_J1, Option.bind_some, decide_eq_false this]
    rfl
theorem arr_snoc {l : List S_equals_arrival} {L : LL} (h : ArrOk l L) {f i : Nat} {d : (Nat × Nat) × List Nat} (hd : L[f]? = some d) (q : Nat × Nat) : ArrOk (l ++ [⟨pA q, (f : Int), (i : Int)⟩]) (L ++ [(q, i :: d.2)]) := by
  have hf := (List.getElem?_eq_some_iff.1 hd).1
  refine ⟨by simp [h.1], fun j c hc => ?_⟩
  rcases Nat.lt_or_ge j L.length with g | g
  · rw [List.getElem?_append_left g] at hc
    obtain ⟨x, h1, h2, h3⟩ := h.2 j c hc
    refine ⟨x, by rw [List.getElem?_append_left (by rw [h.1]; exact g)]; exact h1, h2, ?_⟩
    rcases h3 with h3 | ⟨f', i', d', h3, h4, h5, h6, h7⟩
    · exact .inl h3
    · exact .inr ⟨f', i', d', h3, h4, h5, h6, by rw [List.getElem?_append_left (by omega)]; exact h7⟩
  · have hj : j = L.length := by
      have := (List.getElem?_eq_some_iff.1 hc).1
      simp at this
      omega
    subst hj
    simp only [List.getElem?_append_right (Nat.le_refl _), Nat.sub_self, List.getElem?_cons_zero, Option.some.injEq] at hc
    subst hc
    refine ⟨⟨pA q, f, i⟩, ?_, rfl, .inr ⟨f, i, d, hf, rfl, rfl, rfl, by rw [List.getElem?_append_left hf]; exact hd⟩⟩
    have h0 := h.1
    rw [List.getElem?_append_right (by omega), h0]
    simp
theorem seen_set {seen : List (Arr2 Int × Bool)} {L : LL} (h : SeenOk seen L) (q : Nat × Nat) (u : List Nat) : SeenOk (mset seen (pA q) true) (L ++ [(q, u)]) := by
  intro r
  rw [mget_set]
  unfold nodesA
  rw [List.map_append, List.mem_append]
  by_cases e : pA q = r
  · subst e
    simp
  · have : (pA q == r) = false := by simpa using e
    rw [this]
    simp only [Bool.false_eq_true, if_false]
    rw [h r]
    constructor
    · exact .inl
    · rintro (g | g)
      · exact g
      · simp at g; exact (e g.symm).elim
theorem nodes_snoc {a b : S_api_Machine} {L : LL} (h : Nodes a b L) {q : Nat × Nat} (u : List Nat) (hq : ¬ ∃ b ∈ L, b.1 = q) (h1 : q.1 < a.Rows.length) (h2 : q.2 < b.Rows.length) : Nodes a b (L ++ [(q, u)]) := by
  refine ⟨?_, fun x hx => ?_⟩
  · rw [List.map_append, List.nodup_append]
    refine ⟨h.1, by simp, fun x hx y hy e => ?_⟩
    simp at hy
    subst hy
    subst e
    obtain ⟨z, g1, g2⟩ := List.mem_map.1 hx
    exact hq ⟨z, g1, g2⟩
  · rcases List.mem_append.1 hx with g | g
    · exact h.2 x g
    · simp at g
      subst g
      exact ⟨h1, h2⟩
def DiffR (a b : S_api_Machine) (r : List Int × List (Arr2 Int)) : Prop :=
  (∃ u, TellR (kk a) (badP a b) (nxP a b) (0, 0) u ∧ (∀ w, TellR (kk a) (badP a b) (nxP a b) (0, 0) w → rv (kk a) u ≤ rv (kk a) w) ∧ u.length ≤ 4096 ∧ r = (u.reverse.map Int.ofNat, [])) ∨
  (∃ L : LL, Bfs (kk a) (badP a b) (nxP a b) (0, 0) L L.length 0 ∧ Nodes a b L ∧ r = ([], nodesA L))
section
variable {a b : S_api_Machine} (va : VM a) (vb : VM b) (hab : a.Inputs = b.Inputs)
include va vb hab
theorem differ_ret : Ret (equals_differ a b) (DiffR a b) := by
  have hka : ((kk a : Nat) : Int) = a.Inputs := va.kk_eq
  have la := va.len64
  have lb := vb.len64
  have k16 := va.kk_le
  let Inv (L : LL) (at_ i : Nat) (s : LR (List Int × List (Arr2 Int)) (List Int × List (Arr2 Int))) (seen : List (Arr2 Int × Bool)) (l : List S_equals_arrival) : Prop :=
    Bfs (kk a) (badP a b) (nxP a b) (0, 0) L at_ i ∧ ArrOk l L ∧ SeenOk seen L ∧ Nodes a b L ∧ s = .next ([], nodesA L)
  let Fnd (s : LR (List Int × List (Arr2 Int)) (List Int × List (Arr2 Int))) : Prop := ∃ u p, TellR (kk a) (badP a b) (nxP a b) (0, 0) u ∧ (∀ w, TellR (kk a) (badP a b) (nxP a b) (0, 0) w → rv (kk a) u ≤ rv (kk a) w) ∧ u.length ≤ 4096 ∧ s = .done (u.reverse.map Int.ofNat, p)
  have inner : ∀ (L : LL) (at_ : Nat) (sg : LR (List Int × List (Arr2 Int)) (List Int × List (Arr2 Int))) (seen : List (Arr2 Int × Bool)) (l : List S_equals_arrival) (x : S_equals_arrival), at_ < L.length → l[at_]? = some x → Inv L at_ 0 sg seen l →
      Ret (loop (fun s => equals_meets_1_L3 a b (yOf (fun s x => equals_differ_I2 s.1 s.2 x.1 x.2)) (at_ : Int) x x s.1 s.2.1 s.2.2.1 s.2.2.2) (sg, seen, l, 0)) (fun r => match r with
        | .inl (sg', seen', l') => ∃ L', L.length ≤ L'.length ∧ Inv L' at_ (kk a) sg' seen' l'
        | .inr sg' => Fnd sg') := by
    intro L at_ sg seen l x hat hx hI
    refine ret_loop (fun s => ∃ (L' : LL) (i : Nat), s.2.2.2 = (i : Int) ∧ i ≤ kk a ∧ L.length ≤ L'.length ∧ s.2.2.1[at_]? = some x ∧ Inv L' at_ i s.1 s.2.1 s.2.2.1) (fun s => kk a - s.2.2.2.toNat) ⟨L, 0, rfl, Nat.zero_le _, Nat.le_refl _, hx, hI⟩ (by omega) ?_
    rintro ⟨sg, seen, l, i'⟩ ⟨L', i, hi', hik, hLL, hx, hB, hA, hS, hN, hsg⟩
    simp only at hi' hA hS hx
    subst hi'
    subst hsg
    have hat' : at_ < L'.length := by omega
    obtain ⟨c, hc⟩ : ∃ c, L'[at_]? = some c := ⟨_, List.getElem?_eq_getElem hat'⟩
    obtain ⟨x', hx', hpair, hw⟩ := hA.2 at_ c hc
    rw [hx] at hx'
    cases hx'
    have hcn := hN.2 c (List.mem_of_getElem? hc)
    have hL4 := hN.length la lb
    unfold equals_meets_1_L3
    rw [ret_bif]
    refine ⟨fun hlt => ?_, fun hge => ?_⟩
    · have hi : i < kk a := by rw [← hka] at hlt; simpa using hlt
      have hib : i < kk b := by rw [← kk_same hab]; exact hi
      have e0 : x.pair_.e0 = (c.1.1 : Int) := by rw [hpair]; rfl
      have e1 : x.pair_.e1 = (c.1.2 : Int) := by rw [hpair]; rfl
      rw [e0, e1]
      rw [va.edge_eq hcn.1 hi, vb.edge_eq hcn.2 hib]
      simp only [yOf, equals_differ_I2]
      by_cases hbad : badP a b c.1 i = true
      · have hne : ((E a c.1.1 i).Out != (E b c.1.2 i).Out) = true := hbad
        obtain ⟨hwd, hwl⟩ := word_ret hA hL4 hc [(i : Int)] (by simp)
        simp only [hne, cond_true, hwd, Option.bind_some, cond_false, ret_some, LRP]
        refine ⟨i :: c.2, nodesA L', ⟨c.1, hB.path c (List.mem_of_getElem? hc), hi, hbad⟩, fun w hw => ?_, by simp; omega, by simp⟩
        rcases Nat.lt_or_ge (rv (kk a) w) (rv (kk a) (i :: c.2)) with g | g
        · exact (hB.least hw fun c' hc' => by rw [hc] at hc'; cases hc'; simpa [rv] using g).elim
        · exact g
      · have hbad' : badP a b c.1 i = false := by simpa using hbad
        have hne : ((E a c.1.1 i).Out != (E b c.1.2 i).Out) = false := hbad'
        have hw1 : w64 ((i : Int) + 1) = ((i + 1 : Nat) : Int) := by rw [w64_in (by omega) (by omega)]; rfl
        rcases same_out va vb hab hcn.1 hcn.2 hi hbad' with ⟨t1, t2, t3⟩ | ⟨t1, t2, t3, t4, t5⟩
        · simp only [hne, cond_false, t1, bne_self_eq_false, Option.bind_some, cond_true, equals_meets_1_J4, hw1, ret_some, LRP]
          exact ⟨⟨L', i + 1, rfl, hi, hLL, hx, hB.old hc hi hbad' (by rw [t3]; intro q hq; cases hq), hA, hS, hN, rfl⟩, by omega⟩
        · have u1 : ((E a c.1.1 i).To != -1) = true := by simp; omega
          have u2 : ((E b c.1.2 i).To != -1) = true := by simp; omega
          have hq : (Arr2.mk (E a c.1.1 i).To (E b c.1.2 i).To) = pA ((E a c.1.1 i).To.toNat, (E b c.1.2 i).To.toNat) := by
            simp only [pA, Arr2.mk.injEq]; omega
          have hq' : (Arr2.mk (E b c.1.1 i).To (E b c.1.2 i).To) = (Arr2.mk (E b c.1.1 i).To (E b c.1.2 i).To) := rfl
          generalize hqn : ((E a c.1.1 i).To.toNat, (E b c.1.2 i).To.toNat) = q at hq t5
          have hq1 : q.1 < a.Rows.length := by rw [← hqn]; exact t3
          have hq2 : q.2 < b.Rows.length := by rw [← hqn]; exact t4
          have hlen : (nodesA L').length = L'.length := by simp [nodesA]
          simp only [hne, cond_false, u1, u2, cond_true, hq, index_ret _ _ (show (nodesA L').length ≤ 4611686018427387903 by omega), Option.bind_some]
          by_cases hmem : pA q ∈ nodesA L'
          · have hs : (mget seen (pA q)).getD false = true := (hS (pA q)).2 hmem
            simp only [decide_eq_true hmem, Bool.not_true, cond_false, Option.bind_some, cond_true, hs, equals_meets_1_J4, hw1, ret_some, LRP]
            exact ⟨⟨L', i + 1, rfl, hi, hLL, hx, hB.old hc hi hbad' (by rw [t5]; intro q' e; cases e; exact mem_nodes.1 hmem), hA, hS, hN, rfl⟩, by omega⟩
          · have hs : (mget seen (pA q)).getD false = false := by
              cases hv : (mget seen (pA q)).getD false with
              | true => exact (hmem ((hS (pA q)).1 hv)).elim
              | false => rfl
            have hnew : ¬ ∃ b ∈ L', b.1 = q := fun e => hmem (mem_nodes.2 e)
            have hln : l.length = L'.length := hA.1
            have hg1 : (nodesA L').length + ([pA q] : List (Arr2 Int)).length ≤ 4294967296 := by rw [hlen]; simp; omega
            have hg2 : l.length + ([(S_equals_arrival.mk (pA q) (at_ : Int) (i : Int))] : List S_equals_arrival).length ≤ 4294967296 := by rw [hln]; simp; omega
            simp only [decide_eq_false hmem, Bool.not_false, cond_true, gdT hg1, Option.bind_some, hs, gdT hg2, equals_meets_1_J4, hw1, ret_some, LRP]
            refine ⟨⟨L' ++ [(q, i :: c.2)], i + 1, rfl, hi, by simp; omega, ?_, hB.new hc hi hbad' t5, arr_snoc hA hc q, seen_set hS q _, nodes_snoc hN _ hnew hq1 hq2, ?_⟩, by omega⟩
            · rw [List.getElem?_append_left (by omega)]; exact hx
            · simp [nodesA]
    · have hik' : i = kk a := by
        rw [← hka] at hge
        simp at hge
        omega
      subst hik'
      simp only [ret_some, LRP]
      exact ⟨L', hLL, hB, hA, hS, hN, rfl⟩
  have outer : Ret (loop (fun s => equals_meets_1_L1 a b (yOf (fun s x => equals_differ_I2 s.1 s.2 x.1 x.2)) s.1 s.2.1 s.2.2.1 s.2.2.2) ((.next ([], [Arr2.mk 0 0]) : LR (List Int × List (Arr2 Int)) (List Int × List (Arr2 Int))), (mset ([] : List (Arr2 Int × Bool)) (Arr2.mk 0 0) true), ([(S_equals_arrival.mk (Arr2.mk 0 0) (-1) 0)] : List S_equals_arrival), 0))
      (fun s => Fnd s ∨ ∃ L : LL, Bfs (kk a) (badP a b) (nxP a b) (0, 0) L L.length 0 ∧ Nodes a b L ∧ s = .next ([], nodesA L)) := by
    refine ret_loop (fun s => ∃ (L : LL) (j : Nat), s.2.2.2 = (j : Int) ∧ j ≤ L.length ∧ Inv L j 0 s.1 s.2.1 s.2.2.1) (fun s => 4097 - s.2.2.2.toNat) ⟨[((0, 0), [])], 0, rfl, Nat.zero_le _, Bfs.start, ?_, ?_, ?_, rfl⟩ (by simp) ?_
    · refine ⟨rfl, fun j c hc => ?_⟩
      cases j with
      | zero => simp at hc; subst hc; exact ⟨_, rfl, rfl, .inl ⟨rfl, rfl⟩⟩
      | succ j => simp at hc
    · intro q
      simp only [mset, mget, nodesA, List.map_cons, List.map_nil, List.mem_cons, List.not_mem_nil, or_false]
      by_cases e : (Arr2.mk 0 0 : Arr2 Int) = q
      · subst e; simp [pA]
      · have : ((Arr2.mk 0 0 : Arr2 Int) == q) = false := by simpa using e
        rw [this]
        simp only [Bool.false_eq_true, if_false, Option.getD_none, false_iff]
        intro g
        exact e g.symm
    · refine ⟨by simp, fun x hx => ?_⟩
      simp at hx
      subst hx
      exact ⟨va.len1, vb.len1⟩
    · rintro ⟨sg, seen, l, j'⟩ ⟨L, j, hj, hjl, hI⟩
      simp only at hj
      subst hj
      obtain ⟨hB, hA, hS, hN, hsg⟩ := hI
      simp only at hA hS hsg
      have hL4 := hN.length la lb
      unfold equals_meets_1_L1
      rw [ret_bif]
      refine ⟨fun hlt => ?_, fun hge => ?_⟩
      · have hlt' : j < L.length := by simp [hA.1] at hlt; exact hlt
        obtain ⟨x, hx, _⟩ := hA.2 j _ (List.getElem?_eq_getElem hlt')
        rw [idx_nat, bdT hx, bdT hx, ret_bind]
        refine (inner L j sg seen l x hlt' hx ⟨hB, hA, hS, hN, hsg⟩).mono ?_
        rintro (⟨sg', seen', l'⟩ | sg') h
        · obtain ⟨L', hl, hB', hA', hS', hN', hsg'⟩ := h
          have hL4' := hN'.length la lb
          have hw1 : w64 ((j : Int) + 1) = ((j + 1 : Nat) : Int) := by rw [w64_in (by omega) (by omega)]; rfl
          simp only [equals_meets_1_J2, hw1, ret_some, LRP]
          exact ⟨⟨L', j + 1, rfl, by omega, hB'.step (by omega), hA', hS', hN', hsg'⟩, by omega⟩
        · simp only [ret_some, LRP]
          exact .inl h
      · have : j = L.length := by
          simp [hA.1] at hge
          omega
        subst this
        simp only [ret_some, LRP]
        exact .inr ⟨L, hB, hN, hsg⟩
  unfold equals_differ equals_meets equals_meets_1
  simp only [Option.bind_some]
  obtain ⟨t, e, h⟩ := outer
  rw [e]
  simp only [Option.bind_some]
  rcases h with ⟨u, p, h1, h2, h3, rfl⟩ | ⟨L, h1, h2, rfl⟩
  · simp only [ret_some]
    exact .inl ⟨u, h1, h2, h3, rfl⟩
  · simp only [equals_differ_J1, ret_some]
    exact .inr ⟨L, h1, h2, rfl⟩
end
end Go.Own

namespace Go.Own
set_option linter.unusedVariables false
set_option linter.unusedSimpArgs false
theorem one_mod {a k : Int} (h0 : 0 ≤ a) (hk : 1 ≤ k) (hk2 : k ≤ 1000000) : 1 ≤ w64 (1 + w64 (Int.tmod a k)) ∧ w64 (1 + w64 (Int.tmod a k)) ≤ k := by
  have h1 := Int.tmod_nonneg k h0
  have h2 := Int.tmod_lt_of_pos a (show 0 < k by omega)
  rw [w64_in (x := Int.tmod a k) (by omega) (by omega), w64_in (by omega) (by omega)]
  omega
structure MOk (x : S_law04_M) : Prop where
  s0 : 0 ≤ x.States
  i0 : 0 ≤ x.Inputs
  o0 : 0 ≤ x.Outputs
  e0 : ∀ v ∈ x.Edges, 0 ≤ v ∧ v ≤ 65535
theorem v_ret {x : S_law04_M} {n o : Int} (hn : n = w64 (1 + w64 (Int.tmod x.States 6))) (ho : o = w64 (1 + w64 (Int.tmod x.Outputs 3))) (n1 : 1 ≤ n) (n2 : n ≤ 6) (o1 : 1 ≤ o) (o2 : o ≤ 3) (row : List S_api_Edge) (i v : Int) (hl : row.length ≤ 1000) (v0 : 0 ≤ v) (v1 : v ≤ 65535) :
    ∃ e : S_api_Edge, law04_M_Of_J7 x row i v = some (.next (row ++ [e], w64 (i + 1))) ∧ ((e.To = -1 ∧ e.Out = -1) ∨ (0 ≤ e.To ∧ e.To < n ∧ 0 ≤ e.Out ∧ e.Out < o)) := by
  have hv4 : Int.tdiv v 4 = v / 4 := Int.tdiv_eq_ediv_of_nonneg v0
  have w4 : w64 (Int.tdiv v 4) = v / 4 := by rw [hv4]; exact w64_in (by omega) (by omega)
  have d0 : 0 ≤ v / 4 := by omega
  have hd : Int.tdiv (v / 4) n = v / 4 / n := Int.tdiv_eq_ediv_of_nonneg d0
  have d1 : 0 ≤ v / 4 / n := Int.ediv_nonneg d0 (by omega)
  have d2 : v / 4 / n ≤ v / 4 := Int.ediv_le_self _ d0
  have w5 : w64 (Int.tdiv (v / 4) n) = v / 4 / n := by rw [hd]; exact w64_in (by omega) (by omega)
  have fit : (0 : Int) ≤ Int.tmod (v / 4) n ∧ Int.tmod (v / 4) n < n ∧ 0 ≤ Int.tmod (v / 4 / n) o ∧ Int.tmod (v / 4 / n) o < o :=
    ⟨Int.tmod_nonneg _ d0, Int.tmod_lt_of_pos _ (by omega), Int.tmod_nonneg _ d1, Int.tmod_lt_of_pos _ (by omega)⟩
  unfold law04_M_Of_J7
  rw [← hn, ← ho, w4, w5]
  have g4 : (4 : Int) ≠ 0 := by decide
  have gn : (n : Int) ≠ 0 := by omega
  have go : (o : Int) ≠ 0 := by omega
  have gl : ∀ e : S_api_Edge, row.length + ([e] : List S_api_Edge).length ≤ 4294967296 := fun e => by simp; omega
  simp only [gdT g4, gdT gn, gdT go, gdT (gl _)]
  cases x.Partial
  · exact ⟨_, rfl, .inr fit⟩
  · cases hc : (Int.tmod v 4 == 3)
    · exact ⟨_, rfl, .inr fit⟩
    · exact ⟨_, rfl, .inl ⟨rfl, rfl⟩⟩
theorem of_ret {x : S_law04_M} (h : MOk x) : Ret (law04_M_Of x) fun m => VM m ∧ m.Inputs = w64 (1 + w64 (Int.tmod x.Inputs 3)) ∧ m.Inputs ≤ 3 ∧ m.Outputs ≤ 3 ∧ m.Rows.length ≤ 6 := by
  have hn' := one_mod h.s0 (k := 6) (by omega) (by omega)
  have hi' := one_mod h.i0 (k := 3) (by omega) (by omega)
  have ho' := one_mod h.o0 (k := 3) (by omega) (by omega)
  obtain ⟨n, hn⟩ : ∃ n, n = w64 (1 + w64 (Int.tmod x.States 6)) := ⟨_, rfl⟩
  obtain ⟨k, hk⟩ : ∃ n, n = w64 (1 + w64 (Int.tmod x.Inputs 3)) := ⟨_, rfl⟩
  obtain ⟨o, ho⟩ : ∃ n, n = w64 (1 + w64 (Int.tmod x.Outputs 3)) := ⟨_, rfl⟩
  rw [← hn] at hn'
  rw [← hk] at hi'
  rw [← ho] at ho'
  have inner : ∀ s : Int, 0 ≤ s → s < n → Ret (loop (fun st => law04_M_Of_L5 x s st.1 st.2) (([] : List S_api_Edge), 0)) (fun r => (r.length : Int) = k ∧ ∀ e ∈ r, (e.To = -1 ∧ e.Out = -1) ∨ (0 ≤ e.To ∧ e.To < n ∧ 0 ≤ e.Out ∧ e.Out < o)) := by
    intro s s0 s1
    refine ret_loop (fun st => (st.1.length : Int) = st.2 ∧ st.2 ≤ k ∧ ∀ e ∈ st.1, (e.To = -1 ∧ e.Out = -1) ∨ (0 ≤ e.To ∧ e.To < n ∧ 0 ≤ e.Out ∧ e.Out < o)) (fun st => 10 - st.2.toNat) ⟨by simp, by omega, by simp⟩ (by simp) ?_
    rintro ⟨row, i⟩ ⟨h1, h2, h3⟩
    simp only at h1 h2 h3
    unfold law04_M_Of_L5
    rw [← hk, ret_bif]
    have hsk : s * k ≤ 5 * k := Int.mul_le_mul_of_nonneg_right (by omega) (by omega)
    have hsk0 : 0 ≤ s * k := Int.mul_nonneg s0 (by omega)
    have w1 : w64 (s * k) = s * k := w64_in (by omega) (by omega)
    have w2 : w64 (s * k + i) = s * k + i := w64_in (by omega) (by omega)
    rw [w1, w2]
    refine ⟨fun hlt => ?_, fun hge => ?_⟩
    · have hlt : i < k := of_decide_eq_true hlt
      have hw : w64 (i + 1) = i + 1 := w64_in (by omega) (by omega)
      have fin : ∀ v : Int, 0 ≤ v → v ≤ 65535 → Ret (law04_M_Of_J7 x row i v) (LRP (fun s' => (((s'.1.length : Nat) : Int) = s'.2 ∧ s'.2 ≤ k ∧ ∀ e ∈ s'.1, (e.To = -1 ∧ e.Out = -1) ∨ (0 ≤ e.To ∧ e.To < n ∧ 0 ≤ e.Out ∧ e.Out < o)) ∧ 10 - s'.2.toNat < 10 - i.toNat) (fun r => (r.length : Int) = k ∧ ∀ e ∈ r, (e.To = -1 ∧ e.Out = -1) ∨ (0 ≤ e.To ∧ e.To < n ∧ 0 ≤ e.Out ∧ e.Out < o))) := by
        intro v v0 v1
        obtain ⟨e, g1, g2⟩ := v_ret hn ho hn'.1 hn'.2 ho'.1 ho'.2 row i v (by omega) v0 v1
        rw [g1, hw, ret_some]
        refine ⟨⟨by simp; omega, by simp only; omega, fun e' he => ?_⟩, by simp only; omega⟩
        rcases List.mem_append.1 he with q | q
        · exact h3 e' q
        · simp only [List.mem_cons, List.not_mem_nil, or_false] at q; subst q; exact g2
      rw [ret_bif]
      refine ⟨fun hc => ?_, fun _ => fin 0 (by omega) (by omega)⟩
      have hc : s * k + i < ((x.Edges.length : Nat) : Int) := of_decide_eq_true hc
      rw [ret_bind, ret_idx]
      have hlt' : (s * k + i).toNat < x.Edges.length := by omega
      refine ⟨by omega, _, List.getElem?_eq_getElem hlt', ?_⟩
      have := h.e0 _ (List.getElem_mem hlt')
      rw [w64_in (by omega) (by omega)]
      exact fin _ this.1 this.2
    · have hge : ¬ i < k := of_decide_eq_false hge
      rw [ret_some]
      exact ⟨by simp only; omega, h3⟩
  unfold law04_M_Of
  simp only [ret_gd, ret_bind]
  refine ⟨by decide, by decide, by decide, ?_⟩
  refine (ret_loop (R := fun r => (r.length : Int) = n ∧ ∀ r' ∈ r, (r'.length : Int) = k ∧ ∀ e ∈ r', (e.To = -1 ∧ e.Out = -1) ∨ (0 ≤ e.To ∧ e.To < n ∧ 0 ≤ e.Out ∧ e.Out < o)) (fun st => (st.1.length : Int) = st.2 ∧ st.2 ≤ n ∧ ∀ r' ∈ st.1, (r'.length : Int) = k ∧ ∀ e ∈ r', (e.To = -1 ∧ e.Out = -1) ∨ (0 ≤ e.To ∧ e.To < n ∧ 0 ≤ e.Out ∧ e.Out < o)) (fun st => 10 - st.2.toNat) ⟨by simp, by omega, by simp⟩ (by simp) ?_).mono ?_
  · rintro ⟨rows, s⟩ ⟨h1, h2, h3⟩
    simp only at h1 h2 h3
    unfold law04_M_Of_L2
    rw [← hn, ret_bif]
    refine ⟨fun hlt => ?_, fun hge => ?_⟩
    · have hlt : s < n := of_decide_eq_true hlt
      rw [ret_bind]
      refine (inner s (by omega) hlt).mono fun row hrow => ?_
      unfold law04_M_Of_J4 law04_M_Of_J3
      rw [ret_gd, ret_some, w64_in (by omega) (by omega)]
      refine ⟨by simp; omega, ⟨by simp; omega, by simp only; omega, fun r' hr => ?_⟩, by simp only; omega⟩
      rcases List.mem_append.1 hr with q | q
      · exact h3 r' q
      · simp only [List.mem_cons, List.not_mem_nil, or_false] at q; subst q; exact hrow
    · have hge : ¬ s < n := of_decide_eq_false hge
      rw [ret_some]
      exact ⟨by simp only; omega, h3⟩
  · rintro rows ⟨h1, h2⟩
    unfold law04_M_Of_J1
    rw [ret_some, ← hk, ← ho]
    refine ⟨⟨hi'.1, by simp only; omega, ho'.1, by simp only; omega, by simp only; omega, by simp only; omega, fun r hr => (h2 r hr).1, fun r hr e he => ?_⟩, rfl, hi'.2, ho'.2, by simp only; omega⟩
    simp only [h1]
    exact (h2 r hr).2 e he
def bothS (a b : S_api_Machine) : Int := if chk a ≠ 0 then chk a else if chk b ≠ 0 then chk b else if a.Inputs ≠ b.Inputs then 5 else 0
theorem or_eq (x y : Int) : cmp_Or_api_Errno [x, y] = some (if x ≠ 0 then x else y) := by
  have hl : loop (fun s => cmp_Or_api_Errno_L2 [x, y] s) 0 = some (oS (firstS (fun _ v => if v ≠ 0 then some v else none) [x, y] 0)) := by
    refine loop_list [x, y] (by simp) _ ?_ ?_
    · intro i v hv
      have hi := (List.getElem?_eq_some_iff.1 hv).1
      unfold cmp_Or_api_Errno_L2
      have hd : decide ((i : Int) < (([x, y].length : Nat) : Int)) = true := by simp at hi ⊢; omega
      rw [hd, cond_true, idx_nat, bdT hv]
      by_cases h : v = 0
      · simp [nS, h]
      · simp [nS, h, Bool.cond_eq_ite]
    · rfl
  unfold cmp_Or_api_Errno
  rw [bdT hl]
  by_cases h : x = 0
  · by_cases q : y = 0
    · simp [firstS, oS, h, q, cmp_Or_api_Errno_J1]
    · simp [firstS, oS, h, q]
  · simp [firstS, oS, h]
theorem both_eq (a b : S_api_Machine) : equals_both a b = some (bothS a b) := by
  unfold equals_both equals_both_J1 bothS
  rw [bdT (check_eq a), bdT (check_eq b), bdT (or_eq _ _)]
  by_cases h : chk a = 0
  · by_cases q : chk b = 0
    · by_cases r : a.Inputs = b.Inputs
      · simp [h, q, r]
      · simp [h, q, r, Bool.cond_eq_ite]
    · simp [h, q, Bool.cond_eq_ite]
  · simp [h, Bool.cond_eq_ite]
theorem both_ok {a b : S_api_Machine} (h : bothS a b = 0) : VM a ∧ VM b ∧ a.Inputs = b.Inputs := by
  unfold bothS at h
  split at h
  · rename_i q; exact (q h).elim
  split at h
  · rename_i q; exact (q h).elim
  split at h
  · cases h
  · rename_i h1 h2 h3
    exact ⟨vm_of (by simpa using h1), vm_of (by simpa using h2), by simpa using h3⟩
theorem both_of {a b : S_api_Machine} (ha : VM a) (hb : VM b) (h : a.Inputs = b.Inputs) : bothS a b = 0 := by
  unfold bothS
  simp [chk_of ha, chk_of hb, h]
theorem bfs_none {a b : S_api_Machine} {L : LL} (h : Bfs (kk a) (badP a b) (nxP a b) (0, 0) L L.length 0) (u : List Nat) : ¬ TellR (kk a) (badP a b) (nxP a b) (0, 0) u := fun hu =>
  h.least hu fun c hc => by have := (List.getElem?_eq_some_iff.1 hc).1; omega
def lexC : List Int → List Int → Int
  | [], [] => 0
  | [], _ :: _ => -1
  | _ :: _, [] => 1
  | x :: s, y :: t => if x < y then -1 else if y < x then 1 else lexC s t
theorem cmp_eq (x y : Int) : cmp_Compare_int x y = some (if x < y then -1 else if y < x then 1 else 0) := by
  unfold cmp_Compare_int cmp_isNaN_int
  simp only [Option.bind_some, bne_self_eq_false, cond_false]
  by_cases h1 : x < y
  · simp [h1]
  · by_cases h2 : y < x
    · simp [h1, h2]
    · simp [h1, h2]
theorem compare_eq (s t : List Int) (hs : s.length < 4611686018427387904) : slices_Compare_int_int s t = some (lexC s t) := by
  have hl : loop (fun q => slices_Compare_int_int_L2 s t q) 0 = some (oS (firstS (fun i x => match t[i]? with | none => some 1 | some y => if x < y then some (-1) else if y < x then some (1 : Int) else none) s 0)) := by
    refine loop_list s hs _ ?_ ?_
    · intro i x hx
      have hi := (List.getElem?_eq_some_iff.1 hx).1
      unfold slices_Compare_int_int_L2
      have hd : decide ((i : Int) < ((s.length : Nat) : Int)) = true := by simpa using hi
      rw [hd, cond_true, idx_nat, bdT hx]
      cases ht : t[i]? with
      | none =>
        have : decide ((i : Int) ≥ ((t.length : Nat) : Int)) = true := by
          have := List.getElem?_eq_none_iff.1 ht
          simpa using this
        rw [this]
        rfl
      | some y =>
        have : decide ((i : Int) ≥ ((t.length : Nat) : Int)) = false := by
          have := (List.getElem?_eq_some_iff.1 ht).1
          simp; omega
        rw [this, cond_false, idx_nat, bdT ht, bdT (cmp_eq x y)]
        by_cases h1 : x < y
        · simp [h1, nS]
        · by_cases h2 : y < x
          · simp [h1, h2, nS]
          · simp [h1, h2, nS]
    · unfold slices_Compare_int_int_L2
      simp
  unfold slices_Compare_int_int
  rw [bdT hl]
  clear hl hs
  have gen : ∀ (s t : List Int) (k : Nat) (p : List Int), p.length = k → (match oS (firstS (fun i x => match (p ++ t)[i]? with | none => some 1 | some y => if x < y then some (-1) else if y < x then some (1 : Int) else none) s k) with | .inl _ => (if s.length < t.length then -1 else 0) | .inr r => r) = lexC s t := by
    intro s
    induction s with
    | nil =>
      intro t k p hp
      cases t with
      | nil => simp [firstS, oS, lexC]
      | cons y t => simp [firstS, oS, lexC]
    | cons x s ih =>
      intro t k p hp
      cases t with
      | nil =>
        have : (p ++ ([] : List Int))[k]? = none := by rw [List.getElem?_eq_none_iff]; simp [hp]
        simp only [firstS, this, oS, lexC]
      | cons y t =>
        have : (p ++ y :: t)[k]? = some y := by rw [List.getElem?_append_right (by omega), hp]; simp
        simp only [firstS, this, lexC]
        by_cases h1 : x < y
        · simp [h1, oS]
        · by_cases h2 : y < x
          · simp [h1, h2, oS]
          · simp only [h1, h2, if_false]
            have := ih t (k + 1) (p ++ [y]) (by simp [hp])
            simp only [List.append_assoc, List.singleton_append] at this
            rw [← this]
            simp only [List.length_cons, Nat.add_lt_add_iff_right]
  have := gen s t 0 [] rfl
  simp only [List.nil_append] at this
  rw [← this]
  generalize firstS _ s 0 = w
  cases w with
  | none =>
    simp only [oS, slices_Compare_int_int_J1, Bool.cond_eq_ite, decide_eq_true_eq]
    by_cases h : s.length < t.length
    · rw [if_pos (by omega), if_pos h]
    · rw [if_neg (by omega), if_neg h]
  | some r => rfl
end Go.Own

namespace Go.Own
set_option linter.unusedVariables false
set_option linter.unusedSimpArgs false
def pc (x y : Arr2 Int) : Int := lexC [x.e0, x.e1] [y.e0, y.e1]
theorem pc_lt (x y : Arr2 Int) : pc x y < 0 ↔ x.e0 < y.e0 ∨ x.e0 = y.e0 ∧ x.e1 < y.e1 := by
  have e0 : ∀ u v : Int, lexC [u] [v] = if u < v then -1 else if v < u then 1 else 0 := fun u v => rfl
  have e1 : pc x y = if x.e0 < y.e0 then -1 else if y.e0 < x.e0 then 1 else lexC [x.e1] [y.e1] := rfl
  rw [e1, e0]
  by_cases h1 : x.e0 < y.e0
  · rw [if_pos h1]
    exact ⟨fun _ => .inl h1, fun _ => by decide⟩
  · rw [if_neg h1]
    by_cases h2 : y.e0 < x.e0
    · rw [if_pos h2]
      exact ⟨fun h => absurd h (by decide), fun h => by omega⟩
    · rw [if_neg h2]
      by_cases h3 : x.e1 < y.e1
      · rw [if_pos h3]
        exact ⟨fun _ => .inr ⟨by omega, h3⟩, fun _ => by decide⟩
      · rw [if_neg h3]
        by_cases h4 : y.e1 < x.e1
        · rw [if_pos h4]
          exact ⟨fun h => absurd h (by decide), fun h => by omega⟩
        · rw [if_neg h4]
          exact ⟨fun h => absurd h (by decide), fun h => by omega⟩
theorem relate1_eq (x y : Arr2 Int) : equals_Relate_1 x y = some (pc x y) := by
  unfold equals_Relate_1
  rw [bdT (compare_eq _ _ (by simp))]
  rfl
theorem pc_ok (l : List (Arr2 Int)) : SOk pc l := by
  refine ⟨fun x _ => ?_, fun x _ y _ z _ h1 h2 => ?_, fun x _ y _ h1 h2 => ?_⟩
  · rw [pc_lt]; omega
  · rw [pc_lt] at *; omega
  · rw [pc_lt] at h1 h2
    obtain ⟨x0, x1⟩ := x
    obtain ⟨y0, y1⟩ := y
    simp only at h1 h2
    simp only [Arr2.mk.injEq]
    omega
theorem sort_pairs (l : List (Arr2 Int)) (h : l.length ≤ 4096) : sortF (fun x y => equals_Relate_1 x y) l = some (isort pc l) := by
  have e : (fun x y => (equals_Relate_1 x y).getD 0) = pc := by
    funext x y
    rw [relate1_eq]
    rfl
  unfold sortF
  rw [gdT ⟨by omega, fun x _ y _ => by show (equals_Relate_1 x y).isSome = true; rw [relate1_eq]; rfl⟩, gdT (by rw [e]; exact pc_ok l), e]
theorem clip_pairs (l : List (Arr2 Int)) : slices_Clip_2_int_2_int l = some l := by
  unfold slices_Clip_2_int_2_int
  rw [gdT (by omega)]
  simp
theorem Relate_ret {a b : S_api_Machine} (h : bothS a b = 0) : Ret (equals_Relate a b) fun r => r.2.2 = 0 ∧
    ((∃ u, TellR (kk a) (badP a b) (nxP a b) (0, 0) u) ∧ r.1 = [] ∧ r.2.1 = false ∨ ∃ L : LL, Bfs (kk a) (badP a b) (nxP a b) (0, 0) L L.length 0 ∧ Nodes a b L ∧ r.1 = isort pc (nodesA L) ∧ r.2.1 = true) := by
  obtain ⟨va, vb, hab⟩ := both_ok h
  unfold equals_Relate
  rw [bdT (both_eq a b), h]
  simp only [bne_self_eq_false, cond_false, ret_bind]
  refine (differ_ret va vb hab).mono fun r hr => ?_
  rcases hr with ⟨u, h1, h2, h3, rfl⟩ | ⟨L, h1, h2, rfl⟩
  · rw [sort_pairs _ (by simp), ret_some, clip_pairs, ret_some, ret_some]
    refine ⟨rfl, .inl ⟨⟨u, h1⟩, rfl, ?_⟩⟩
    cases u with
    | nil => exact h1.elim
    | cons x u => simp; omega
  · have := h2.length va.len64 vb.len64
    rw [sort_pairs _ (by simp [nodesA]; omega), ret_some, clip_pairs, ret_some, ret_some]
    exact ⟨rfl, .inr ⟨L, h1, h2, rfl, rfl⟩⟩
def InAB (a b : S_api_Machine) (p : Arr2 Int) : Prop := 0 ≤ p.e0 ∧ 0 ≤ p.e1 ∧ p.e0 < (a.Rows.length : Int) ∧ p.e1 < (b.Rows.length : Int)
instance (a b : S_api_Machine) (p : Arr2 Int) : Decidable (InAB a b p) := by unfold InAB; infer_instance
def relE (a b : S_api_Machine) (r : List (Arr2 Int)) : Int := if bothS a b ≠ 0 then bothS a b else if r.length > 4096 then 3 else if ∀ p ∈ r, InAB a b p then 0 else 1
def okAt (a b : S_api_Machine) (r : List (Arr2 Int)) (p : Arr2 Int) (i : Nat) : Prop :=
  (E a p.e0.toNat i).Out = (E b p.e1.toNat i).Out ∧ ((E a p.e0.toNat i).To = -1 ∨ (Arr2.mk (E a p.e0.toNat i).To (E b p.e1.toNat i).To) ∈ r)
def Cert (a b : S_api_Machine) (r : List (Arr2 Int)) : Prop := Arr2.mk 0 0 ∈ r ∧ ∀ p ∈ r, ∀ i, i < kk a → okAt a b r p i
theorem rel_ret (a b : S_api_Machine) (r : List (Arr2 Int)) : Ret (equals_CheckRelation a b r) fun q => q.2 = relE a b r ∧ (q.1 = true ↔ relE a b r = 0 ∧ Cert a b r) := by
  unfold equals_CheckRelation relE
  rw [bdT (both_eq a b)]
  by_cases hb : bothS a b = 0
  · rw [hb]
    obtain ⟨va, vb, hab⟩ := both_ok hb
    simp only [bne_self_eq_false, cond_false, ne_eq, not_true_eq_false, if_false]
    by_cases hl : r.length > 4096
    · rw [if_pos hl, decide_eq_true (by omega)]
      simp only [cond_true, ret_some]
      exact ⟨trivial, by simp⟩
    · rw [if_neg hl, decide_eq_false (by omega)]
      simp only [cond_false, ret_bind]
      let MapOk (m : List (Arr2 Int × Bool)) (i : Nat) : Prop := ∀ q, (mget m q).getD false = true ↔ q ∈ r.take i
      have l6 : Ret (loop (fun s => equals_CheckRelation_L6 a b r s.1 s.2) (([] : List (Arr2 Int × Bool)), 0)) (fun t => match t with
          | .inl m => (∀ p ∈ r, InAB a b p) ∧ MapOk m r.length
          | .inr q => (¬ ∀ p ∈ r, InAB a b p) ∧ q = (false, 1)) := by
        refine ret_loop (fun s => ∃ i : Nat, s.2 = (i : Int) ∧ i ≤ r.length ∧ MapOk s.1 i ∧ ∀ p ∈ r.take i, InAB a b p) (fun s => 5000 - s.2.toNat) ⟨0, rfl, Nat.zero_le _, ?_, by simp⟩ (by simp) ?_
        · intro q; simp [mget]
        · rintro ⟨m, i'⟩ ⟨i, hi, hir, hm, hp⟩
          simp only at hi hm
          subst hi
          unfold equals_CheckRelation_L6
          rw [ret_bif]
          refine ⟨fun hlt => ?_, fun hge => ?_⟩
          · have hlt : i < r.length := by simpa using hlt
            have hx : r[i]? = some r[i] := List.getElem?_eq_getElem hlt
            rw [idx_nat, bdT hx]
            have hin : r[i] ∈ r := List.getElem_mem hlt
            have hw : w64 ((i : Int) + 1) = ((i + 1 : Nat) : Int) := by rw [w64_in (by omega) (by omega)]; rfl
            by_cases c : InAB a b r[i]
            · obtain ⟨c1, c2, c3, c4⟩ := c
              have d1 : decide (mn r[i].e0 r[i].e1 < 0) = false := by unfold mn; simp; split <;> omega
              have d2 : decide (r[i].e0 ≥ ((a.Rows.length : Nat) : Int)) = false := by simp; omega
              have d3 : decide (r[i].e1 ≥ ((b.Rows.length : Nat) : Int)) = false := by simp; omega
              rw [d1, d2, d3]
              simp only [cond_false, ret_some, LRP, hw]
              have tk : r.take (i + 1) = r.take i ++ [r[i]] := by rw [List.take_add_one, hx]; rfl
              refine ⟨⟨i + 1, rfl, hlt, ?_, ?_⟩, by omega⟩
              · intro q
                rw [mget_set, tk, List.mem_append]
                by_cases e : r[i] = q
                · subst e; simp
                · have : (r[i] == q) = false := by simpa using e
                  rw [this]
                  simp only [Bool.false_eq_true, if_false]
                  rw [hm q]
                  constructor
                  · exact .inl
                  · rintro (g | g)
                    · exact g
                    · simp at g; exact (e g.symm).elim
              · intro p hpm
                rw [tk, List.mem_append] at hpm
                rcases hpm with g | g
                · exact hp p g
                · simp at g; subst g; exact ⟨c1, c2, c3, c4⟩
            · have bad : ¬ ∀ p ∈ r, InAB a b p := fun h => c (h _ hin)
              have done : Ret (some (.done (.inr (false, 1))) : Option (LR (List (Arr2 Int × Bool) × Int) (List (Arr2 Int × Bool) ⊕ Bool × Int))) (LRP (fun s' => (∃ j : Nat, s'.2 = (j : Int) ∧ j ≤ r.length ∧ MapOk s'.1 j ∧ ∀ p ∈ r.take j, InAB a b p) ∧ 5000 - s'.2.toNat < 5000 - (i : Int).toNat) (fun t => match t with
                | .inl m => (∀ p ∈ r, InAB a b p) ∧ MapOk m r.length
                | .inr q => (¬ ∀ p ∈ r, InAB a b p) ∧ q = (false, 1))) := ret_some.2 ⟨bad, rfl⟩
              rw [ret_bif]
              refine ⟨fun _ => done, fun e1 => ?_⟩
              rw [ret_bif]
              refine ⟨fun _ => done, fun e2 => ?_⟩
              rw [ret_bif]
              refine ⟨fun _ => done, fun e3 => ?_⟩
              exfalso
              apply c
              simp only [decide_eq_false_iff_not] at e1 e2 e3
              unfold mn at e1
              unfold InAB
              split at e1 <;> omega
          · have : i = r.length := by
              simp at hge
              omega
            subst this
            rw [ret_some]
            rw [List.take_length] at hp
            exact ⟨hp, hm⟩
      refine l6.mono ?_
      rintro (m | q) hm
      · obtain ⟨hall, hm⟩ := hm
        rw [if_pos hall]
        have hm' : ∀ q, (mget m q).getD false = true ↔ q ∈ r := fun q => by rw [hm q, List.take_length]
        unfold equals_CheckRelation_J1 equals_CheckRelation_J2
        simp only [Option.bind_some, ret_bind, ret_some]
        have hka := va.kk_eq
        have k16 := va.kk_le
        have l5 : ∀ (p : Arr2 Int) (row : List S_api_Edge) (is : Bool), p ∈ r → a.Rows[p.e0.toNat]? = some row → Ret (loop (fun s => equals_CheckRelation_L5 b m p row s.1 s.2) (is, 0)) (fun t => t = true ↔ is = true ∧ ∀ i, i < kk a → okAt a b r p i) := by
          intro p row is hp hrow
          obtain ⟨p0, p1, p2, p3⟩ := hall p hp
          have h1 : p.e0.toNat < a.Rows.length := by omega
          have h2 : p.e1.toNat < b.Rows.length := by omega
          obtain ⟨row', g1, g2, g3⟩ := va.rowAt h1
          rw [hrow] at g1
          cases g1
          refine ret_loop (fun s => ∃ i : Nat, s.2 = (i : Int) ∧ i ≤ kk a ∧ (s.1 = true ↔ is = true ∧ ∀ j, j < i → okAt a b r p j)) (fun s => 100 - s.2.toNat) ⟨0, rfl, Nat.zero_le _, by simp⟩ (by simp) ?_
          rintro ⟨q, i'⟩ ⟨i, hi, hik, hq⟩
          simp only at hi hq
          subst hi
          unfold equals_CheckRelation_L5
          rw [ret_bif]
          refine ⟨fun hlt => ?_, fun hge => ?_⟩
          · have hlt : i < kk a := by simp [g2] at hlt; exact hlt
            have hib : i < kk b := by rw [← kk_same hab]; exact hlt
            have hpe : p.e1 = ((p.e1.toNat : Nat) : Int) := by omega
            have hw : w64 ((i : Int) + 1) = ((i + 1 : Nat) : Int) := by rw [w64_in (by omega) (by omega)]; rfl
            rw [idx_nat, bdT (g3 i hlt), hpe, vb.edge_eq h2 hib]
            have fin : ∀ z : Bool, (z = true ↔ q = true ∧ okAt a b r p i) → Ret (some (.next (z, w64 ((i : Int) + 1))) : Option (LR (Bool × Int) Bool)) (LRP (fun s' => (∃ j : Nat, s'.2 = (j : Int) ∧ j ≤ kk a ∧ (s'.1 = true ↔ is = true ∧ ∀ n, n < j → okAt a b r p n)) ∧ 100 - s'.2.toNat < 100 - (i : Int).toNat) (fun t => t = true ↔ is = true ∧ ∀ i, i < kk a → okAt a b r p i)) := by
              intro z hz
              rw [ret_some, hw]
              refine ⟨⟨i + 1, rfl, hlt, ?_⟩, by simp only; omega⟩
              rw [hz, hq]
              constructor
              · rintro ⟨⟨e1, e2⟩, e3⟩
                refine ⟨e1, fun j hj => ?_⟩
                by_cases e : j = i
                · subst e; exact e3
                · exact e2 j (by omega)
              · rintro ⟨e1, e2⟩
                exact ⟨⟨e1, fun j hj => e2 j (by omega)⟩, e2 i (by omega)⟩
            rw [ret_bif]
            refine ⟨fun hq1 => ?_, fun hq1 => fin false (by have hq1 : q = false := hq1; rw [hq1]; simp)⟩
            have hq1 : q = true := hq1
            rw [ret_bif]
            refine ⟨fun ho => ?_, fun ho => fin false ?_⟩
            · have ho : (E a p.e0.toNat i).Out = (E b p.e1.toNat i).Out := by simpa using ho
              rw [ret_bif]
              refine ⟨fun ht => ?_, fun ht => ?_⟩
              · have ht : (E a p.e0.toNat i).To = -1 := by simpa using ht
                exact fin true (by simp [hq1, okAt, ho, ht])
              · have ht : ¬ (E a p.e0.toNat i).To = -1 := by simpa using ht
                simp only [Option.bind_some]
                refine fin _ ?_
                rw [hm']
                simp [hq1, okAt, ho, ht]
            · have ho : ¬ (E a p.e0.toNat i).Out = (E b p.e1.toNat i).Out := by simpa using ho
              simp [okAt, ho]
          · have : i = kk a := by simp [g2] at hge; omega
            subst this
            rw [ret_some]
            exact hq
        refine (ret_loop (R := fun t => t = true ↔ Cert a b r) (fun s => ∃ i : Nat, s.2 = (i : Int) ∧ i ≤ r.length ∧ (s.1 = true ↔ Arr2.mk 0 0 ∈ r ∧ ∀ p ∈ r.take i, ∀ j, j < kk a → okAt a b r p j)) (fun s => 5000 - s.2.toNat) ⟨0, rfl, Nat.zero_le _, by simp [hm']⟩ (by simp) ?_).mono ?_
        · rintro ⟨q, i'⟩ ⟨i, hi, hir, hq⟩
          simp only at hi hq
          subst hi
          unfold equals_CheckRelation_L3 equals_CheckRelation_J4
          rw [ret_bif]
          refine ⟨fun hlt => ?_, fun hge => ?_⟩
          · have hlt : i < r.length := by simpa using hlt
            have hx : r[i]? = some r[i] := List.getElem?_eq_getElem hlt
            have hin : r[i] ∈ r := List.getElem_mem hlt
            have hw : w64 ((i : Int) + 1) = ((i + 1 : Nat) : Int) := by rw [w64_in (by omega) (by omega)]; rfl
            obtain ⟨p0, p1, p2, p3⟩ := hall _ hin
            have h1 : r[i].e0.toNat < a.Rows.length := by omega
            rw [idx_nat, bdT hx, ret_bind, ret_idx]
            refine ⟨p0, _, List.getElem?_eq_getElem h1, ?_⟩
            rw [ret_bind]
            refine (l5 r[i] _ q hin (List.getElem?_eq_getElem h1)).mono fun z hz => ?_
            rw [ret_some, hw]
            have tk : r.take (i + 1) = r.take i ++ [r[i]] := by rw [List.take_add_one, hx]; rfl
            refine ⟨⟨i + 1, rfl, hlt, ?_⟩, by simp only; omega⟩
            rw [hz, hq, tk]
            constructor
            · rintro ⟨⟨e1, e2⟩, e3⟩
              refine ⟨e1, fun p hp => ?_⟩
              rcases List.mem_append.1 hp with g | g
              · exact e2 p g
              · simp at g; subst g; exact e3
            · rintro ⟨e1, e2⟩
              exact ⟨⟨e1, fun p hp => e2 p (List.mem_append_left _ hp)⟩, e2 _ (List.mem_append_right _ (List.mem_singleton.2 rfl))⟩
          · have : i = r.length := by simp at hge; omega
            subst this
            rw [ret_some]
            rw [List.take_length] at hq
            exact hq
        · intro t ht
          exact ⟨trivial, by simp [ht]⟩
      · obtain ⟨hbad, rfl⟩ := hm
        rw [if_neg hbad, ret_some]
        exact ⟨rfl, by simp⟩
  · simp only [bne_iff_ne, ne_eq, hb, not_false_eq_true, if_true]
    have : (bothS a b != 0) = true := by simpa using hb
    rw [this]
    simp only [cond_true, ret_some]
    exact ⟨trivial, by simp [hb]⟩
end Go.Own
