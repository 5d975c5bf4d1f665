/- Walks, further. -/
import Derived.Test.YtdnenbcldibnoaaPartF
import Derived.Test.YtdnenbcldibnoaaPartC
import Derived.Test.YtdnenbcldibnoaaPartE
import Derived.Test.YtdnenbcldibnoaaPartB
import Derived.OpenShut
import Derived.ChangeShapes
import Derived.WalkKit
import Derived.ProofKit
import Derived.Carry
set_option linter.unusedVariables false
set_option linter.unusedSimpArgs false
namespace Go.Own
open Go.Proofs
set_option linter.unusedVariables false
set_option maxRecDepth 100000
set_option maxHeartbeats 8000000
noncomputable def bd_ref10_Beside : Code := (Try.f72.body).getD .skip
noncomputable def sp_ref10_Beside : Spec := spF (α := S_api_Machine × S_api_Machine) (ρ := S_api_Machine) 72 (fun x => [F19_ x.1, F19_ x.2]) (fun r => F19_ r) (fun x => ref10_Beside x.1 x.2) [] (by
  rintro ⟨a0, a1⟩ ⟨b0, b1⟩ h
  simp only [List.cons.injEq, and_true] at h
  have e0 := EncI.inj (f := F19_) _ _ h.1
  have e1 := EncI.inj (f := F19_) _ _ h.2
  subst e0 e1
  rfl)
abbrev ST_ref10_Beside_J2 (a_ : S_api_Machine) (b_ : S_api_Machine) (m_Rows1 : List (List S_api_Edge)) : List (Nat × T) := [(4, .own (.box (.agg [I 0, I 0, eOs 1 true F10_ []]))), (5, .own (.box (.agg [I a_.Inputs, I (mx a_.Outputs b_.Outputs), eOs 1 false F10_ m_Rows1])))]
abbrev ST_ref10_Beside_J4 (a_ : S_api_Machine) (b_ : S_api_Machine) (s_ : Int) (m_Rows3 : List (List S_api_Edge)) : List (Nat × T) := [(2, .own (.box (F19_ a_))), (3, .own (.box (F19_ b_))), (4, .own (.box (.agg [I 0, I 0, eOs 1 true F10_ []]))), (5, .own (.box (.agg [I a_.Inputs, I (mx a_.Outputs b_.Outputs), eOs 1 false F10_ m_Rows3]))), (7, .d (I s_))]
abbrev ST_ref10_Beside_J5 (a_ : S_api_Machine) (b_ : S_api_Machine) (m_Rows2 : List (List S_api_Edge)) (s_ : Int) (row : List S_api_Edge) : List (Nat × T) := [(2, .own (.box (F19_ a_))), (3, .own (.box (F19_ b_))), (4, .own (.box (.agg [I 0, I 0, eOs 1 true F10_ []]))), (5, .own (.box (.agg [I a_.Inputs, I (mx a_.Outputs b_.Outputs), eOs 1 false F10_ m_Rows2]))), (7, .d (I s_)), (8, .own (eOs 2 false F7_ row))]
abbrev ST_ref10_Beside_J7 (a_ : S_api_Machine) (b_ : S_api_Machine) (m_Rows2 : List (List S_api_Edge)) (s_ : Int) (row1 : List S_api_Edge) (i_ : Int) (Row_e_e : S_api_Edge) (x_To : Int) : List (Nat × T) := [(2, .own (.box (F19_ a_))), (3, .own (.box (F19_ b_))), (4, .own (.box (.agg [I 0, I 0, eOs 1 true F10_ []]))), (5, .own (.box (.agg [I a_.Inputs, I (mx a_.Outputs b_.Outputs), eOs 1 false F10_ m_Rows2]))), (7, .d (I s_)), (8, .own (eOs 2 false F7_ row1)), (9, .d (I i_)), (10, .own (.box (.agg [I x_To, I Row_e_e.Out])))]
abbrev ST_ref10_Beside_L6 (a_ : S_api_Machine) (b_ : S_api_Machine) (m_Rows2 : List (List S_api_Edge)) (s_ : Int) (row1 : List S_api_Edge) (i_ : Int) : List (Nat × T) := [(2, .own (.box (F19_ a_))), (3, .own (.box (F19_ b_))), (4, .own (.box (.agg [I 0, I 0, eOs 1 true F10_ []]))), (5, .own (.box (.agg [I a_.Inputs, I (mx a_.Outputs b_.Outputs), eOs 1 false F10_ m_Rows2]))), (7, .d (I s_)), (8, .own (eOs 2 false F7_ row1)), (9, .d (I i_))]
abbrev ST_ref10_Beside_L3 (a_ : S_api_Machine) (b_ : S_api_Machine) (m_Rows2 : List (List S_api_Edge)) (s_ : Int) : List (Nat × T) := [(2, .own (.box (F19_ a_))), (3, .own (.box (F19_ b_))), (4, .own (.box (.agg [I 0, I 0, eOs 1 true F10_ []]))), (5, .own (.box (.agg [I a_.Inputs, I (mx a_.Outputs b_.Outputs), eOs 1 false F10_ m_Rows2]))), (7, .d (I s_))]
abbrev ST_ref10_Beside_J1 (a_ : S_api_Machine) (b_ : S_api_Machine) (m_Rows : List (List S_api_Edge)) : List (Nat × T) := [(2, .own (.box (F19_ a_))), (3, .own (.box (F19_ b_))), (4, .own (.box (.agg [I 0, I 0, eOs 1 true F10_ []]))), (5, .own (.box (.agg [I a_.Inputs, I (mx a_.Outputs b_.Outputs), eOs 1 false F10_ m_Rows])))]
abbrev ST_ref10_Beside_L8 (a_ : S_api_Machine) (b_ : S_api_Machine) (m_Rows4 : List (List S_api_Edge)) (s_1 : Int) : List (Nat × T) := [(2, .own (.box (F19_ a_))), (3, .own (.box (F19_ b_))), (4, .own (.box (.agg [I 0, I 0, eOs 1 true F10_ []]))), (5, .own (.box (.agg [I a_.Inputs, I (mx a_.Outputs b_.Outputs), eOs 1 false F10_ m_Rows4]))), (6, .d (I s_1))]
theorem w_ref10_Beside {ctr : Ctr} (hC : CtrOk Try.prog ctr) (hm : Try.prog.follows .mixedOrders = true) : sp_ref10_Beside.Ok Try.prog := by
 refine spF_ok ?_
 rintro ⟨a_, b_⟩ r0 hf0
 try unfold ref10_Beside at hf0
 refine callOk_h (tt := TTab) (keep := false) (rs := [(4, some 34)]) (n := ⟨78, []⟩) (body := bd_ref10_Beside) TTab_ok Try.func72 rfl (by kernel_rfl) rfl rfl (by show (2 : Nat) ≤ 78; decide) fun E hE => ?_
 refine awpAt ((xSeal TTab_ok (.inl 75) [74]).or X0) TTab_ok hC hm [2, 3, 4, 5] 4000 [.cut 2] (sub [1, 1] bd_ref10_Beside) (frs [1, 1] [] bd_ref10_Beside []) [(2, .own (.box (F19_ a_))), (3, .own (.box (F19_ b_))), (4, .own (.box (.agg [I 0, I 0, eOs 1 true F10_ []]))), (5, .own (.box (.agg [I a_.Inputs, I (mx a_.Outputs b_.Outputs), eOs 1 true F10_ []])))] [] (by kernel_rfl) fun st0 h0 => ?_
 refine awpJoin' (X := List (List S_api_Edge)) (x := (sub [1, 1, 2] bd_ref10_Beside)) (y := (sub [1, 1, 1] bd_ref10_Beside)) (by kernel_rfl) [2, 3, 4, 5] [2, 3, 4, 5] _ h0 (fun z => ref10_Beside_J1 a_ b_ z = some r0) (fun z => ST_ref10_Beside_J1 a_ b_ z) ?_ fun J1 hJ1 => ?_
 ·rintro m_Rows hf0
  unfold ref10_Beside_J1 at hf0
  refine awpAt ((xSeal TTab_ok (.inl 75) [74]).or X0) TTab_ok hC hm [2, 3, 4, 5] 4000 [.cut 0] (sub [1, 1, 1] bd_ref10_Beside) (frs [1, 1, 1] [] bd_ref10_Beside []) [(2, .own (.box (F19_ a_))), (3, .own (.box (F19_ b_))), (4, .own (.box (.agg [I 0, I 0, eOs 1 true F10_ []]))), (5, .own (.box (.agg [I a_.Inputs, I (mx a_.Outputs b_.Outputs), eOs 1 false F10_ m_Rows])))] [] (by kernel_rfl) fun st0 h0 => ?_
  refine awpJoin' (X := List (List S_api_Edge)) (x := (sub [1, 1, 1, 2] bd_ref10_Beside)) (y := (sub [1, 1, 1, 1] bd_ref10_Beside)) (by kernel_rfl) [4, 5] [2, 3, 4, 5] _ h0 (fun z => ref10_Beside_J2 a_ b_ z = some r0) (fun z => ST_ref10_Beside_J2 a_ b_ z) ?_ fun J2 hJ2 => ?_
  ·rintro m_Rows1 hf0
   unfold ref10_Beside_J2 at hf0
   have o0 := shM F10_ F10_ m_Rows1
   obtain rfl := someE hf0
   exact awpEnd ((xSeal TTab_ok (.inl 75) [74]).or X0) TTab_ok hC hm hE 4000 (hs := [.l (m_Rows1.map F10_)]) (x := (.agg [I a_.Inputs, I (mx a_.Outputs b_.Outputs), eSl 1 false F10_ m_Rows1])) [ob o0] (by kernel_rfl) (LeV.refl _)
  ·obtain ⟨t3, ht3, hf0⟩ := bindE hf0
   refine awpAt ((xSeal TTab_ok (.inl 75) [74]).or X0) TTab_ok hC hm [2, 3, 4, 5, 7] 4000 [] (sub [1, 1, 1, 2, 1, 0] bd_ref10_Beside) (frs [1, 1, 1, 2, 1, 0] [J2] bd_ref10_Beside []) [(2, .own (.box (F19_ a_))), (3, .own (.box (F19_ b_))), (4, .own (.box (.agg [I 0, I 0, eOs 1 true F10_ []]))), (5, .own (.box (.agg [I a_.Inputs, I (mx a_.Outputs b_.Outputs), eOs 1 false F10_ m_Rows]))), (7, .d (I 0))] [] (by kernel_rfl) fun st0 h0 => ?_
   refine awpLoop' (X := (List (List S_api_Edge) × Int) × Nat) (c' := (sub [1, 1, 1, 2, 1, 0, 0] bd_ref10_Beside)) (by kernel_rfl) [2, 3, 4, 5, 7] (fun x => loopN (fun s => ref10_Beside_L3 a_ b_ s.1 s.2) x.2 x.1 = some t3) (fun x => x.2) (fun x => ST_ref10_Beside_L3 a_ b_ x.1.1 x.1.2) ((m_Rows, 0), fuel) _ h0 inferInstance ht3 ?_
   rintro ⟨⟨m_Rows2, s_⟩, n3⟩ hn3 J3 hJ3
   obtain ⟨m3, lr1, rfl, hf1, hl1⟩ := loopE hn3
   try unfold ref10_Beside_L3 at hf1
   have o1 := lnM F10_ b_.Rows
   rcases bifE hf1 with ⟨c0, hf1⟩ | ⟨c0, hf1⟩
   ·refine awpAt ((xSeal TTab_ok (.inl 75) [74]).or X0) TTab_ok hC hm [2, 3, 4, 5, 7] 4000 [aLn b_.Rows.length, bT, .cut 0] (sub [1, 1, 1, 2, 1, 0, 0, 1] bd_ref10_Beside) (frs [1, 1, 1, 2, 1, 0, 0, 1] [J2, J3] bd_ref10_Beside []) [(2, .own (.box (F19_ a_))), (3, .own (.box (F19_ b_))), (4, .own (.box (.agg [I 0, I 0, eOs 1 true F10_ []]))), (5, .own (.box (.agg [I a_.Inputs, I (mx a_.Outputs b_.Outputs), eOs 1 false F10_ m_Rows2]))), (7, .d (I s_))] [ob o1, ob c0] (by kernel_rfl) fun st0 h0 => ?_
    refine awpJoin' (X := List (List S_api_Edge)) (x := (sub [1, 1, 1, 2, 1, 0, 0, 1, 2] bd_ref10_Beside)) (y := (sub [1, 1, 1, 2, 1, 0, 0, 1, 1] bd_ref10_Beside)) (by kernel_rfl) [2, 3, 4, 5, 7] [2, 3, 4, 5, 7] _ h0 (fun z => ref10_Beside_J4 s_ z = some lr1) (fun z => ST_ref10_Beside_J4 a_ b_ s_ z) ?_ fun J4 hJ4 => ?_
    ·rintro m_Rows3 hf1
     unfold ref10_Beside_J4 at hf1
     obtain rfl := someE hf1
     exact awpBack ((xSeal TTab_ok (.inl 75) [74]).or X0) TTab_ok hC hm [2, 3, 4, 5, 7] 4000 [] J3 [(2, .own (.box (F19_ a_))), (3, .own (.box (F19_ b_))), (4, .own (.box (.agg [I 0, I 0, eOs 1 true F10_ []]))), (5, .own (.box (.agg [I a_.Inputs, I (mx a_.Outputs b_.Outputs), eOs 1 false F10_ m_Rows3]))), (7, .d (I (w64 (s_ + 1))))] [] (by kernel_rfl) fun st0 h0 => hJ3 st0 _ ((m_Rows3, w64 (s_ + 1)), m3) hl1 (Nat.lt_succ_self m3) h0 inferInstance
    ·refine awpAt ((xSeal TTab_ok (.inl 75) [74]).or X0) TTab_ok hC hm [2, 3, 4, 5, 7, 8] 4000 [.cut 1] (sub [1, 1, 1, 2, 1, 0, 0, 1, 2, 0, 1] bd_ref10_Beside) (frs [1, 1, 1, 2, 1, 0, 0, 1, 2, 0, 1] [J2, J3, J4] bd_ref10_Beside []) [(2, .own (.box (F19_ a_))), (3, .own (.box (F19_ b_))), (4, .own (.box (.agg [I 0, I 0, eOs 1 true F10_ []]))), (5, .own (.box (.agg [I a_.Inputs, I (mx a_.Outputs b_.Outputs), eOs 1 false F10_ m_Rows2]))), (7, .d (I s_)), (8, .own (eOs 2 true F7_ []))] [] (by kernel_rfl) fun st0 h0 => ?_
     refine awpJoin' (X := List S_api_Edge) (x := (sub [1, 1, 1, 2, 1, 0, 0, 1, 2, 0, 1, 2] bd_ref10_Beside)) (y := (sub [1, 1, 1, 2, 1, 0, 0, 1, 2, 0, 1, 1] bd_ref10_Beside)) (by kernel_rfl) [2, 3, 4, 5, 7, 8] [2, 3, 4, 5, 7, 8] _ h0 (fun z => ref10_Beside_J5 m_Rows2 s_ z = some lr1) (fun z => ST_ref10_Beside_J5 a_ b_ m_Rows2 s_ z) ?_ fun J5 hJ5 => ?_
     ·rintro row hf1
      unfold ref10_Beside_J5 at hf1
      have o2 := shM F11_ F10_ ([row])
      have o3 := dM F10_ ([row] : List (List S_api_Edge))
      obtain ⟨g0, hf1⟩ := gdE hf1
      have o4 := aL F10_ F10_ g0
      have o5 := aM F10_ m_Rows2 ([row] : List (List S_api_Edge))
      exact awpBack ((xSeal TTab_ok (.inl 75) [74]).or X0) TTab_ok hC hm [2, 3, 4, 5, 7] 4000 [.l (([row]).map F10_), .l ((m_Rows2 ++ ([row] : List (List S_api_Edge))).map F10_)] J4 [(2, .own (.box (F19_ a_))), (3, .own (.box (F19_ b_))), (4, .own (.box (.agg [I 0, I 0, eOs 1 true F10_ []]))), (5, .own (.box (.agg [I a_.Inputs, I (mx a_.Outputs b_.Outputs), eOs 1 false F10_ (m_Rows2 ++ ([row] : List (List S_api_Edge)))]))), (7, .d (I s_))] [ob o2, ob o3, ob o4, ob o5] (by kernel_rfl) fun st0 h0 => hJ4 st0 _ (m_Rows2 ++ ([row] : List (List S_api_Edge))) hf1 h0 inferInstance
     ·obtain ⟨t6, ht6, hf1⟩ := bindE hf1
      refine awpAt ((xSeal TTab_ok (.inl 75) [74]).or X0) TTab_ok hC hm [2, 3, 4, 5, 7, 8, 9] 4000 [] (sub [1, 1, 1, 2, 1, 0, 0, 1, 2, 0, 1, 2, 1, 0] bd_ref10_Beside) (frs [1, 1, 1, 2, 1, 0, 0, 1, 2, 0, 1, 2, 1, 0] [J2, J3, J4, J5] bd_ref10_Beside []) [(2, .own (.box (F19_ a_))), (3, .own (.box (F19_ b_))), (4, .own (.box (.agg [I 0, I 0, eOs 1 true F10_ []]))), (5, .own (.box (.agg [I a_.Inputs, I (mx a_.Outputs b_.Outputs), eOs 1 false F10_ m_Rows2]))), (7, .d (I s_)), (8, .own (eOs 2 true F7_ [])), (9, .d (I 0))] [] (by kernel_rfl) fun st0 h0 => ?_
      refine awpLoop' (X := (List S_api_Edge × Int) × Nat) (c' := (sub [1, 1, 1, 2, 1, 0, 0, 1, 2, 0, 1, 2, 1, 0, 0] bd_ref10_Beside)) (by kernel_rfl) [2, 3, 4, 5, 7, 8, 9] (fun x => loopN (fun s => ref10_Beside_L6 a_ b_ s_ s.1 s.2) x.2 x.1 = some t6) (fun x => x.2) (fun x => ST_ref10_Beside_L6 a_ b_ m_Rows2 s_ x.1.1 x.1.2) ((([] : List S_api_Edge), 0), fuel) _ h0 inferInstance ht6 ?_
      rintro ⟨⟨row1, i_⟩, n6⟩ hn6 J6 hJ6
      obtain ⟨m6, lr2, rfl, hf2, hl2⟩ := loopE hn6
      try unfold ref10_Beside_L6 at hf2
      rcases bifE hf2 with ⟨c1, hf2⟩ | ⟨c1, hf2⟩
      ·obtain ⟨Row_e, h0, hf2⟩ := bindE hf2
       have o6 := iM F10_ h0
       obtain ⟨Row_e_e, h1, hf2⟩ := bindE hf2
       have o7 := iM F7_ h1
       refine awpAt ((xSeal TTab_ok (.inl 75) [74]).or X0) TTab_ok hC hm [2, 3, 4, 5, 7, 8, 9, 10] 4000 [bT, .a (F10_ Row_e), .a (F7_ Row_e_e), .cut 0] (sub [1, 1, 1, 2, 1, 0, 0, 1, 2, 0, 1, 2, 1, 0, 0, 1, 0, 0, 1] bd_ref10_Beside) (frs [1, 1, 1, 2, 1, 0, 0, 1, 2, 0, 1, 2, 1, 0, 0, 1, 0, 0, 1] [J2, J3, J4, J5, J6] bd_ref10_Beside []) [(2, .own (.box (F19_ a_))), (3, .own (.box (F19_ b_))), (4, .own (.box (.agg [I 0, I 0, eOs 1 true F10_ []]))), (5, .own (.box (.agg [I a_.Inputs, I (mx a_.Outputs b_.Outputs), eOs 1 false F10_ m_Rows2]))), (7, .d (I s_)), (8, .own (eOs 2 false F7_ row1)), (9, .d (I i_)), (10, .own (.box (F7_ Row_e_e)))] [ob c1, ob (i0 h0), ob o6, ob (i0 h1), ob o7] (by kernel_rfl) fun st0 h0 => ?_
       refine awpJoin' (X := Int) (x := (sub [1, 1, 1, 2, 1, 0, 0, 1, 2, 0, 1, 2, 1, 0, 0, 1, 0, 0, 1, 2] bd_ref10_Beside)) (y := (sub [1, 1, 1, 2, 1, 0, 0, 1, 2, 0, 1, 2, 1, 0, 0, 1, 0, 0, 1, 1] bd_ref10_Beside)) (by kernel_rfl) [2, 3, 4, 5, 7, 8, 9, 10] [2, 3, 4, 5, 7, 8, 9, 10] _ h0 (fun z => ref10_Beside_J7 row1 i_ Row_e_e z = some lr2) (fun z => ST_ref10_Beside_J7 a_ b_ m_Rows2 s_ row1 i_ Row_e_e z) ?_ fun J7 hJ7 => ?_
       ·rintro x_To hf2
        unfold ref10_Beside_J7 at hf2
        have o8 := dM F7_ ([(S_api_Edge.mk x_To Row_e_e.Out)] : List S_api_Edge)
        have o9 := dM F7_ ([(S_api_Edge.mk x_To Row_e_e.Out)] : List S_api_Edge)
        obtain ⟨g1, hf2⟩ := gdE hf2
        have o10 := aL F7_ F7_ g1
        have o11 := aM F7_ row1 ([(S_api_Edge.mk x_To Row_e_e.Out)] : List S_api_Edge)
        obtain rfl := someE hf2
        exact awpBack ((xSeal TTab_ok (.inl 75) [74]).or X0) TTab_ok hC hm [2, 3, 4, 5, 7, 8, 9] 4000 [bT, .l ((row1 ++ ([(S_api_Edge.mk x_To Row_e_e.Out)] : List S_api_Edge)).map F7_)] J6 [(2, .own (.box (F19_ a_))), (3, .own (.box (F19_ b_))), (4, .own (.box (.agg [I 0, I 0, eOs 1 true F10_ []]))), (5, .own (.box (.agg [I a_.Inputs, I (mx a_.Outputs b_.Outputs), eOs 1 false F10_ m_Rows2]))), (7, .d (I s_)), (8, .own (eOs 2 false F7_ (row1 ++ ([(S_api_Edge.mk x_To Row_e_e.Out)] : List S_api_Edge)))), (9, .d (I (w64 (i_ + 1))))] [ob o8, ob o9, ob o10, ob o11] (by kernel_rfl) fun st0 h0 => hJ6 st0 _ (((row1 ++ ([(S_api_Edge.mk x_To Row_e_e.Out)] : List S_api_Edge)), w64 (i_ + 1)), m6) hl2 (Nat.lt_succ_self m6) h0 inferInstance
       ·rcases bifE hf2 with ⟨c2, hf2⟩ | ⟨c2, hf2⟩
        ·have o12 := lnM F10_ a_.Rows
         exact awpBack ((xSeal TTab_ok (.inl 75) [74]).or X0) TTab_ok hC hm [2, 3, 4, 5, 7, 8, 9, 10] 4000 [bT, aLn a_.Rows.length] J7 [(2, .own (.box (F19_ a_))), (3, .own (.box (F19_ b_))), (4, .own (.box (.agg [I 0, I 0, eOs 1 true F10_ []]))), (5, .own (.box (.agg [I a_.Inputs, I (mx a_.Outputs b_.Outputs), eOs 1 false F10_ m_Rows2]))), (7, .d (I s_)), (8, .own (eOs 2 false F7_ row1)), (9, .d (I i_)), (10, .own (.box (.agg [I (w64 (Row_e_e.To + ((a_.Rows.length : Nat) : Int))), I Row_e_e.Out])))] [ob c2, ob o12] (by kernel_rfl) fun st0 h0 => hJ7 st0 _ (w64 (Row_e_e.To + ((a_.Rows.length : Nat) : Int))) hf2 h0 inferInstance
        ·exact awpBack ((xSeal TTab_ok (.inl 75) [74]).or X0) TTab_ok hC hm [2, 3, 4, 5, 7, 8, 9, 10] 4000 [bF] J7 [(2, .own (.box (F19_ a_))), (3, .own (.box (F19_ b_))), (4, .own (.box (.agg [I 0, I 0, eOs 1 true F10_ []]))), (5, .own (.box (.agg [I a_.Inputs, I (mx a_.Outputs b_.Outputs), eOs 1 false F10_ m_Rows2]))), (7, .d (I s_)), (8, .own (eOs 2 false F7_ row1)), (9, .d (I i_)), (10, .own (.box (.agg [I Row_e_e.To, I Row_e_e.Out])))] [ob c2] (by kernel_rfl) fun st0 h0 => hJ7 st0 _ Row_e_e.To hf2 h0 inferInstance
      ·obtain rfl := someE hf2
       obtain rfl := hl2
       exact awpBack ((xSeal TTab_ok (.inl 75) [74]).or X0) TTab_ok hC hm [2, 3, 4, 5, 7, 8] 4000 [bF] J5 [(2, .own (.box (F19_ a_))), (3, .own (.box (F19_ b_))), (4, .own (.box (.agg [I 0, I 0, eOs 1 true F10_ []]))), (5, .own (.box (.agg [I a_.Inputs, I (mx a_.Outputs b_.Outputs), eOs 1 false F10_ m_Rows2]))), (7, .d (I s_)), (8, .own (eOs 2 false F7_ row1))] [ob c1] (by kernel_rfl) fun st0 h0 => hJ5 st0 _ row1 hf1 h0 inferInstance
   ·obtain rfl := someE hf1
    obtain rfl := hl1
    exact awpBack ((xSeal TTab_ok (.inl 75) [74]).or X0) TTab_ok hC hm [4, 5] 4000 [aLn b_.Rows.length, bF] J2 [(4, .own (.box (.agg [I 0, I 0, eOs 1 true F10_ []]))), (5, .own (.box (.agg [I a_.Inputs, I (mx a_.Outputs b_.Outputs), eOs 1 false F10_ m_Rows2])))] [ob o1, ob c0] (by kernel_rfl) fun st0 h0 => hJ2 st0 _ m_Rows2 hf0 h0 inferInstance
 ·obtain ⟨t8, ht8, hf0⟩ := bindE hf0
  refine awpAt ((xSeal TTab_ok (.inl 75) [74]).or X0) TTab_ok hC hm [2, 3, 4, 5, 6] 4000 [] (sub [1, 1, 2, 1, 0] bd_ref10_Beside) (frs [1, 1, 2, 1, 0] [J1] bd_ref10_Beside []) [(2, .own (.box (F19_ a_))), (3, .own (.box (F19_ b_))), (4, .own (.box (.agg [I 0, I 0, eOs 1 true F10_ []]))), (5, .own (.box (.agg [I a_.Inputs, I (mx a_.Outputs b_.Outputs), eOs 1 true F10_ []]))), (6, .d (I 0))] [] (by kernel_rfl) fun st0 h0 => ?_
  refine awpLoop' (X := (List (List S_api_Edge) × Int) × Nat) (c' := (sub [1, 1, 2, 1, 0, 0] bd_ref10_Beside)) (by kernel_rfl) [2, 3, 4, 5, 6] (fun x => loopN (fun s => ref10_Beside_L8 a_ s.1 s.2) x.2 x.1 = some t8) (fun x => x.2) (fun x => ST_ref10_Beside_L8 a_ b_ x.1.1 x.1.2) ((([] : List (List S_api_Edge)), 0), fuel) _ h0 inferInstance ht8 ?_
  rintro ⟨⟨m_Rows4, s_1⟩, n8⟩ hn8 J8 hJ8
  obtain ⟨m8, lr1, rfl, hf1, hl1⟩ := loopE hn8
  try unfold ref10_Beside_L8 at hf1
  have o13 := lnM F10_ a_.Rows
  rcases bifE hf1 with ⟨c3, hf1⟩ | ⟨c3, hf1⟩
  ·obtain ⟨Row_e1, h2, hf1⟩ := bindE hf1
   have o14 := iM F10_ h2
   have o15 := dM F10_ ([Row_e1] : List (List S_api_Edge))
   have o16 := dM F10_ ([Row_e1] : List (List S_api_Edge))
   obtain ⟨g2, hf1⟩ := gdE hf1
   have o17 := aL F10_ F10_ g2
   have o18 := aM F10_ m_Rows4 ([Row_e1] : List (List S_api_Edge))
   obtain rfl := someE hf1
   exact awpBack ((xSeal TTab_ok (.inl 75) [74]).or X0) TTab_ok hC hm [2, 3, 4, 5, 6] 4000 [aLn a_.Rows.length, bT, .a (F10_ Row_e1), bT, .l ((m_Rows4 ++ ([Row_e1] : List (List S_api_Edge))).map F10_)] J8 [(2, .own (.box (F19_ a_))), (3, .own (.box (F19_ b_))), (4, .own (.box (.agg [I 0, I 0, eOs 1 true F10_ []]))), (5, .own (.box (.agg [I a_.Inputs, I (mx a_.Outputs b_.Outputs), eOs 1 false F10_ (m_Rows4 ++ ([Row_e1] : List (List S_api_Edge)))]))), (6, .d (I (w64 (s_1 + 1))))] [ob o13, ob c3, ob (i0 h2), ob o14, ob o15, ob o16, ob o17, ob o18] (by kernel_rfl) fun st0 h0 => hJ8 st0 _ (((m_Rows4 ++ ([Row_e1] : List (List S_api_Edge))), w64 (s_1 + 1)), m8) hl1 (Nat.lt_succ_self m8) h0 inferInstance
  ·obtain rfl := someE hf1
   obtain rfl := hl1
   exact awpBack ((xSeal TTab_ok (.inl 75) [74]).or X0) TTab_ok hC hm [2, 3, 4, 5] 4000 [aLn a_.Rows.length, bF] J1 [(2, .own (.box (F19_ a_))), (3, .own (.box (F19_ b_))), (4, .own (.box (.agg [I 0, I 0, eOs 1 true F10_ []]))), (5, .own (.box (.agg [I a_.Inputs, I (mx a_.Outputs b_.Outputs), eOs 1 false F10_ m_Rows4])))] [ob o13, ob c3] (by kernel_rfl) fun st0 h0 => hJ1 st0 _ m_Rows4 hf0 h0 inferInstance
noncomputable def bd_ref07_apart : Code := (Try.f99.body).getD .skip
noncomputable def sp_ref07_apart : Spec := spF (α := S_api_Machine × List (List Bool) × Int × Int) (ρ := Int) 99 (fun x => [F19_ x.1, (eSl 1 false (eSl 1 false eB)) x.2.1, (eI .i64) x.2.2.1, (eI .i64) x.2.2.2]) (fun r => (eI .i64) r) (fun x => ref07_apart x.1 x.2.1 x.2.2.1 x.2.2.2) [] (by
  rintro ⟨a0, a1, a2, a3⟩ ⟨b0, b1, b2, b3⟩ h
  simp only [List.cons.injEq, and_true] at h
  have e0 := EncI.inj (f := F19_) _ _ h.1
  have e1 := EncI.inj (f := (eSl 1 false (eSl 1 false eB))) _ _ h.2.1
  have e2 := EncI.inj (f := (eI .i64)) _ _ h.2.2.1
  have e3 := EncI.inj (f := (eI .i64)) _ _ h.2.2.2
  subst e0 e1 e2 e3
  rfl)
abbrev ST_ref07_apart_J1 : List (Nat × T) := []
abbrev ST_ref07_apart_J3 (m_ : S_api_Machine) (marked : List (List Bool)) (s_ : Int) (t_ : Int) (i_ : Int) (x41 : Int) (x42 : Bool) (x43 : Bool) (x47 : Bool) (x48 : Bool) (x58 : Bool) : List (Nat × T) := [(1, .d (eSl 1 false (eSl 1 false eB) marked)), (2, .d (I s_)), (3, .d (I t_)), (4, .own (.box (F19_ m_))), (9, .d (I i_)), (41, .d (I x41)), (42, .d (B x42)), (43, .d (B x43)), (47, .d (B x47)), (48, .d (B x48)), (58, .d (B x58))]
abbrev ST_ref07_apart_L2 (m_ : S_api_Machine) (marked : List (List Bool)) (s_ : Int) (t_ : Int) (i_ : Int) : List (Nat × T) := [(1, .d (eSl 1 false (eSl 1 false eB) marked)), (2, .d (I s_)), (3, .d (I t_)), (4, .own (.box (F19_ m_))), (9, .d (I i_))]
theorem w_ref07_apart {ctr : Ctr} (hC : CtrOk Try.prog ctr) (hm : Try.prog.follows .mixedOrders = true) : sp_ref07_apart.Ok Try.prog := by
 refine spF_ok ?_
 rintro ⟨m_, marked, s_, t_⟩ r0 hf0
 try unfold ref07_apart at hf0
 refine callOk_h (tt := TTab) (keep := true) (rs := [(8, none)]) (n := ⟨60, []⟩) (body := bd_ref07_apart) TTab_ok Try.func99 rfl (by kernel_rfl) rfl rfl (by show (4 : Nat) ≤ 60; decide) fun E hE => ?_
 refine awpAt X0 TTab_ok hC hm [1, 2, 3, 4] 4000 [.cut 1] (sub [1] bd_ref07_apart) (frs [1] [] bd_ref07_apart []) [(1, .d (eSl 1 false (eSl 1 false eB) marked)), (2, .d (I s_)), (3, .d (I t_)), (4, .own (.box (F19_ m_)))] [] (by kernel_rfl) fun st0 h0 => ?_
 refine awpJoin' (X := Unit) (x := (sub [1, 2] bd_ref07_apart)) (y := (sub [1, 1] bd_ref07_apart)) (by kernel_rfl) [] [1, 2, 3, 4] _ h0 (fun z => ref07_apart_J1 = some r0) (fun z => ST_ref07_apart_J1) ?_ fun J1 hJ1 => ?_
 ·rintro ⟨⟩ hf0
  unfold ref07_apart_J1 at hf0
  obtain rfl := someE hf0
  exact awpEnd X0 TTab_ok hC hm hE 4000 (hs := []) (x := (I 0)) [] (by kernel_rfl) (LeV.refl _)
 ·obtain ⟨t2, ht2, hf0⟩ := bindE hf0
  refine awpAt X0 TTab_ok hC hm [1, 2, 3, 4, 9] 4000 [] (sub [1, 2, 1, 0] bd_ref07_apart) (frs [1, 2, 1, 0] [J1] bd_ref07_apart []) [(1, .d (eSl 1 false (eSl 1 false eB) marked)), (2, .d (I s_)), (3, .d (I t_)), (4, .own (.box (F19_ m_))), (9, .d (I 0))] [] (by kernel_rfl) fun st0 h0 => ?_
  refine awpLoop' (X := Int × Nat) (c' := (sub [1, 2, 1, 0, 0] bd_ref07_apart)) (by kernel_rfl) [1, 2, 3, 4, 9] (fun x => loopN (fun s => ref07_apart_L2 m_ marked s_ t_ s) x.2 x.1 = some t2) (fun x => x.2) (fun x => ST_ref07_apart_L2 m_ marked s_ t_ x.1) (0, fuel) _ h0 inferInstance ht2 ?_
  rintro ⟨i_, n2⟩ hn2 J2 hJ2
  obtain ⟨m2, lr1, rfl, hf1, hl1⟩ := loopE hn2
  try unfold ref07_apart_L2 at hf1
  rcases bifE hf1 with ⟨c0, hf1⟩ | ⟨c0, hf1⟩
  ·refine awpAt X0 TTab_ok hC hm [1, 2, 3, 4, 9] 4000 [bT, .cut 0] (sub [1, 2, 1, 0, 0, 1] bd_ref07_apart) (frs [1, 2, 1, 0, 0, 1] [J1, J2] bd_ref07_apart []) [(1, .d (eSl 1 false (eSl 1 false eB) marked)), (2, .d (I s_)), (3, .d (I t_)), (4, .own (.box (F19_ m_))), (9, .d (I i_))] [ob c0] (by kernel_rfl) fun st0 h0 => ?_
   refine awpJoin' (X := Int × Bool × Bool × Bool × Bool × Bool) (x := (sub [1, 2, 1, 0, 0, 1, 2] bd_ref07_apart)) (y := (sub [1, 2, 1, 0, 0, 1, 1] bd_ref07_apart)) (by kernel_rfl) [1, 2, 3, 4, 9, 41, 42, 43, 47, 48, 58] [1, 2, 3, 4, 9] _ h0 (fun z => ref07_apart_J3 i_ z.1 z.2.1 z.2.2.1 z.2.2.2.1 z.2.2.2.2.1 z.2.2.2.2.2 = some lr1) (fun z => ST_ref07_apart_J3 m_ marked s_ t_ i_ z.1 z.2.1 z.2.2.1 z.2.2.2.1 z.2.2.2.2.1 z.2.2.2.2.2) ?_ fun J3 hJ3 => ?_
   ·rintro ⟨x41, x42, x43, x47, x48, x58⟩ hf1
    unfold ref07_apart_J3 at hf1
    obtain rfl := someE hf1
    exact awpBack X0 TTab_ok hC hm [1, 2, 3, 4, 9] 4000 [] J2 [(1, .d (eSl 1 false (eSl 1 false eB) marked)), (2, .d (I s_)), (3, .d (I t_)), (4, .own (.box (F19_ m_))), (9, .d (I (w64 (i_ + 1))))] [] (by kernel_rfl) fun st0 h0 => hJ2 st0 _ (w64 (i_ + 1), m2) hl1 (Nat.lt_succ_self m2) h0 inferInstance
   ·obtain ⟨Row_e, h0, hf1⟩ := bindE hf1
    have o0 := iM F10_ h0
    obtain ⟨Row_e_e, h1, hf1⟩ := bindE hf1
    have o1 := iM F7_ h1
    obtain ⟨Row_e1, h2, hf1⟩ := bindE hf1
    have o2 := iM F10_ h2
    obtain ⟨Row_e_e1, h3, hf1⟩ := bindE hf1
    have o3 := iM F7_ h3
    rcases bifE hf1 with ⟨c1, hf1⟩ | ⟨c1, hf1⟩
    ·obtain rfl := someE hf1
     obtain rfl := hl1
     obtain rfl := someE hf0
     exact awpEnd X0 TTab_ok hC hm hE 4000 (hs := (.a (F10_ Row_e) :: .a (F7_ Row_e_e) :: .a (F10_ Row_e1) :: .a (F7_ Row_e_e1) :: (rpN 9 bT []))) (x := (I 1)) (ob (i0 h0) :: ob o0 :: ob (i0 h1) :: ob o1 :: ob (i0 h2) :: ob o2 :: ob (i0 h3) :: ob o3 :: (rpN 8 (ob c1) [oT])) (by kernel_rfl) (LeV.refl _)
    ·rcases bifE hf1 with ⟨c2, hf1⟩ | ⟨c2, hf1⟩
     ·rcases bifE hf1 with ⟨c3, hf1⟩ | ⟨c3, hf1⟩
      ·obtain ⟨marked_e, h4, hf1⟩ := bindE hf1
       obtain ⟨marked_e_e, h5, hf1⟩ := bindE hf1
       rcases bifE hf1 with ⟨c4, hf1⟩ | ⟨c4, hf1⟩
       ·obtain rfl := someE hf1
        obtain rfl := hl1
        obtain rfl := someE hf0
        exact awpEnd X0 TTab_ok hC hm hE 4000 (hs := (.a (F10_ Row_e) :: .a (F7_ Row_e_e) :: .a (F10_ Row_e1) :: .a (F7_ Row_e_e1) :: (rpN 4 bF (bT :: bT :: bT :: bF :: bT :: bF :: (rpN 4 bT (.a ((eSl 1 false eB) marked_e) :: (rpN 4 bT [.a (eB marked_e_e), bT, bF, bT, bF, bT]))))))) (x := (I 1)) (ob (i0 h0) :: ob o0 :: ob (i0 h1) :: ob o1 :: ob (i0 h2) :: ob o2 :: ob (i0 h3) :: ob o3 :: (rpN 4 (ob c1) (ob c2 :: ob c2 :: ob c2 :: ob c1 :: ob c2 :: ob c1 :: (rpN 4 (ob c3) (ob (i0 h4) :: ob (iM (eSl 1 false eB) h4) :: (rpN 4 (ob c3) [ob (i0 h5), ob (iM eB h5), ob c3, ob c1, ob c3, ob c1, ob c4])))))) (by kernel_rfl) (LeV.refl _)
       ·exact awpBack X0 TTab_ok hC hm [1, 2, 3, 4, 9, 41, 42, 43, 47, 48, 58] 4000 (.a (F10_ Row_e) :: .a (F7_ Row_e_e) :: .a (F10_ Row_e1) :: .a (F7_ Row_e_e1) :: (rpN 4 bF (bT :: bT :: bT :: bF :: bT :: bF :: (rpN 4 bT (.a ((eSl 1 false eB) marked_e) :: (rpN 4 bT [.a (eB marked_e_e), bT, bF, bT, bF, bF])))))) J3 [(1, .d (eSl 1 false (eSl 1 false eB) marked)), (2, .d (I s_)), (3, .d (I t_)), (4, .own (.box (F19_ m_))), (9, .d (I i_)), (41, .d (I Row_e_e.To)), (42, .d (B (decide (Row_e_e.To ≥ 0)))), (43, .d (B (decide (Row_e_e.To ≥ 0)))), (47, .d (B (decide (Row_e_e1.To ≥ 0)))), (48, .d (B (decide (Row_e_e1.To ≥ 0)))), (58, .d (B marked_e_e))] (ob (i0 h0) :: ob o0 :: ob (i0 h1) :: ob o1 :: ob (i0 h2) :: ob o2 :: ob (i0 h3) :: ob o3 :: (rpN 4 (ob c1) (ob c2 :: ob c2 :: ob c2 :: ob c1 :: ob c2 :: ob c1 :: (rpN 4 (ob c3) (ob (i0 h4) :: ob (iM (eSl 1 false eB) h4) :: (rpN 4 (ob c3) [ob (i0 h5), ob (iM eB h5), ob c3, ob c1, ob c3, ob c1, ob c4])))))) (by kernel_rfl) fun st0 h0 => hJ3 st0 _ (Row_e_e.To, decide (Row_e_e.To ≥ 0), decide (Row_e_e.To ≥ 0), decide (Row_e_e1.To ≥ 0), decide (Row_e_e1.To ≥ 0), marked_e_e) hf1 h0 inferInstance
      ·exact awpBack X0 TTab_ok hC hm [1, 2, 3, 4, 9, 41, 42, 43, 47, 48, 58] 4000 (.a (F10_ Row_e) :: .a (F7_ Row_e_e) :: .a (F10_ Row_e1) :: .a (F7_ Row_e_e1) :: (rpN 4 bF (bT :: bT :: bT :: bF :: bT :: (rpN 14 bF [])))) J3 [(1, .d (eSl 1 false (eSl 1 false eB) marked)), (2, .d (I s_)), (3, .d (I t_)), (4, .own (.box (F19_ m_))), (9, .d (I i_)), (41, .d (I Row_e_e.To)), (42, .d (B (decide (Row_e_e.To ≥ 0)))), (43, .d (B (decide (Row_e_e.To ≥ 0)))), (47, .d (B (decide (Row_e_e1.To ≥ 0)))), (48, .d (B (decide (Row_e_e1.To ≥ 0)))), (58, .d (B false))] (ob (i0 h0) :: ob o0 :: ob (i0 h1) :: ob o1 :: ob (i0 h2) :: ob o2 :: ob (i0 h3) :: ob o3 :: (rpN 4 (ob c1) (ob c2 :: ob c2 :: ob c2 :: ob c1 :: ob c2 :: ob c1 :: (rpN 9 (ob c3) [ob c1, ob c3, ob c1, oF])))) (by kernel_rfl) fun st0 h0 => hJ3 st0 _ (Row_e_e.To, decide (Row_e_e.To ≥ 0), decide (Row_e_e.To ≥ 0), decide (Row_e_e1.To ≥ 0), decide (Row_e_e1.To ≥ 0), false) hf1 h0 inferInstance
     ·exact awpBack X0 TTab_ok hC hm [1, 2, 3, 4, 9, 41, 42, 43, 47, 48, 58] 4000 (.a (F10_ Row_e) :: .a (F7_ Row_e_e) :: .a (F10_ Row_e1) :: .a (F7_ Row_e_e1) :: (rpN 23 bF [])) J3 [(1, .d (eSl 1 false (eSl 1 false eB) marked)), (2, .d (I s_)), (3, .d (I t_)), (4, .own (.box (F19_ m_))), (9, .d (I i_)), (41, .d (I Row_e_e.To)), (42, .d (B (decide (Row_e_e.To ≥ 0)))), (43, .d (B (decide (Row_e_e.To ≥ 0)))), (47, .d (B false)), (48, .d (B false)), (58, .d (B false))] (ob (i0 h0) :: ob o0 :: ob (i0 h1) :: ob o1 :: ob (i0 h2) :: ob o2 :: ob (i0 h3) :: ob o3 :: (rpN 4 (ob c1) (ob c2 :: ob c2 :: ob c2 :: ob c1 :: ob c2 :: ob c1 :: (rpN 9 oF [ob c1, oF, ob c1, oF])))) (by kernel_rfl) fun st0 h0 => hJ3 st0 _ (Row_e_e.To, decide (Row_e_e.To ≥ 0), decide (Row_e_e.To ≥ 0), false, false, false) hf1 h0 inferInstance
  ·obtain rfl := someE hf1
   obtain rfl := hl1
   exact awpBack X0 TTab_ok hC hm [] 4000 [bF] J1 [] [ob c0] (by kernel_rfl) fun st0 h0 => hJ1 st0 _ () hf0 h0 inferInstance
noncomputable def bd_ref07_Marked : Code := (Try.f73.body).getD .skip
noncomputable def sp_ref07_Marked : Spec := spF (α := S_api_Machine × Int) (ρ := List (List Bool)) 73 (fun x => [F19_ x.1, (eI .i64) x.2]) (fun r => F4_ r) (fun x => ref07_Marked x.1 x.2) [] (by
  rintro ⟨a0, a1⟩ ⟨b0, b1⟩ h
  simp only [List.cons.injEq, and_true] at h
  have e0 := EncI.inj (f := F19_) _ _ h.1
  have e1 := EncI.inj (f := (eI .i64)) _ _ h.2
  subst e0 e1
  rfl)
abbrev ST_ref07_Marked_J2 (marked1 : List (List Bool)) : List (Nat × T) := [(6, .own (eOs 1 false (eOs 1 true eB) marked1))]
abbrev ST_ref07_Marked_J4 (m_ : S_api_Machine) (k_ : Int) (round : Int) (marked3 : List (List Bool)) : List (Nat × T) := [(1, .d (I k_)), (2, .own (.box (F19_ m_))), (5, .d (I ((m_.Rows.length : Nat) : Int))), (6, .own (eOs 1 false (eOs 1 true eB) marked3)), (8, .d (I round))]
abbrev ST_ref07_Marked_J5 (m_ : S_api_Machine) (k_ : Int) (round : Int) (next : List (List Bool)) : List (Nat × T) := [(1, .d (I k_)), (2, .own (.box (F19_ m_))), (5, .d (I ((m_.Rows.length : Nat) : Int))), (8, .d (I round)), (9, .own (eOs 1 false (eOs 1 true eB) next))]
abbrev ST_ref07_Marked_J7 (m_ : S_api_Machine) (k_ : Int) (marked2 : List (List Bool)) (round : Int) (s_ : Int) (next2 : List (List Bool)) : List (Nat × T) := [(1, .d (I k_)), (2, .own (.box (F19_ m_))), (5, .d (I ((m_.Rows.length : Nat) : Int))), (6, .d (eSl 1 false (eSl 1 true eB) marked2)), (8, .d (I round)), (9, .own (eOs 1 false (eOs 1 true eB) next2)), (10, .d (I s_))]
abbrev ST_ref07_Marked_L8 (m_ : S_api_Machine) (k_ : Int) (marked2 : List (List Bool)) (round : Int) (s_ : Int) (next3 : List (List Bool)) (t_ : Int) : List (Nat × T) := [(1, .d (I k_)), (2, .own (.box (F19_ m_))), (5, .d (I ((m_.Rows.length : Nat) : Int))), (6, .d (eSl 1 false (eSl 1 true eB) marked2)), (8, .d (I round)), (9, .own (eOs 1 false (eOs 1 true eB) next3)), (10, .d (I s_)), (11, .d (I t_))]
abbrev ST_ref07_Marked_L6 (m_ : S_api_Machine) (k_ : Int) (marked2 : List (List Bool)) (round : Int) (next1 : List (List Bool)) (s_ : Int) : List (Nat × T) := [(1, .d (I k_)), (2, .own (.box (F19_ m_))), (5, .d (I ((m_.Rows.length : Nat) : Int))), (6, .d (eSl 1 false (eSl 1 true eB) marked2)), (8, .d (I round)), (9, .own (eOs 1 false (eOs 1 true eB) next1)), (10, .d (I s_))]
abbrev ST_ref07_Marked_L3 (m_ : S_api_Machine) (k_ : Int) (marked2 : List (List Bool)) (round : Int) : List (Nat × T) := [(1, .d (I k_)), (2, .own (.box (F19_ m_))), (5, .d (I ((m_.Rows.length : Nat) : Int))), (6, .own (eOs 1 false (eOs 1 true eB) marked2)), (8, .d (I round))]
abbrev ST_ref07_Marked_J1 (m_ : S_api_Machine) (k_ : Int) (marked : List (List Bool)) : List (Nat × T) := [(1, .d (I k_)), (2, .own (.box (F19_ m_))), (5, .d (I ((m_.Rows.length : Nat) : Int))), (6, .own (eOs 1 false (eOs 1 true eB) marked))]
abbrev ST_ref07_Marked_L9 (m_ : S_api_Machine) (k_ : Int) (marked4 : List (List Bool)) (s_1 : Int) : List (Nat × T) := [(1, .d (I k_)), (2, .own (.box (F19_ m_))), (5, .d (I ((m_.Rows.length : Nat) : Int))), (6, .own (eOs 1 false (eOs 1 true eB) marked4)), (7, .d (I s_1))]
theorem w_ref07_Marked {ctr : Ctr} (hC : CtrOk Try.prog ctr) (hm : Try.prog.follows .mixedOrders = true) (h_ref07_apart : ctr.Has sp_ref07_apart) : sp_ref07_Marked.Ok Try.prog := by
 refine spF_ok ?_
 rintro ⟨m_, k_⟩ r0 hf0
 try unfold ref07_Marked at hf0
 refine callOk_h (tt := TTab) (keep := true) (rs := [(4, none)]) (n := ⟨68, []⟩) (body := bd_ref07_Marked) TTab_ok Try.func73 rfl (by kernel_rfl) rfl rfl (by show (2 : Nat) ≤ 68; decide) fun E hE => ?_
 have o0 := lnM F10_ m_.Rows
 refine awpAt X0 TTab_ok hC hm [1, 2, 5, 6] 4000 [aLn m_.Rows.length, .cut 1] (sub [1, 1, 1] bd_ref07_Marked) (frs [1, 1, 1] [] bd_ref07_Marked []) [(1, .d (I k_)), (2, .own (.box (F19_ m_))), (5, .d (I ((m_.Rows.length : Nat) : Int))), (6, .own (eOs 1 true (eSl 1 false eB) []))] [ob o0] (by kernel_rfl) fun st0 h0 => ?_
 refine awpJoin' (X := List (List Bool)) (x := (sub [1, 1, 1, 2] bd_ref07_Marked)) (y := (sub [1, 1, 1, 1] bd_ref07_Marked)) (by kernel_rfl) [1, 2, 5, 6] [1, 2, 5, 6] _ h0 (fun z => ref07_Marked_J1 m_ k_ z = some r0) (fun z => ST_ref07_Marked_J1 m_ k_ z) ?_ fun J1 hJ1 => ?_
 ·rintro marked hf0
  unfold ref07_Marked_J1 at hf0
  refine awpAt X0 TTab_ok hC hm [1, 2, 5, 6] 4000 [.cut 0] (sub [1, 1, 1, 1] bd_ref07_Marked) (frs [1, 1, 1, 1] [] bd_ref07_Marked []) [(1, .d (I k_)), (2, .own (.box (F19_ m_))), (5, .d (I ((m_.Rows.length : Nat) : Int))), (6, .own (eOs 1 false (eOs 1 true eB) marked))] [] (by kernel_rfl) fun st0 h0 => ?_
  refine awpJoin' (X := List (List Bool)) (x := (sub [1, 1, 1, 1, 2] bd_ref07_Marked)) (y := (sub [1, 1, 1, 1, 1] bd_ref07_Marked)) (by kernel_rfl) [6] [1, 2, 5, 6] _ h0 (fun z => ref07_Marked_J2 z = some r0) (fun z => ST_ref07_Marked_J2 z) ?_ fun J2 hJ2 => ?_
  ·rintro marked1 hf0
   unfold ref07_Marked_J2 at hf0
   obtain rfl := someE hf0
   exact awpEnd X0 TTab_ok hC hm hE 4000 (hs := []) (x := (eOs 1 false (eOs 1 true eB) marked1)) [] (by kernel_rfl) (LeV.refl _)
  ·obtain ⟨t3, ht3, hf0⟩ := bindE hf0
   refine awpAt X0 TTab_ok hC hm [1, 2, 5, 6, 8] 4000 [] (sub [1, 1, 1, 1, 2, 1, 0] bd_ref07_Marked) (frs [1, 1, 1, 1, 2, 1, 0] [J2] bd_ref07_Marked []) [(1, .d (I k_)), (2, .own (.box (F19_ m_))), (5, .d (I ((m_.Rows.length : Nat) : Int))), (6, .own (eOs 1 false (eOs 1 true eB) marked)), (8, .d (I 0))] [] (by kernel_rfl) fun st0 h0 => ?_
   refine awpLoop' (X := (List (List Bool) × Int) × Nat) (c' := (sub [1, 1, 1, 1, 2, 1, 0, 0] bd_ref07_Marked)) (by kernel_rfl) [1, 2, 5, 6, 8] (fun x => loopN (fun s => ref07_Marked_L3 m_ k_ s.1 s.2) x.2 x.1 = some t3) (fun x => x.2) (fun x => ST_ref07_Marked_L3 m_ k_ x.1.1 x.1.2) ((marked, 0), fuel) _ h0 inferInstance ht3 ?_
   rintro ⟨⟨marked2, round⟩, n3⟩ hn3 J3 hJ3
   obtain ⟨m3, lr1, rfl, hf1, hl1⟩ := loopE hn3
   try unfold ref07_Marked_L3 at hf1
   rcases bifE hf1 with ⟨c0, hf1⟩ | ⟨c0, hf1⟩
   ·refine awpAt X0 TTab_ok hC hm [1, 2, 5, 6, 8] 4000 [bT, .cut 0] (sub [1, 1, 1, 1, 2, 1, 0, 0, 1] bd_ref07_Marked) (frs [1, 1, 1, 1, 2, 1, 0, 0, 1] [J2, J3] bd_ref07_Marked []) [(1, .d (I k_)), (2, .own (.box (F19_ m_))), (5, .d (I ((m_.Rows.length : Nat) : Int))), (6, .own (eOs 1 false (eOs 1 true eB) marked2)), (8, .d (I round))] [ob c0] (by kernel_rfl) fun st0 h0 => ?_
    refine awpJoin' (X := List (List Bool)) (x := (sub [1, 1, 1, 1, 2, 1, 0, 0, 1, 2] bd_ref07_Marked)) (y := (sub [1, 1, 1, 1, 2, 1, 0, 0, 1, 1] bd_ref07_Marked)) (by kernel_rfl) [1, 2, 5, 6, 8] [1, 2, 5, 6, 8] _ h0 (fun z => ref07_Marked_J4 round z = some lr1) (fun z => ST_ref07_Marked_J4 m_ k_ round z) ?_ fun J4 hJ4 => ?_
    ·rintro marked3 hf1
     unfold ref07_Marked_J4 at hf1
     obtain rfl := someE hf1
     exact awpBack X0 TTab_ok hC hm [1, 2, 5, 6, 8] 4000 [] J3 [(1, .d (I k_)), (2, .own (.box (F19_ m_))), (5, .d (I ((m_.Rows.length : Nat) : Int))), (6, .own (eOs 1 false (eOs 1 true eB) marked3)), (8, .d (I (w64 (round + 1))))] [] (by kernel_rfl) fun st0 h0 => hJ3 st0 _ ((marked3, w64 (round + 1)), m3) hl1 (Nat.lt_succ_self m3) h0 inferInstance
    ·refine awpAt X0 TTab_ok hC hm [1, 2, 5, 6, 8, 9] 4000 [.cut 1] (sub [1, 1, 1, 1, 2, 1, 0, 0, 1, 2, 0, 1] bd_ref07_Marked) (frs [1, 1, 1, 1, 2, 1, 0, 0, 1, 2, 0, 1] [J2, J3, J4] bd_ref07_Marked []) [(1, .d (I k_)), (2, .own (.box (F19_ m_))), (5, .d (I ((m_.Rows.length : Nat) : Int))), (6, .own (eOs 1 false (eOs 1 true eB) marked2)), (8, .d (I round)), (9, .own (eOs 1 true (eSl 1 false eB) []))] [] (by kernel_rfl) fun st0 h0 => ?_
     refine awpJoin' (X := List (List Bool)) (x := (sub [1, 1, 1, 1, 2, 1, 0, 0, 1, 2, 0, 1, 2] bd_ref07_Marked)) (y := (sub [1, 1, 1, 1, 2, 1, 0, 0, 1, 2, 0, 1, 1] bd_ref07_Marked)) (by kernel_rfl) [1, 2, 5, 8, 9] [1, 2, 5, 6, 8, 9] _ h0 (fun z => ref07_Marked_J5 round z = some lr1) (fun z => ST_ref07_Marked_J5 m_ k_ round z) ?_ fun J5 hJ5 => ?_
     ·rintro next hf1
      unfold ref07_Marked_J5 at hf1
      exact awpBack X0 TTab_ok hC hm [1, 2, 5, 6, 8] 4000 [] J4 [(1, .d (I k_)), (2, .own (.box (F19_ m_))), (5, .d (I ((m_.Rows.length : Nat) : Int))), (6, .own (eOs 1 false (eOs 1 true eB) next)), (8, .d (I round))] [] (by kernel_rfl) fun st0 h0 => hJ4 st0 _ next hf1 h0 inferInstance
     ·obtain ⟨t6, ht6, hf1⟩ := bindE hf1
      refine awpAt X0 TTab_ok hC hm [1, 2, 5, 6, 8, 9, 10] 4000 [.n 3 [6], .l (marked2.map (eSl 1 true eB))] (sub [1, 1, 1, 1, 2, 1, 0, 0, 1, 2, 0, 1, 2, 1, 0] bd_ref07_Marked) (frs [1, 1, 1, 1, 2, 1, 0, 0, 1, 2, 0, 1, 2, 1, 0] [J2, J3, J4, J5] bd_ref07_Marked []) [(1, .d (I k_)), (2, .own (.box (F19_ m_))), (5, .d (I ((m_.Rows.length : Nat) : Int))), (6, .d (eSl 1 false (eSl 1 true eB) marked2)), (8, .d (I round)), (9, .own (eOs 1 true (eOs 1 true eB) [])), (10, .d (I 0))] [ob (shM (eOs 1 true eB) (eSl 1 true eB) marked2)] (by kernel_rfl) fun st0 h0 => ?_
      refine awpLoop' (X := (List (List Bool) × Int) × Nat) (c' := (sub [1, 1, 1, 1, 2, 1, 0, 0, 1, 2, 0, 1, 2, 1, 0, 0] bd_ref07_Marked)) (by kernel_rfl) [1, 2, 5, 6, 8, 9, 10] (fun x => loopN (fun s => ref07_Marked_L6 m_ marked2 s.1 s.2) x.2 x.1 = some t6) (fun x => x.2) (fun x => ST_ref07_Marked_L6 m_ k_ marked2 round x.1.1 x.1.2) ((([] : List (List Bool)), 0), fuel) _ h0 inferInstance ht6 ?_
      rintro ⟨⟨next1, s_⟩, n6⟩ hn6 J6 hJ6
      obtain ⟨m6, lr2, rfl, hf2, hl2⟩ := loopE hn6
      try unfold ref07_Marked_L6 at hf2
      rcases bifE hf2 with ⟨c1, hf2⟩ | ⟨c1, hf2⟩
      ·refine awpAt X0 TTab_ok hC hm [1, 2, 5, 6, 8, 9, 10] 4000 [bT, .cut 0] (sub [1, 1, 1, 1, 2, 1, 0, 0, 1, 2, 0, 1, 2, 1, 0, 0, 1] bd_ref07_Marked) (frs [1, 1, 1, 1, 2, 1, 0, 0, 1, 2, 0, 1, 2, 1, 0, 0, 1] [J2, J3, J4, J5, J6] bd_ref07_Marked []) [(1, .d (I k_)), (2, .own (.box (F19_ m_))), (5, .d (I ((m_.Rows.length : Nat) : Int))), (6, .d (eSl 1 false (eSl 1 true eB) marked2)), (8, .d (I round)), (9, .own (eOs 1 false (eOs 1 true eB) next1)), (10, .d (I s_))] [ob c1] (by kernel_rfl) fun st0 h0 => ?_
       refine awpJoin' (X := List (List Bool)) (x := (sub [1, 1, 1, 1, 2, 1, 0, 0, 1, 2, 0, 1, 2, 1, 0, 0, 1, 2] bd_ref07_Marked)) (y := (sub [1, 1, 1, 1, 2, 1, 0, 0, 1, 2, 0, 1, 2, 1, 0, 0, 1, 1] bd_ref07_Marked)) (by kernel_rfl) [1, 2, 5, 6, 8, 9, 10] [1, 2, 5, 6, 8, 9, 10] _ h0 (fun z => ref07_Marked_J7 s_ z = some lr2) (fun z => ST_ref07_Marked_J7 m_ k_ marked2 round s_ z) ?_ fun J7 hJ7 => ?_
       ·rintro next2 hf2
        unfold ref07_Marked_J7 at hf2
        obtain rfl := someE hf2
        exact awpBack X0 TTab_ok hC hm [1, 2, 5, 6, 8, 9, 10] 4000 [] J6 [(1, .d (I k_)), (2, .own (.box (F19_ m_))), (5, .d (I ((m_.Rows.length : Nat) : Int))), (6, .d (eSl 1 false (eSl 1 true eB) marked2)), (8, .d (I round)), (9, .own (eOs 1 false (eOs 1 true eB) next2)), (10, .d (I (w64 (s_ + 1))))] [] (by kernel_rfl) fun st0 h0 => hJ6 st0 _ ((next2, w64 (s_ + 1)), m6) hl2 (Nat.lt_succ_self m6) h0 inferInstance
       ·obtain ⟨g0, hf2⟩ := gdE hf2
        have o1 := rM 1 eB ((m_.Rows.length : Nat) : Int) false
        have o2 := oC (eOs 1 true eB) (List.replicate ((m_.Rows.length : Nat) : Int).toNat false) []
        obtain ⟨g1, hf2⟩ := gdE hf2
        have o3 := aL (eOs 1 true eB) (eOs 1 true eB) g1
        have o4 := aM (eOs 1 true eB) next1 ([(List.replicate ((m_.Rows.length : Nat) : Int).toNat false)] : List (List Bool))
        obtain ⟨t8, ht8, hf2⟩ := bindE hf2
        refine awpAt X0 TTab_ok hC hm [1, 2, 5, 6, 8, 9, 10, 11] 4000 [.a (eOs 1 true eB (List.replicate ((m_.Rows.length : Nat) : Int).toNat false)), bF, .l ((next1 ++ ([(List.replicate ((m_.Rows.length : Nat) : Int).toNat false)] : List (List Bool))).map (eOs 1 true eB))] (sub [1, 1, 1, 1, 2, 1, 0, 0, 1, 2, 0, 1, 2, 1, 0, 0, 1, 2, 0, 1, 1, 0] bd_ref07_Marked) (frs [1, 1, 1, 1, 2, 1, 0, 0, 1, 2, 0, 1, 2, 1, 0, 0, 1, 2, 0, 1, 1, 0] [J2, J3, J4, J5, J6, J7] bd_ref07_Marked []) [(1, .d (I k_)), (2, .own (.box (F19_ m_))), (5, .d (I ((m_.Rows.length : Nat) : Int))), (6, .d (eSl 1 false (eSl 1 true eB) marked2)), (8, .d (I round)), (9, .own (eOs 1 false (eOs 1 true eB) (next1 ++ ([(List.replicate ((m_.Rows.length : Nat) : Int).toNat false)] : List (List Bool))))), (10, .d (I s_)), (11, .d (I 0))] [ob (rL g0), ob o1, ob o2, ob o3, ob o4] (by kernel_rfl) fun st0 h0 => ?_
        refine awpLoop' (X := (List (List Bool) × Int) × Nat) (c' := (sub [1, 1, 1, 1, 2, 1, 0, 0, 1, 2, 0, 1, 2, 1, 0, 0, 1, 2, 0, 1, 1, 0, 0] bd_ref07_Marked)) (by kernel_rfl) [1, 2, 5, 6, 8, 9, 10, 11] (fun x => loopN (fun s => ref07_Marked_L8 m_ marked2 s_ s.1 s.2) x.2 x.1 = some t8) (fun x => x.2) (fun x => ST_ref07_Marked_L8 m_ k_ marked2 round s_ x.1.1 x.1.2) (((next1 ++ ([(List.replicate ((m_.Rows.length : Nat) : Int).toNat false)] : List (List Bool))), 0), fuel) _ h0 inferInstance ht8 ?_
        rintro ⟨⟨next3, t_⟩, n8⟩ hn8 J8 hJ8
        obtain ⟨m8, lr3, rfl, hf3, hl3⟩ := loopE hn8
        try unfold ref07_Marked_L8 at hf3
        rcases bifE hf3 with ⟨c2, hf3⟩ | ⟨c2, hf3⟩
        ·obtain ⟨next_e, h0, hf3⟩ := bindE hf3
         obtain ⟨marked_e, h1, hf3⟩ := bindE hf3
         obtain ⟨marked_e_e, h2, hf3⟩ := bindE hf3
         rcases bifE hf3 with ⟨c3, hf3⟩ | ⟨c3, hf3⟩
         ·obtain ⟨next_e_e, h3, hf3⟩ := bindE hf3
          have o5 := sM (eOs 1 true eB) next3 s_ (next_e.set t_.toNat true)
          obtain rfl := someE hf3
          exact awpBack X0 TTab_ok hC hm [1, 2, 5, 6, 8, 9, 10, 11] 4000 (bT :: .a ((eOs 1 true eB) next_e) :: .a ((eSl 1 true eB) marked_e) :: .a (eB marked_e_e) :: (rpN 7 bT [.a ((eOs 1 true eB) next_e), .a ((eOs 1 true eB) next_e), .a (eB next_e_e), .a ((eOs 1 true eB) next_e), .a (eB next_e_e), .l ((next_e.set t_.toNat true).map eB), .l ((next3.set s_.toNat (next_e.set t_.toNat true)).map (eOs 1 true eB))])) J8 [(1, .d (I k_)), (2, .own (.box (F19_ m_))), (5, .d (I ((m_.Rows.length : Nat) : Int))), (6, .d (eSl 1 false (eSl 1 true eB) marked2)), (8, .d (I round)), (9, .own (eOs 1 false (eOs 1 true eB) (next3.set s_.toNat (next_e.set t_.toNat true)))), (10, .d (I s_)), (11, .d (I (w64 (t_ + 1))))] (ob c2 :: ob (iL (eOs 1 true eB) h0) :: ob (iM (eOs 1 true eB) h0) :: ob (i0 h1) :: ob (iM (eSl 1 true eB) h1) :: ob (i0 h2) :: ob (iM eB h2) :: (rpN 7 (ob c3) [ob (iM (eOs 1 true eB) h0), ob (iL eB h3), ob (iM (eOs 1 true eB) h0), ob (iM eB h3), ob (iM (eOs 1 true eB) h0), ob (iM eB h3), ob (sM eB next_e t_ true), ob o5])) (by kernel_rfl) fun st0 h0 => hJ8 st0 _ (((next3.set s_.toNat (next_e.set t_.toNat true)), w64 (t_ + 1)), m8) hl3 (Nat.lt_succ_self m8) h0 inferInstance
         ·obtain ⟨r_, h4, hf3⟩ := bindE hf3
          have o6 := hasF h_ref07_apart (x := (m_, marked2, s_, t_)) h4 (loC F19_ m_ <| loC (eSl 1 false (eSl 1 true eB)) marked2 <| loC (eI .i64) s_ <| loC (eI .i64) t_ <| loN)
          obtain ⟨next_e_e1, h5, hf3⟩ := bindE hf3
          have o7 := sM (eOs 1 true eB) next3 s_ (next_e.set t_.toNat (r_ == 1))
          obtain rfl := someE hf3
          exact awpBack X0 TTab_ok hC hm [1, 2, 5, 6, 8, 9, 10, 11] 4000 (bT :: .a ((eOs 1 true eB) next_e) :: .a ((eSl 1 true eB) marked_e) :: .a (eB marked_e_e) :: (rpN 5 bF [.g [], .a ((eI .i64) r_), bF, bF, .a ((eOs 1 true eB) next_e), .a ((eOs 1 true eB) next_e), .a (eB next_e_e1), .a ((eOs 1 true eB) next_e), .a (eB next_e_e1), .l ((next_e.set t_.toNat (r_ == 1)).map eB), .l ((next3.set s_.toNat (next_e.set t_.toNat (r_ == 1))).map (eOs 1 true eB))])) J8 [(1, .d (I k_)), (2, .own (.box (F19_ m_))), (5, .d (I ((m_.Rows.length : Nat) : Int))), (6, .d (eSl 1 false (eSl 1 true eB) marked2)), (8, .d (I round)), (9, .own (eOs 1 false (eOs 1 true eB) (next3.set s_.toNat (next_e.set t_.toNat (r_ == 1))))), (10, .d (I s_)), (11, .d (I (w64 (t_ + 1))))] (ob c2 :: ob (iL (eOs 1 true eB) h0) :: ob (iM (eOs 1 true eB) h0) :: ob (i0 h1) :: ob (iM (eSl 1 true eB) h1) :: ob (i0 h2) :: ob (iM eB h2) :: (rpN 5 (ob c3) [ob (hasG h_ref07_apart), ob o6, ob c3, ob c3, ob (iM (eOs 1 true eB) h0), ob (iL eB h5), ob (iM (eOs 1 true eB) h0), ob (iM eB h5), ob (iM (eOs 1 true eB) h0), ob (iM eB h5), ob (sM eB next_e t_ (r_ == 1)), ob o7])) (by kernel_rfl) fun st0 h0 => hJ8 st0 _ (((next3.set s_.toNat (next_e.set t_.toNat (r_ == 1))), w64 (t_ + 1)), m8) hl3 (Nat.lt_succ_self m8) h0 inferInstance
        ·obtain rfl := someE hf3
         obtain rfl := hl3
         exact awpBack X0 TTab_ok hC hm [1, 2, 5, 6, 8, 9, 10] 4000 [bF] J7 [(1, .d (I k_)), (2, .own (.box (F19_ m_))), (5, .d (I ((m_.Rows.length : Nat) : Int))), (6, .d (eSl 1 false (eSl 1 true eB) marked2)), (8, .d (I round)), (9, .own (eOs 1 false (eOs 1 true eB) next3)), (10, .d (I s_))] [ob c2] (by kernel_rfl) fun st0 h0 => hJ7 st0 _ next3 hf2 h0 inferInstance
      ·obtain rfl := someE hf2
       obtain rfl := hl2
       exact awpBack X0 TTab_ok hC hm [1, 2, 5, 8, 9] 4000 [bF] J5 [(1, .d (I k_)), (2, .own (.box (F19_ m_))), (5, .d (I ((m_.Rows.length : Nat) : Int))), (8, .d (I round)), (9, .own (eOs 1 false (eOs 1 true eB) next1))] [ob c1] (by kernel_rfl) fun st0 h0 => hJ5 st0 _ next1 hf1 h0 inferInstance
   ·obtain rfl := someE hf1
    obtain rfl := hl1
    exact awpBack X0 TTab_ok hC hm [6] 4000 [bF] J2 [(6, .own (eOs 1 false (eOs 1 true eB) marked2))] [ob c0] (by kernel_rfl) fun st0 h0 => hJ2 st0 _ marked2 hf0 h0 inferInstance
 ·obtain ⟨t9, ht9, hf0⟩ := bindE hf0
  refine awpAt X0 TTab_ok hC hm [1, 2, 5, 6, 7] 4000 [] (sub [1, 1, 1, 2, 1, 0] bd_ref07_Marked) (frs [1, 1, 1, 2, 1, 0] [J1] bd_ref07_Marked []) [(1, .d (I k_)), (2, .own (.box (F19_ m_))), (5, .d (I ((m_.Rows.length : Nat) : Int))), (6, .own (eOs 1 true (eOs 1 true eB) [])), (7, .d (I 0))] [] (by kernel_rfl) fun st0 h0 => ?_
  refine awpLoop' (X := (List (List Bool) × Int) × Nat) (c' := (sub [1, 1, 1, 2, 1, 0, 0] bd_ref07_Marked)) (by kernel_rfl) [1, 2, 5, 6, 7] (fun x => loopN (fun s => ref07_Marked_L9 m_ s.1 s.2) x.2 x.1 = some t9) (fun x => x.2) (fun x => ST_ref07_Marked_L9 m_ k_ x.1.1 x.1.2) ((([] : List (List Bool)), 0), fuel) _ h0 inferInstance ht9 ?_
  rintro ⟨⟨marked4, s_1⟩, n9⟩ hn9 J9 hJ9
  obtain ⟨m9, lr1, rfl, hf1, hl1⟩ := loopE hn9
  try unfold ref07_Marked_L9 at hf1
  rcases bifE hf1 with ⟨c4, hf1⟩ | ⟨c4, hf1⟩
  ·obtain ⟨g2, hf1⟩ := gdE hf1
   have o8 := rM 1 eB ((m_.Rows.length : Nat) : Int) false
   have o9 := oC (eOs 1 true eB) (List.replicate ((m_.Rows.length : Nat) : Int).toNat false) []
   obtain ⟨g3, hf1⟩ := gdE hf1
   have o10 := aL (eOs 1 true eB) (eOs 1 true eB) g3
   have o11 := aM (eOs 1 true eB) marked4 ([(List.replicate ((m_.Rows.length : Nat) : Int).toNat false)] : List (List Bool))
   obtain rfl := someE hf1
   exact awpBack X0 TTab_ok hC hm [1, 2, 5, 6, 7] 4000 [bT, .a (eOs 1 true eB (List.replicate ((m_.Rows.length : Nat) : Int).toNat false)), bF, .l ((marked4 ++ ([(List.replicate ((m_.Rows.length : Nat) : Int).toNat false)] : List (List Bool))).map (eOs 1 true eB))] J9 [(1, .d (I k_)), (2, .own (.box (F19_ m_))), (5, .d (I ((m_.Rows.length : Nat) : Int))), (6, .own (eOs 1 false (eOs 1 true eB) (marked4 ++ ([(List.replicate ((m_.Rows.length : Nat) : Int).toNat false)] : List (List Bool))))), (7, .d (I (w64 (s_1 + 1))))] [ob c4, ob (rL g2), ob o8, ob o9, ob o10, ob o11] (by kernel_rfl) fun st0 h0 => hJ9 st0 _ (((marked4 ++ ([(List.replicate ((m_.Rows.length : Nat) : Int).toNat false)] : List (List Bool))), w64 (s_1 + 1)), m9) hl1 (Nat.lt_succ_self m9) h0 inferInstance
  ·obtain rfl := someE hf1
   obtain rfl := hl1
   exact awpBack X0 TTab_ok hC hm [1, 2, 5, 6] 4000 [bF] J1 [(1, .d (I k_)), (2, .own (.box (F19_ m_))), (5, .d (I ((m_.Rows.length : Nat) : Int))), (6, .own (eOs 1 false (eOs 1 true eB) marked4))] [ob c4] (by kernel_rfl) fun st0 h0 => hJ1 st0 _ marked4 hf0 h0 inferInstance
noncomputable def bd_ref10_Differ : Code := (Try.f32.body).getD .skip
noncomputable def sp_ref10_Differ : Spec := spF (α := S_api_Machine × S_api_Machine) (ρ := List Int × Bool) 32 (fun x => [F19_ x.1, F19_ x.2]) (fun r => .tup [F3_ r.1, eB r.2]) (fun x => ref10_Differ x.1 x.2) [] (by
  rintro ⟨a0, a1⟩ ⟨b0, b1⟩ h
  simp only [List.cons.injEq, and_true] at h
  have e0 := EncI.inj (f := F19_) _ _ h.1
  have e1 := EncI.inj (f := F19_) _ _ h.2
  subst e0 e1
  rfl)
abbrev ST_ref10_Differ_J2 (w_ : List Int) : List (Nat × T) := [(10, .own (eOs 1 false (eI .i64) w_))]
abbrev ST_ref10_Differ_J5 (r_ : S_api_Machine) (s_ : Int) (t_ : Int) (n_1 : Int) (w_1 : List Int) (r_1 : List (List Bool)) (i_ : Int) (x82 : Int) (x83 : Bool) (x84 : Bool) (x88 : Bool) (x89 : Bool) (x99 : Bool) : List (Nat × T) := [(6, .own (.box (F19_ r_))), (7, .d (I s_)), (8, .d (I t_)), (9, .d (I (w64 (n_1 - 1)))), (10, .own (eOs 1 false (eI .i64) w_1)), (11, .own (eOs 1 false (eOs 1 true eB) r_1)), (12, .d (I i_)), (82, .d (I x82)), (83, .d (B x83)), (84, .d (B x84)), (88, .d (B x88)), (89, .d (B x89)), (99, .d (B x99))]
abbrev ST_ref10_Differ_L4 (r_ : S_api_Machine) (s_ : Int) (t_ : Int) (n_1 : Int) (w_1 : List Int) (r_1 : List (List Bool)) (i_ : Int) : List (Nat × T) := [(6, .own (.box (F19_ r_))), (7, .d (I s_)), (8, .d (I t_)), (9, .d (I (w64 (n_1 - 1)))), (10, .own (eOs 1 false (eI .i64) w_1)), (11, .own (eOs 1 false (eOs 1 true eB) r_1)), (12, .d (I i_))]
abbrev ST_ref10_Differ_L3 (r_ : S_api_Machine) (s_ : Int) (t_ : Int) (n_1 : Int) (w_1 : List Int) : List (Nat × T) := [(6, .own (.box (F19_ r_))), (7, .d (I s_)), (8, .d (I t_)), (9, .d (I n_1)), (10, .own (eOs 1 false (eI .i64) w_1))]
abbrev ST_ref10_Differ_J1 (a_ : S_api_Machine) (r_ : S_api_Machine) (n_ : Int) : List (Nat × T) := [(6, .own (.box (F19_ r_))), (7, .d (I 0)), (8, .d (I ((a_.Rows.length : Nat) : Int))), (9, .d (I n_))]
abbrev ST_ref10_Differ_L6 (a_ : S_api_Machine) (r_ : S_api_Machine) (n_2 : Int) : List (Nat × T) := [(6, .own (.box (F19_ r_))), (7, .d (I 0)), (8, .d (I ((a_.Rows.length : Nat) : Int))), (9, .d (I n_2))]
theorem w_ref10_Differ {ctr : Ctr} (hC : CtrOk Try.prog ctr) (hm : Try.prog.follows .mixedOrders = true) (h_ref10_Beside : ctr.Has sp_ref10_Beside) (h_ref07_Marked : ctr.Has sp_ref07_Marked) : sp_ref10_Differ.Ok Try.prog := by
 refine spF_ok ?_
 rintro ⟨a_, b_⟩ r0 hf0
 try unfold ref10_Differ at hf0
 refine callOk_h (tt := TTab) (keep := false) (rs := [(4, none), (5, none)]) (n := ⟨110, []⟩) (body := bd_ref10_Differ) TTab_ok Try.func32 rfl (by kernel_rfl) rfl rfl (by show (2 : Nat) ≤ 110; decide) fun E hE => ?_
 obtain ⟨r_, h0, hf0⟩ := bindE hf0
 have o0 := hasF h_ref10_Beside (x := (a_, b_)) h0 (loC F19_ a_ <| loC F19_ b_ <| loN)
 have o1 := lnM F10_ a_.Rows
 refine awpAt X0 TTab_ok hC hm [6, 7, 8, 9] 4000 [.g [], .a (F19_ r_), aLn a_.Rows.length, .cut 1] (sub [1, 1, 1, 1] bd_ref10_Differ) (frs [1, 1, 1, 1] [] bd_ref10_Differ []) [(6, .own (.box (F19_ r_))), (7, .d (I 0)), (8, .d (I ((a_.Rows.length : Nat) : Int))), (9, .d (I 0))] [ob (hasG h_ref10_Beside), ob o0, ob o1] (by kernel_rfl) fun st0 h0 => ?_
 refine awpJoin' (X := Int) (x := (sub [1, 1, 1, 1, 2] bd_ref10_Differ)) (y := (sub [1, 1, 1, 1, 1] bd_ref10_Differ)) (by kernel_rfl) [6, 7, 8, 9] [6, 7, 8, 9] _ h0 (fun z => ref10_Differ_J1 a_ r_ z = some r0) (fun z => ST_ref10_Differ_J1 a_ r_ z) ?_ fun J1 hJ1 => ?_
 ·rintro n_ hf0
  unfold ref10_Differ_J1 at hf0
  have o2 := lnM F10_ r_.Rows
  rcases bifE hf0 with ⟨c0, hf0⟩ | ⟨c0, hf0⟩
  ·obtain rfl := someE hf0
   exact awpEnd X0 TTab_ok hC hm hE 4000 (hs := [aLn r_.Rows.length, bT, .l ([].map (eI .i64))]) (x := (.tup [eSl 1 true (eI .i64) [], B false])) [ob o2, ob c0, ob (shM (eI .i64) (eI .i64) [])] (by kernel_rfl) (show LeV (.tup [eSl 1 true (eI .i64) [], B false]) (.tup [eSl 1 false (eI .i64) ([] : List Int), B false]) from inferInstance)
  ·refine awpAt X0 TTab_ok hC hm [6, 7, 8, 9, 10] 4000 [aLn r_.Rows.length, bF, .cut 1] (sub [1, 1, 1, 1, 1, 1, 1] bd_ref10_Differ) (frs [1, 1, 1, 1, 1, 1, 1] [] bd_ref10_Differ []) [(6, .own (.box (F19_ r_))), (7, .d (I 0)), (8, .d (I ((a_.Rows.length : Nat) : Int))), (9, .d (I n_)), (10, .own (eOs 1 true (eI .i64) []))] [ob o2, ob c0] (by kernel_rfl) fun st0 h0 => ?_
   refine awpJoin' (X := List Int) (x := (sub [1, 1, 1, 1, 1, 1, 1, 2] bd_ref10_Differ)) (y := (sub [1, 1, 1, 1, 1, 1, 1, 1] bd_ref10_Differ)) (by kernel_rfl) [10] [6, 7, 8, 9, 10] _ h0 (fun z => ref10_Differ_J2 z = some r0) (fun z => ST_ref10_Differ_J2 z) ?_ fun J2 hJ2 => ?_
   ·rintro w_ hf0
    unfold ref10_Differ_J2 at hf0
    obtain rfl := someE hf0
    exact awpEnd X0 TTab_ok hC hm hE 4000 (hs := [.l (w_.map (eI .i64))]) (x := (.tup [eSl 1 false (eI .i64) w_, B true])) [ob (shM (eI .i64) (eI .i64) w_)] (by kernel_rfl) (LeV.refl _)
   ·obtain ⟨t3, ht3, hf0⟩ := bindE hf0
    refine awpAt X0 TTab_ok hC hm [6, 7, 8, 9, 10] 4000 [] (sub [1, 1, 1, 1, 1, 1, 1, 2, 0] bd_ref10_Differ) (frs [1, 1, 1, 1, 1, 1, 1, 2, 0] [J2] bd_ref10_Differ []) [(6, .own (.box (F19_ r_))), (7, .d (I 0)), (8, .d (I ((a_.Rows.length : Nat) : Int))), (9, .d (I n_)), (10, .own (eOs 1 true (eI .i64) []))] [] (by kernel_rfl) fun st0 h0 => ?_
    refine awpLoop' (X := (Int × Int × Int × List Int) × Nat) (c' := (sub [1, 1, 1, 1, 1, 1, 1, 2, 0, 0] bd_ref10_Differ)) (by kernel_rfl) [6, 7, 8, 9, 10] (fun x => loopN (fun s => ref10_Differ_L3 r_ s.1 s.2.1 s.2.2.1 s.2.2.2) x.2 x.1 = some t3) (fun x => x.2) (fun x => ST_ref10_Differ_L3 r_ x.1.1 x.1.2.1 x.1.2.2.1 x.1.2.2.2) ((0, ((a_.Rows.length : Nat) : Int), n_, ([] : List Int)), fuel) _ h0 inferInstance ht3 ?_
    rintro ⟨⟨s_, t_, n_1, w_1⟩, n3⟩ hn3 J3 hJ3
    obtain ⟨m3, lr1, rfl, hf1, hl1⟩ := loopE hn3
    try unfold ref10_Differ_L3 at hf1
    rcases bifE hf1 with ⟨c1, hf1⟩ | ⟨c1, hf1⟩
    ·obtain ⟨r_1, h1, hf1⟩ := bindE hf1
     have o3 := hasF h_ref07_Marked (x := (r_, w64 (n_1 - 1))) h1 (loC F19_ r_ <| loC (eI .i64) (w64 (n_1 - 1)) <| loN)
     obtain ⟨t4, ht4, hf1⟩ := bindE hf1
     refine awpAt X0 TTab_ok hC hm [6, 7, 8, 9, 10, 11, 12] 4000 [bT, .g [], .a (F4_ r_1)] (sub [1, 1, 1, 1, 1, 1, 1, 2, 0, 0, 1, 0, 1, 1, 1, 0] bd_ref10_Differ) (frs [1, 1, 1, 1, 1, 1, 1, 2, 0, 0, 1, 0, 1, 1, 1, 0] [J2, J3] bd_ref10_Differ []) [(6, .own (.box (F19_ r_))), (7, .d (I s_)), (8, .d (I t_)), (9, .d (I (w64 (n_1 - 1)))), (10, .own (eOs 1 false (eI .i64) w_1)), (11, .own (eOs 1 false (eOs 1 true eB) r_1)), (12, .d (I 0))] [ob c1, ob (hasG h_ref07_Marked), ob o3] (by kernel_rfl) fun st0 h0 => ?_
     refine awpLoop' (X := Int × Nat) (c' := (sub [1, 1, 1, 1, 1, 1, 1, 2, 0, 0, 1, 0, 1, 1, 1, 0, 0] bd_ref10_Differ)) (by kernel_rfl) [6, 7, 8, 9, 10, 11, 12] (fun x => loopN (fun s => ref10_Differ_L4 r_ s_ t_ n_1 w_1 r_1 s) x.2 x.1 = some t4) (fun x => x.2) (fun x => ST_ref10_Differ_L4 r_ s_ t_ n_1 w_1 r_1 x.1) (0, fuel) _ h0 inferInstance ht4 ?_
     rintro ⟨i_, n4⟩ hn4 J4 hJ4
     obtain ⟨m4, lr2, rfl, hf2, hl2⟩ := loopE hn4
     try unfold ref10_Differ_L4 at hf2
     rcases bifE hf2 with ⟨c2, hf2⟩ | ⟨c2, hf2⟩
     ·refine awpAt X0 TTab_ok hC hm [6, 7, 8, 9, 10, 11, 12] 4000 [bT, .cut 0] (sub [1, 1, 1, 1, 1, 1, 1, 2, 0, 0, 1, 0, 1, 1, 1, 0, 0, 1] bd_ref10_Differ) (frs [1, 1, 1, 1, 1, 1, 1, 2, 0, 0, 1, 0, 1, 1, 1, 0, 0, 1] [J2, J3, J4] bd_ref10_Differ []) [(6, .own (.box (F19_ r_))), (7, .d (I s_)), (8, .d (I t_)), (9, .d (I (w64 (n_1 - 1)))), (10, .own (eOs 1 false (eI .i64) w_1)), (11, .own (eOs 1 false (eOs 1 true eB) r_1)), (12, .d (I i_))] [ob c2] (by kernel_rfl) fun st0 h0 => ?_
      refine awpJoin' (X := Int × Bool × Bool × Bool × Bool × Bool) (x := (sub [1, 1, 1, 1, 1, 1, 1, 2, 0, 0, 1, 0, 1, 1, 1, 0, 0, 1, 2] bd_ref10_Differ)) (y := (sub [1, 1, 1, 1, 1, 1, 1, 2, 0, 0, 1, 0, 1, 1, 1, 0, 0, 1, 1] bd_ref10_Differ)) (by kernel_rfl) [6, 7, 8, 9, 10, 11, 12, 82, 83, 84, 88, 89, 99] [6, 7, 8, 9, 10, 11, 12] _ h0 (fun z => ref10_Differ_J5 i_ z.1 z.2.1 z.2.2.1 z.2.2.2.1 z.2.2.2.2.1 z.2.2.2.2.2 = some lr2) (fun z => ST_ref10_Differ_J5 r_ s_ t_ n_1 w_1 r_1 i_ z.1 z.2.1 z.2.2.1 z.2.2.2.1 z.2.2.2.2.1 z.2.2.2.2.2) ?_ fun J5 hJ5 => ?_
      ·rintro ⟨x82, x83, x84, x88, x89, x99⟩ hf2
       unfold ref10_Differ_J5 at hf2
       obtain rfl := someE hf2
       exact awpBack X0 TTab_ok hC hm [6, 7, 8, 9, 10, 11, 12] 4000 [] J4 [(6, .own (.box (F19_ r_))), (7, .d (I s_)), (8, .d (I t_)), (9, .d (I (w64 (n_1 - 1)))), (10, .own (eOs 1 false (eI .i64) w_1)), (11, .own (eOs 1 false (eOs 1 true eB) r_1)), (12, .d (I (w64 (i_ + 1))))] [] (by kernel_rfl) fun st0 h0 => hJ4 st0 _ (w64 (i_ + 1), m4) hl2 (Nat.lt_succ_self m4) h0 inferInstance
      ·obtain ⟨Row_e, h2, hf2⟩ := bindE hf2
       have o4 := iM F10_ h2
       obtain ⟨Row_e_e, h3, hf2⟩ := bindE hf2
       have o5 := iM F7_ h3
       obtain ⟨Row_e1, h4, hf2⟩ := bindE hf2
       have o6 := iM F10_ h4
       obtain ⟨Row_e_e1, h5, hf2⟩ := bindE hf2
       have o7 := iM F7_ h5
       rcases bifE hf2 with ⟨c3, hf2⟩ | ⟨c3, hf2⟩
       ·obtain ⟨g0, hf2⟩ := gdE hf2
        obtain rfl := someE hf2
        obtain rfl := hl2
        obtain rfl := someE hf1
        exact awpBack X0 TTab_ok hC hm [6, 7, 8, 9, 10] 4000 (.a (F10_ Row_e) :: .a (F7_ Row_e_e) :: .a (F10_ Row_e1) :: .a (F7_ Row_e_e1) :: (rpN 10 bT [.l ((w_1 ++ ([i_] : List Int)).map (eI .i64))])) J3 [(6, .own (.box (F19_ r_))), (7, .d (I Row_e_e.To)), (8, .d (I Row_e_e1.To)), (9, .d (I (w64 (n_1 - 1)))), (10, .own (eOs 1 false (eI .i64) (w_1 ++ ([i_] : List Int))))] (ob (i0 h2) :: ob o4 :: ob (i0 h3) :: ob o5 :: ob (i0 h4) :: ob o6 :: ob (i0 h5) :: ob o7 :: (rpN 8 (ob c3) [oT, ob (dM (eI .i64) ([i_] : List Int)), ob (dM (eI .i64) ([i_] : List Int)), ob (aL (eI .i64) (eI .i64) g0), ob (aM (eI .i64) w_1 ([i_] : List Int))])) (by kernel_rfl) fun st0 h0 => hJ3 st0 _ ((Row_e_e.To, Row_e_e1.To, w64 (n_1 - 1), (w_1 ++ ([i_] : List Int))), m3) hl1 (Nat.lt_succ_self m3) h0 inferInstance
       ·rcases bifE hf2 with ⟨c4, hf2⟩ | ⟨c4, hf2⟩
        ·rcases bifE hf2 with ⟨c5, hf2⟩ | ⟨c5, hf2⟩
         ·obtain ⟨r__e, h6, hf2⟩ := bindE hf2
          obtain ⟨r__e_e, h7, hf2⟩ := bindE hf2
          rcases bifE hf2 with ⟨c6, hf2⟩ | ⟨c6, hf2⟩
          ·obtain ⟨g1, hf2⟩ := gdE hf2
           obtain rfl := someE hf2
           obtain rfl := hl2
           obtain rfl := someE hf1
           exact awpBack X0 TTab_ok hC hm [6, 7, 8, 9, 10] 4000 (.a (F10_ Row_e) :: .a (F7_ Row_e_e) :: .a (F10_ Row_e1) :: .a (F7_ Row_e_e1) :: (rpN 4 bF (bT :: bT :: bT :: bF :: bT :: bF :: (rpN 5 bT [.a ((eOs 1 true eB) r__e), bT, bT, bT, .a ((eOs 1 true eB) r__e), bT, .a ((eOs 1 true eB) r__e), .a (eB r__e_e), bF, bT, bF, bT, bT, .l ((w_1 ++ ([i_] : List Int)).map (eI .i64))])))) J3 [(6, .own (.box (F19_ r_))), (7, .d (I Row_e_e.To)), (8, .d (I Row_e_e1.To)), (9, .d (I (w64 (n_1 - 1)))), (10, .own (eOs 1 false (eI .i64) (w_1 ++ ([i_] : List Int))))] (ob (i0 h2) :: ob o4 :: ob (i0 h3) :: ob o5 :: ob (i0 h4) :: ob o6 :: ob (i0 h5) :: ob o7 :: (rpN 4 (ob c3) (ob c4 :: ob c4 :: ob c4 :: ob c3 :: ob c4 :: ob c3 :: (rpN 4 (ob c5) [ob (iL (eOs 1 true eB) h6), ob c5, ob (iM (eOs 1 true eB) h6), ob c5, ob c5, ob c5, ob (iM (eOs 1 true eB) h6), ob (iL eB h7), ob c5, ob (iM (eOs 1 true eB) h6), ob (iM eB h7), ob c3, ob c5, ob c3, ob c6, ob (dM (eI .i64) ([i_] : List Int)), ob (dM (eI .i64) ([i_] : List Int)), ob (aL (eI .i64) (eI .i64) g1), ob (aM (eI .i64) w_1 ([i_] : List Int))])))) (by kernel_rfl) fun st0 h0 => hJ3 st0 _ ((Row_e_e.To, Row_e_e1.To, w64 (n_1 - 1), (w_1 ++ ([i_] : List Int))), m3) hl1 (Nat.lt_succ_self m3) h0 inferInstance
          ·exact awpBack X0 TTab_ok hC hm [6, 7, 8, 9, 10, 11, 12, 82, 83, 84, 88, 89, 99] 4000 (.a (F10_ Row_e) :: .a (F7_ Row_e_e) :: .a (F10_ Row_e1) :: .a (F7_ Row_e_e1) :: (rpN 4 bF (bT :: bT :: bT :: bF :: bT :: bF :: (rpN 5 bT [.a ((eOs 1 true eB) r__e), bT, bT, bT, .a ((eOs 1 true eB) r__e), bT, .a ((eOs 1 true eB) r__e), .a (eB r__e_e), bF, bT, bF, bF])))) J5 [(6, .own (.box (F19_ r_))), (7, .d (I s_)), (8, .d (I t_)), (9, .d (I (w64 (n_1 - 1)))), (10, .own (eOs 1 false (eI .i64) w_1)), (11, .own (eOs 1 false (eOs 1 true eB) r_1)), (12, .d (I i_)), (82, .d (I Row_e_e.To)), (83, .d (B (decide (Row_e_e.To ≥ 0)))), (84, .d (B (decide (Row_e_e.To ≥ 0)))), (88, .d (B (decide (Row_e_e1.To ≥ 0)))), (89, .d (B (decide (Row_e_e1.To ≥ 0)))), (99, .d (B r__e_e))] (ob (i0 h2) :: ob o4 :: ob (i0 h3) :: ob o5 :: ob (i0 h4) :: ob o6 :: ob (i0 h5) :: ob o7 :: (rpN 4 (ob c3) (ob c4 :: ob c4 :: ob c4 :: ob c3 :: ob c4 :: ob c3 :: (rpN 4 (ob c5) [ob (iL (eOs 1 true eB) h6), ob c5, ob (iM (eOs 1 true eB) h6), ob c5, ob c5, ob c5, ob (iM (eOs 1 true eB) h6), ob (iL eB h7), ob c5, ob (iM (eOs 1 true eB) h6), ob (iM eB h7), ob c3, ob c5, ob c3, ob c6])))) (by kernel_rfl) fun st0 h0 => hJ5 st0 _ (Row_e_e.To, decide (Row_e_e.To ≥ 0), decide (Row_e_e.To ≥ 0), decide (Row_e_e1.To ≥ 0), decide (Row_e_e1.To ≥ 0), r__e_e) hf2 h0 inferInstance
         ·exact awpBack X0 TTab_ok hC hm [6, 7, 8, 9, 10, 11, 12, 82, 83, 84, 88, 89, 99] 4000 (.a (F10_ Row_e) :: .a (F7_ Row_e_e) :: .a (F10_ Row_e1) :: .a (F7_ Row_e_e1) :: (rpN 4 bF (bT :: bT :: bT :: bF :: bT :: (rpN 14 bF [])))) J5 [(6, .own (.box (F19_ r_))), (7, .d (I s_)), (8, .d (I t_)), (9, .d (I (w64 (n_1 - 1)))), (10, .own (eOs 1 false (eI .i64) w_1)), (11, .own (eOs 1 false (eOs 1 true eB) r_1)), (12, .d (I i_)), (82, .d (I Row_e_e.To)), (83, .d (B (decide (Row_e_e.To ≥ 0)))), (84, .d (B (decide (Row_e_e.To ≥ 0)))), (88, .d (B (decide (Row_e_e1.To ≥ 0)))), (89, .d (B (decide (Row_e_e1.To ≥ 0)))), (99, .d (B false))] (ob (i0 h2) :: ob o4 :: ob (i0 h3) :: ob o5 :: ob (i0 h4) :: ob o6 :: ob (i0 h5) :: ob o7 :: (rpN 4 (ob c3) (ob c4 :: ob c4 :: ob c4 :: ob c3 :: ob c4 :: ob c3 :: (rpN 9 (ob c5) [ob c3, ob c5, ob c3, oF])))) (by kernel_rfl) fun st0 h0 => hJ5 st0 _ (Row_e_e.To, decide (Row_e_e.To ≥ 0), decide (Row_e_e.To ≥ 0), decide (Row_e_e1.To ≥ 0), decide (Row_e_e1.To ≥ 0), false) hf2 h0 inferInstance
        ·exact awpBack X0 TTab_ok hC hm [6, 7, 8, 9, 10, 11, 12, 82, 83, 84, 88, 89, 99] 4000 (.a (F10_ Row_e) :: .a (F7_ Row_e_e) :: .a (F10_ Row_e1) :: .a (F7_ Row_e_e1) :: (rpN 23 bF [])) J5 [(6, .own (.box (F19_ r_))), (7, .d (I s_)), (8, .d (I t_)), (9, .d (I (w64 (n_1 - 1)))), (10, .own (eOs 1 false (eI .i64) w_1)), (11, .own (eOs 1 false (eOs 1 true eB) r_1)), (12, .d (I i_)), (82, .d (I Row_e_e.To)), (83, .d (B (decide (Row_e_e.To ≥ 0)))), (84, .d (B (decide (Row_e_e.To ≥ 0)))), (88, .d (B false)), (89, .d (B false)), (99, .d (B false))] (ob (i0 h2) :: ob o4 :: ob (i0 h3) :: ob o5 :: ob (i0 h4) :: ob o6 :: ob (i0 h5) :: ob o7 :: (rpN 4 (ob c3) (ob c4 :: ob c4 :: ob c4 :: ob c3 :: ob c4 :: ob c3 :: (rpN 9 oF [ob c3, oF, ob c3, oF])))) (by kernel_rfl) fun st0 h0 => hJ5 st0 _ (Row_e_e.To, decide (Row_e_e.To ≥ 0), decide (Row_e_e.To ≥ 0), false, false, false) hf2 h0 inferInstance
     ·obtain rfl := someE hf2
      obtain rfl := hl2
      obtain rfl := someE hf1
      exact awpBack X0 TTab_ok hC hm [6, 7, 8, 9, 10] 4000 [bF] J3 [(6, .own (.box (F19_ r_))), (7, .d (I s_)), (8, .d (I t_)), (9, .d (I (w64 (n_1 - 1)))), (10, .own (eOs 1 false (eI .i64) w_1))] [ob c2] (by kernel_rfl) fun st0 h0 => hJ3 st0 _ ((s_, t_, w64 (n_1 - 1), w_1), m3) hl1 (Nat.lt_succ_self m3) h0 inferInstance
    ·obtain rfl := someE hf1
     obtain rfl := hl1
     exact awpBack X0 TTab_ok hC hm [10] 4000 [bF] J2 [(10, .own (eOs 1 false (eI .i64) w_1))] [ob c1] (by kernel_rfl) fun st0 h0 => hJ2 st0 _ w_1 hf0 h0 inferInstance
 ·obtain ⟨t6, ht6, hf0⟩ := bindE hf0
  refine awpAt X0 TTab_ok hC hm [6, 7, 8, 9] 4000 [] (sub [1, 1, 1, 1, 2, 0] bd_ref10_Differ) (frs [1, 1, 1, 1, 2, 0] [J1] bd_ref10_Differ []) [(6, .own (.box (F19_ r_))), (7, .d (I 0)), (8, .d (I ((a_.Rows.length : Nat) : Int))), (9, .d (I 0))] [] (by kernel_rfl) fun st0 h0 => ?_
  refine awpLoop' (X := Int × Nat) (c' := (sub [1, 1, 1, 1, 2, 0, 0] bd_ref10_Differ)) (by kernel_rfl) [6, 7, 8, 9] (fun x => loopN (fun s => ref10_Differ_L6 a_ r_ s) x.2 x.1 = some t6) (fun x => x.2) (fun x => ST_ref10_Differ_L6 a_ r_ x.1) (0, fuel) _ h0 inferInstance ht6 ?_
  rintro ⟨n_2, n6⟩ hn6 J6 hJ6
  obtain ⟨m6, lr1, rfl, hf1, hl1⟩ := loopE hn6
  try unfold ref10_Differ_L6 at hf1
  have o8 := lnM F10_ r_.Rows
  rcases bifE hf1 with ⟨c7, hf1⟩ | ⟨c7, hf1⟩
  ·obtain ⟨r_2, h8, hf1⟩ := bindE hf1
   have o9 := hasF h_ref07_Marked (x := (r_, n_2)) h8 (loC F19_ r_ <| loC (eI .i64) n_2 <| loN)
   obtain ⟨r__e1, h9, hf1⟩ := bindE hf1
   obtain ⟨r__e_e1, h10, hf1⟩ := bindE hf1
   rcases bifE hf1 with ⟨c8, hf1⟩ | ⟨c8, hf1⟩
   ·obtain rfl := someE hf1
    exact awpBack X0 TTab_ok hC hm [6, 7, 8, 9] 4000 [aLn r_.Rows.length, bT, bT, bT, .g [], .a (F4_ r_2), bT, bT, bT, .a ((eOs 1 true eB) r__e1), bT, bT, .a ((eOs 1 true eB) r__e1), bT, .a ((eOs 1 true eB) r__e1), .a (eB r__e_e1), bT, bT, bT] J6 [(6, .own (.box (F19_ r_))), (7, .d (I 0)), (8, .d (I ((a_.Rows.length : Nat) : Int))), (9, .d (I (w64 (n_2 + 1))))] [ob o8, ob c7, ob c7, ob c7, ob (hasG h_ref07_Marked), ob o9, ob c7, ob c7, ob (iL (eOs 1 true eB) h9), ob c7, ob (iM (eOs 1 true eB) h9), ob c7, ob c7, ob (iM (eOs 1 true eB) h9), ob (iL eB h10), ob c7, ob (iM (eOs 1 true eB) h9), ob (iM eB h10), ob c7, ob c7, ob c8] (by kernel_rfl) fun st0 h0 => hJ6 st0 _ (w64 (n_2 + 1), m6) hl1 (Nat.lt_succ_self m6) h0 inferInstance
   ·obtain rfl := someE hf1
    obtain rfl := hl1
    exact awpBack X0 TTab_ok hC hm [6, 7, 8, 9] 4000 [aLn r_.Rows.length, bT, bT, bT, .g [], .a (F4_ r_2), bT, bT, bT, .a ((eOs 1 true eB) r__e1), bT, bT, .a ((eOs 1 true eB) r__e1), bT, .a ((eOs 1 true eB) r__e1), .a (eB r__e_e1), bT, bT, bF] J1 [(6, .own (.box (F19_ r_))), (7, .d (I 0)), (8, .d (I ((a_.Rows.length : Nat) : Int))), (9, .d (I n_2))] [ob o8, ob c7, ob c7, ob c7, ob (hasG h_ref07_Marked), ob o9, ob c7, ob c7, ob (iL (eOs 1 true eB) h9), ob c7, ob (iM (eOs 1 true eB) h9), ob c7, ob c7, ob (iM (eOs 1 true eB) h9), ob (iL eB h10), ob c7, ob (iM (eOs 1 true eB) h9), ob (iM eB h10), ob c7, ob c7, ob c8] (by kernel_rfl) fun st0 h0 => hJ1 st0 _ n_2 hf0 h0 inferInstance
  ·obtain rfl := someE hf1
   obtain rfl := hl1
   exact awpBack X0 TTab_ok hC hm [6, 7, 8, 9] 4000 (aLn r_.Rows.length :: (rpN 12 bF [])) J1 [(6, .own (.box (F19_ r_))), (7, .d (I 0)), (8, .d (I ((a_.Rows.length : Nat) : Int))), (9, .d (I n_2))] (ob o8 :: (rpN 11 (ob c7) [oF])) (by kernel_rfl) fun st0 h0 => hJ1 st0 _ n_2 hf0 h0 inferInstance
noncomputable def bd_law10_EqualsWithin : Code := (Try.f7.body).getD .skip
noncomputable def sp_law10_EqualsWithin : Spec := spF (α := S_law10_D × Int) (ρ := Bool) 7 (fun x => [F23_ x.1, (eI .i64) x.2]) (fun r => eB r) (fun x => law10_EqualsWithin x.1 x.2) [] (by
  rintro ⟨a0, a1⟩ ⟨b0, b1⟩ h
  simp only [List.cons.injEq, and_true] at h
  have e0 := EncI.inj (f := F23_) _ _ h.1
  have e1 := EncI.inj (f := (eI .i64)) _ _ h.2
  subst e0 e1
  rfl)
theorem w_law10_EqualsWithin {ctr : Ctr} (hC : CtrOk Try.prog ctr) (hm : Try.prog.follows .mixedOrders = true) (h_law10_D_Of : ctr.Has sp_law10_D_Of) (h_equals_Within : ctr.Has sp_equals_Within) (h_law10_lives : ctr.Has sp_law10_lives) (h_ref10_Differ : ctr.Has sp_ref10_Differ) : sp_law10_EqualsWithin.Ok Try.prog := by
 refine spF_ok ?_
 rintro ⟨x_, k_⟩ r0 hf0
 try unfold law10_EqualsWithin at hf0
 refine callOk_h (tt := TTab) (keep := true) (rs := [(4, none)]) (n := ⟨83, []⟩) (body := bd_law10_EqualsWithin) TTab_ok Try.func7 rfl (by kernel_rfl) rfl rfl (by show (2 : Nat) ≤ 83; decide) fun E hE => ?_
 obtain ⟨r_, h0, hf0⟩ := bindE hf0
 have o0 := hasF h_law10_D_Of (x := (S_law10_D.mk x_.M x_.X x_.Alike x_.Swap x_.Place x_.To)) h0 (loC F23_ (S_law10_D.mk x_.M x_.X x_.Alike x_.Swap x_.Place x_.To) <| loN)
 obtain ⟨r_1, h1, hf0⟩ := bindE hf0
 have o1 := hasF h_equals_Within (x := (r_.1, r_.2, k_)) h1 (loC F19_ r_.1 <| loC F19_ r_.2 <| loC (eI .i64) k_ <| loN)
 rcases bifE hf0 with ⟨c0, hf0⟩ | ⟨c0, hf0⟩
 ·rcases bifE hf0 with ⟨c1, hf0⟩ | ⟨c1, hf0⟩
  ·rcases bifE hf0 with ⟨c2, hf0⟩ | ⟨c2, hf0⟩
   ·obtain ⟨r_2, h2, hf0⟩ := bindE hf0
    have o2 := hasF h_law10_lives (x := ()) h2 (loN)
    obtain rfl := someE hf0
    exact awpEnd X0 TTab_ok hC hm hE 4000 (hs := (.g [] :: .a (.tup [.agg [I r_.1.Inputs, I r_.1.Outputs, eSl 1 false F10_ r_.1.Rows], .agg [I r_.2.Inputs, I r_.2.Outputs, eSl 1 false F10_ r_.2.Rows]]) :: .g [] :: .a (.tup [B r_1.1, I r_1.2]) :: (rpN 5 bT [.g [], .a (eB r_2), bT]))) (x := (B r_2)) [ob (hasG h_law10_D_Of), ob o0, ob (hasG h_equals_Within), ob o1, ob c0, ob c1, ob c1, ob c1, ob c2, ob (hasG h_law10_lives), ob o2, ob c2] (by kernel_rfl) (LeV.refl _)
   ·obtain rfl := someE hf0
    exact awpEnd X0 TTab_ok hC hm hE 4000 (hs := (.g [] :: .a (.tup [.agg [I r_.1.Inputs, I r_.1.Outputs, eSl 1 false F10_ r_.1.Rows], .agg [I r_.2.Inputs, I r_.2.Outputs, eSl 1 false F10_ r_.2.Rows]]) :: .g [] :: .a (.tup [B r_1.1, I r_1.2]) :: (rpN 4 bT [bF, bF]))) (x := (B false)) [ob (hasG h_law10_D_Of), ob o0, ob (hasG h_equals_Within), ob o1, ob c0, ob c1, ob c1, ob c1, ob c2, ob c2] (by kernel_rfl) (LeV.refl _)
  ·obtain rfl := someE hf0
   exact awpEnd X0 TTab_ok hC hm hE 4000 (hs := (.g [] :: .a (.tup [.agg [I r_.1.Inputs, I r_.1.Outputs, eSl 1 false F10_ r_.1.Rows], .agg [I r_.2.Inputs, I r_.2.Outputs, eSl 1 false F10_ r_.2.Rows]]) :: .g [] :: .a (.tup [B r_1.1, I r_1.2]) :: bT :: (rpN 5 bF []))) (x := (B false)) [ob (hasG h_law10_D_Of), ob o0, ob (hasG h_equals_Within), ob o1, ob c0, ob c1, ob c1, ob c1, oF, oF] (by kernel_rfl) (LeV.refl _)
 ·obtain ⟨r_3, h3, hf0⟩ := bindE hf0
  have o3 := hasF h_ref10_Differ (x := (r_.1, r_.2)) h3 (loC F19_ r_.1 <| loC F19_ r_.2 <| loN)
  have o4 := lnM F10_ r_.1.Rows
  have o5 := lnM F10_ r_.2.Rows
  obtain ⟨r_4, h4, hf0⟩ := bindE hf0
  have o6 := hasF h_equals_Within (x := (r_.1, r_.2, w64 ((w64 (((r_.1.Rows.length : Nat) : Int) + ((r_.2.Rows.length : Nat) : Int))) - 1))) h4 (loC F19_ r_.1 <| loC F19_ r_.2 <| loC (eI .i64) (w64 ((w64 (((r_.1.Rows.length : Nat) : Int) + ((r_.2.Rows.length : Nat) : Int))) - 1)) <| loN)
  rcases bifE hf0 with ⟨c3, hf0⟩ | ⟨c3, hf0⟩
  ·rcases bifE hf0 with ⟨c4, hf0⟩ | ⟨c4, hf0⟩
   ·rcases bifE hf0 with ⟨c5, hf0⟩ | ⟨c5, hf0⟩
    ·rcases bifE hf0 with ⟨c6, hf0⟩ | ⟨c6, hf0⟩
     ·rcases bifE hf0 with ⟨c7, hf0⟩ | ⟨c7, hf0⟩
      ·obtain ⟨r_5, h5, hf0⟩ := bindE hf0
       have o7 := hasF h_law10_lives (x := ()) h5 (loN)
       obtain rfl := someE hf0
       exact awpEnd X0 TTab_ok hC hm hE 4000 (hs := (.g [] :: .a (.tup [.agg [I r_.1.Inputs, I r_.1.Outputs, eSl 1 false F10_ r_.1.Rows], .agg [I r_.2.Inputs, I r_.2.Outputs, eSl 1 false F10_ r_.2.Rows]]) :: .g [] :: .a (.tup [B r_1.1, I r_1.2]) :: bF :: .g [] :: .a (.tup [eSl 1 false (eI .i64) r_3.1, B r_3.2]) :: aLn r_.1.Rows.length :: aLn r_.2.Rows.length :: .g [] :: .a (.tup [B r_4.1, I r_4.2]) :: (rpN 21 bT [.g [], .a (eB r_5), bT]))) (x := (B r_5)) (ob (hasG h_law10_D_Of) :: ob o0 :: ob (hasG h_equals_Within) :: ob o1 :: ob c0 :: ob (hasG h_ref10_Differ) :: ob o3 :: ob o4 :: ob o5 :: ob (hasG h_equals_Within) :: ob o6 :: (rpN 4 (ob c3) (rpN 4 (ob c4) (ob c3 :: ob c4 :: ob c3 :: ob c3 :: ob c5 :: ob c5 :: ob c5 :: (rpN 5 (ob c6) [ob c7, ob (hasG h_law10_lives), ob o7, ob c7]))))) (by kernel_rfl) (LeV.refl _)
      ·obtain rfl := someE hf0
       exact awpEnd X0 TTab_ok hC hm hE 4000 (hs := (.g [] :: .a (.tup [.agg [I r_.1.Inputs, I r_.1.Outputs, eSl 1 false F10_ r_.1.Rows], .agg [I r_.2.Inputs, I r_.2.Outputs, eSl 1 false F10_ r_.2.Rows]]) :: .g [] :: .a (.tup [B r_1.1, I r_1.2]) :: bF :: .g [] :: .a (.tup [eSl 1 false (eI .i64) r_3.1, B r_3.2]) :: aLn r_.1.Rows.length :: aLn r_.2.Rows.length :: .g [] :: .a (.tup [B r_4.1, I r_4.2]) :: (rpN 20 bT [bF, bF]))) (x := (B false)) (ob (hasG h_law10_D_Of) :: ob o0 :: ob (hasG h_equals_Within) :: ob o1 :: ob c0 :: ob (hasG h_ref10_Differ) :: ob o3 :: ob o4 :: ob o5 :: ob (hasG h_equals_Within) :: ob o6 :: (rpN 4 (ob c3) (rpN 4 (ob c4) (ob c3 :: ob c4 :: ob c3 :: ob c3 :: ob c5 :: ob c5 :: ob c5 :: (rpN 5 (ob c6) [ob c7, ob c7]))))) (by kernel_rfl) (LeV.refl _)
     ·obtain rfl := someE hf0
      exact awpEnd X0 TTab_ok hC hm hE 4000 (hs := (.g [] :: .a (.tup [.agg [I r_.1.Inputs, I r_.1.Outputs, eSl 1 false F10_ r_.1.Rows], .agg [I r_.2.Inputs, I r_.2.Outputs, eSl 1 false F10_ r_.2.Rows]]) :: .g [] :: .a (.tup [B r_1.1, I r_1.2]) :: bF :: .g [] :: .a (.tup [eSl 1 false (eI .i64) r_3.1, B r_3.2]) :: aLn r_.1.Rows.length :: aLn r_.2.Rows.length :: .g [] :: .a (.tup [B r_4.1, I r_4.2]) :: (rpN 15 bT (rpN 7 bF [])))) (x := (B false)) (ob (hasG h_law10_D_Of) :: ob o0 :: ob (hasG h_equals_Within) :: ob o1 :: ob c0 :: ob (hasG h_ref10_Differ) :: ob o3 :: ob o4 :: ob o5 :: ob (hasG h_equals_Within) :: ob o6 :: (rpN 4 (ob c3) (rpN 4 (ob c4) (ob c3 :: ob c4 :: ob c3 :: ob c3 :: ob c5 :: ob c5 :: ob c5 :: (rpN 5 (ob c6) [oF, oF]))))) (by kernel_rfl) (LeV.refl _)
    ·obtain rfl := someE hf0
     exact awpEnd X0 TTab_ok hC hm hE 4000 (hs := (.g [] :: .a (.tup [.agg [I r_.1.Inputs, I r_.1.Outputs, eSl 1 false F10_ r_.1.Rows], .agg [I r_.2.Inputs, I r_.2.Outputs, eSl 1 false F10_ r_.2.Rows]]) :: .g [] :: .a (.tup [B r_1.1, I r_1.2]) :: bF :: .g [] :: .a (.tup [eSl 1 false (eI .i64) r_3.1, B r_3.2]) :: aLn r_.1.Rows.length :: aLn r_.2.Rows.length :: .g [] :: .a (.tup [B r_4.1, I r_4.2]) :: (rpN 12 bT (rpN 10 bF [])))) (x := (B false)) (ob (hasG h_law10_D_Of) :: ob o0 :: ob (hasG h_equals_Within) :: ob o1 :: ob c0 :: ob (hasG h_ref10_Differ) :: ob o3 :: ob o4 :: ob o5 :: ob (hasG h_equals_Within) :: ob o6 :: (rpN 4 (ob c3) (rpN 4 (ob c4) (ob c3 :: ob c4 :: ob c3 :: ob c3 :: ob c5 :: ob c5 :: ob c5 :: (rpN 7 oF []))))) (by kernel_rfl) (LeV.refl _)
   ·rcases bifE hf0 with ⟨c8, hf0⟩ | ⟨c8, hf0⟩
    ·rcases bifE hf0 with ⟨c9, hf0⟩ | ⟨c9, hf0⟩
     ·rcases bifE hf0 with ⟨c10, hf0⟩ | ⟨c10, hf0⟩
      ·obtain ⟨r_6, h6, hf0⟩ := bindE hf0
       have o8 := hasF h_law10_lives (x := ()) h6 (loN)
       obtain rfl := someE hf0
       exact awpEnd X0 TTab_ok hC hm hE 4000 (hs := (.g [] :: .a (.tup [.agg [I r_.1.Inputs, I r_.1.Outputs, eSl 1 false F10_ r_.1.Rows], .agg [I r_.2.Inputs, I r_.2.Outputs, eSl 1 false F10_ r_.2.Rows]]) :: .g [] :: .a (.tup [B r_1.1, I r_1.2]) :: bF :: .g [] :: .a (.tup [eSl 1 false (eI .i64) r_3.1, B r_3.2]) :: aLn r_.1.Rows.length :: aLn r_.2.Rows.length :: .g [] :: .a (.tup [B r_4.1, I r_4.2]) :: (rpN 4 bT (bF :: bF :: aLn r_3.1.length :: bF :: bF :: bT :: bF :: (rpN 11 bT [.g [], .a (eB r_6), bT]))))) (x := (B r_6)) (ob (hasG h_law10_D_Of) :: ob o0 :: ob (hasG h_equals_Within) :: ob o1 :: ob c0 :: ob (hasG h_ref10_Differ) :: ob o3 :: ob o4 :: ob o5 :: ob (hasG h_equals_Within) :: ob o6 :: (rpN 4 (ob c3) (ob c4 :: ob c4 :: ob (lnM (eI .i64) r_3.1) :: ob c4 :: ob c4 :: ob c3 :: ob c4 :: ob c3 :: ob c3 :: ob c8 :: ob c8 :: ob c8 :: (rpN 5 (ob c9) [ob c10, ob (hasG h_law10_lives), ob o8, ob c10])))) (by kernel_rfl) (LeV.refl _)
      ·obtain rfl := someE hf0
       exact awpEnd X0 TTab_ok hC hm hE 4000 (hs := (.g [] :: .a (.tup [.agg [I r_.1.Inputs, I r_.1.Outputs, eSl 1 false F10_ r_.1.Rows], .agg [I r_.2.Inputs, I r_.2.Outputs, eSl 1 false F10_ r_.2.Rows]]) :: .g [] :: .a (.tup [B r_1.1, I r_1.2]) :: bF :: .g [] :: .a (.tup [eSl 1 false (eI .i64) r_3.1, B r_3.2]) :: aLn r_.1.Rows.length :: aLn r_.2.Rows.length :: .g [] :: .a (.tup [B r_4.1, I r_4.2]) :: (rpN 4 bT (bF :: bF :: aLn r_3.1.length :: bF :: bF :: bT :: bF :: (rpN 10 bT [bF, bF]))))) (x := (B false)) (ob (hasG h_law10_D_Of) :: ob o0 :: ob (hasG h_equals_Within) :: ob o1 :: ob c0 :: ob (hasG h_ref10_Differ) :: ob o3 :: ob o4 :: ob o5 :: ob (hasG h_equals_Within) :: ob o6 :: (rpN 4 (ob c3) (ob c4 :: ob c4 :: ob (lnM (eI .i64) r_3.1) :: ob c4 :: ob c4 :: ob c3 :: ob c4 :: ob c3 :: ob c3 :: ob c8 :: ob c8 :: ob c8 :: (rpN 5 (ob c9) [ob c10, ob c10])))) (by kernel_rfl) (LeV.refl _)
     ·obtain rfl := someE hf0
      exact awpEnd X0 TTab_ok hC hm hE 4000 (hs := (.g [] :: .a (.tup [.agg [I r_.1.Inputs, I r_.1.Outputs, eSl 1 false F10_ r_.1.Rows], .agg [I r_.2.Inputs, I r_.2.Outputs, eSl 1 false F10_ r_.2.Rows]]) :: .g [] :: .a (.tup [B r_1.1, I r_1.2]) :: bF :: .g [] :: .a (.tup [eSl 1 false (eI .i64) r_3.1, B r_3.2]) :: aLn r_.1.Rows.length :: aLn r_.2.Rows.length :: .g [] :: .a (.tup [B r_4.1, I r_4.2]) :: (rpN 4 bT (bF :: bF :: aLn r_3.1.length :: bF :: bF :: bT :: bF :: (rpN 5 bT (rpN 7 bF [])))))) (x := (B false)) (ob (hasG h_law10_D_Of) :: ob o0 :: ob (hasG h_equals_Within) :: ob o1 :: ob c0 :: ob (hasG h_ref10_Differ) :: ob o3 :: ob o4 :: ob o5 :: ob (hasG h_equals_Within) :: ob o6 :: (rpN 4 (ob c3) (ob c4 :: ob c4 :: ob (lnM (eI .i64) r_3.1) :: ob c4 :: ob c4 :: ob c3 :: ob c4 :: ob c3 :: ob c3 :: ob c8 :: ob c8 :: ob c8 :: (rpN 5 (ob c9) [oF, oF])))) (by kernel_rfl) (LeV.refl _)
    ·obtain rfl := someE hf0
     exact awpEnd X0 TTab_ok hC hm hE 4000 (hs := (.g [] :: .a (.tup [.agg [I r_.1.Inputs, I r_.1.Outputs, eSl 1 false F10_ r_.1.Rows], .agg [I r_.2.Inputs, I r_.2.Outputs, eSl 1 false F10_ r_.2.Rows]]) :: .g [] :: .a (.tup [B r_1.1, I r_1.2]) :: bF :: .g [] :: .a (.tup [eSl 1 false (eI .i64) r_3.1, B r_3.2]) :: aLn r_.1.Rows.length :: aLn r_.2.Rows.length :: .g [] :: .a (.tup [B r_4.1, I r_4.2]) :: (rpN 4 bT (bF :: bF :: aLn r_3.1.length :: bF :: bF :: bT :: bF :: bT :: bT :: (rpN 10 bF []))))) (x := (B false)) (ob (hasG h_law10_D_Of) :: ob o0 :: ob (hasG h_equals_Within) :: ob o1 :: ob c0 :: ob (hasG h_ref10_Differ) :: ob o3 :: ob o4 :: ob o5 :: ob (hasG h_equals_Within) :: ob o6 :: (rpN 4 (ob c3) (ob c4 :: ob c4 :: ob (lnM (eI .i64) r_3.1) :: ob c4 :: ob c4 :: ob c3 :: ob c4 :: ob c3 :: ob c3 :: ob c8 :: ob c8 :: ob c8 :: (rpN 7 oF [])))) (by kernel_rfl) (LeV.refl _)
  ·obtain rfl := someE hf0
   exact awpEnd X0 TTab_ok hC hm hE 4000 (hs := (.g [] :: .a (.tup [.agg [I r_.1.Inputs, I r_.1.Outputs, eSl 1 false F10_ r_.1.Rows], .agg [I r_.2.Inputs, I r_.2.Outputs, eSl 1 false F10_ r_.2.Rows]]) :: .g [] :: .a (.tup [B r_1.1, I r_1.2]) :: bF :: .g [] :: .a (.tup [eSl 1 false (eI .i64) r_3.1, B r_3.2]) :: aLn r_.1.Rows.length :: aLn r_.2.Rows.length :: .g [] :: .a (.tup [B r_4.1, I r_4.2]) :: (rpN 17 bF []))) (x := (B false)) (ob (hasG h_law10_D_Of) :: ob o0 :: ob (hasG h_equals_Within) :: ob o1 :: ob c0 :: ob (hasG h_ref10_Differ) :: ob o3 :: ob o4 :: ob o5 :: ob (hasG h_equals_Within) :: ob o6 :: (rpN 7 (ob c3) (rpN 10 oF []))) (by kernel_rfl) (LeV.refl _)
end Go.Own

namespace Go.Own
open Go.Proofs
set_option linter.unusedVariables false
theorem ks_ne {l : List Spec} {s : Spec} (h : ((l.map Spec.k).contains s.k) = false) : ∀ t ∈ l, t.k ≠ s.k := by
  intro t ht e
  have : (l.map Spec.k).contains s.k = true := by
    rw [List.contains_iff_mem, ← e]
    exact List.mem_map_of_mem ht
  rw [h] at this
  cases this
theorem has_at {l : List Spec} {c : Ctr} (H : ∀ t ∈ l, c.Has t) (i : Nat) {s : Spec} (h : l[i]? = some s) : c.Has s := H _ (List.mem_of_getElem? h)
theorem orders : Try.prog.follows .mixedOrders = true := by kernel_rfl
noncomputable def L0 : List Spec := sp_law04_M_Of :: []
noncomputable def L1 : List Spec := sp_ref04_Copy :: L0
noncomputable def L2 : List Spec := sp_ref04_Check :: L1
noncomputable def L3 : List Spec := sp_law10_D_Of :: L2
noncomputable def L4 : List Spec := sp_machines_none :: L3
noncomputable def L5 : List Spec := sp_machines_fits :: L4
noncomputable def L6 : List Spec := sp_machines_Check_1 :: L5
noncomputable def L7 : List Spec := sp_slices_IndexFunc_api_Edge_api_Edge :: L6
noncomputable def L8 : List Spec := sp_slices_ContainsFunc_api_Edge_api_Edge :: L7
noncomputable def L9 : List Spec := sp_machines_Check :: L8
noncomputable def L10 : List Spec := sp_cmp_Or_api_Errno :: L9
noncomputable def L11 : List Spec := sp_equals_both :: L10
noncomputable def L12 : List Spec := sp_equals_meets :: L11
noncomputable def L13 : List Spec := sp_slices_Clip_int_int :: L12
noncomputable def L14 : List Spec := sp_equals_word :: L13
noncomputable def L15 : List Spec := sp_slices_Index_2_int_2_int :: L14
noncomputable def L16 : List Spec := sp_slices_Contains_2_int_2_int :: L15
noncomputable def L17 : List Spec := sp_equals_differ :: L16
noncomputable def L18 : List Spec := sp_equals_Differ :: L17
noncomputable def L19 : List Spec := sp_equals_Within :: L18
noncomputable def L20 : List Spec := sp_law10_edge :: L19
noncomputable def L21 : List Spec := sp_equals_Equal :: L20
noncomputable def L22 : List Spec := sp_cmp_isNaN_int :: L21
noncomputable def L23 : List Spec := sp_cmp_Compare_int :: L22
noncomputable def L24 : List Spec := sp_slices_Compare_int_int :: L23
noncomputable def L25 : List Spec := sp_equals_Relate_1 :: L24
noncomputable def L26 : List Spec := sp_slices_Clip_2_int_2_int :: L25
noncomputable def L27 : List Spec := sp_equals_Relate :: L26
noncomputable def L28 : List Spec := sp_equals_CheckRelation :: L27
noncomputable def L29 : List Spec := sp_ref01_Compare :: L28
noncomputable def L30 : List Spec := sp_ref01_Same :: L29
noncomputable def L31 : List Spec := sp_law10_list :: L30
noncomputable def L32 : List Spec := sp_law10_pairs :: L31
noncomputable def L33 : List Spec := sp_law10_lives :: L32
noncomputable def L34 : List Spec := sp_ref10_Beside :: L33
noncomputable def L35 : List Spec := sp_ref07_apart :: L34
noncomputable def L36 : List Spec := sp_ref07_Marked :: L35
noncomputable def L37 : List Spec := sp_ref10_Differ :: L36
noncomputable def L38 : List Spec := sp_law10_EqualsWithin :: L37
theorem L0_ok : SpecsOk Try.prog L0 := ⟨fun _ hC H => w_law04_M_Of hC orders, ks_ne (by kernel_rfl), trivial⟩
theorem L1_ok : SpecsOk Try.prog L1 := ⟨fun _ hC H => w_ref04_Copy hC orders, ks_ne (by kernel_rfl), L0_ok⟩
theorem L2_ok : SpecsOk Try.prog L2 := ⟨fun _ hC H => w_ref04_Check hC orders, ks_ne (by kernel_rfl), L1_ok⟩
theorem L3_ok : SpecsOk Try.prog L3 := ⟨fun _ hC H => w_law10_D_Of hC orders (has_at H 2 rfl) (has_at H 1 rfl) (has_at H 0 rfl), ks_ne (by kernel_rfl), L2_ok⟩
theorem L4_ok : SpecsOk Try.prog L4 := ⟨fun _ hC H => w_machines_none hC orders, ks_ne (by kernel_rfl), L3_ok⟩
theorem L5_ok : SpecsOk Try.prog L5 := ⟨fun _ hC H => w_machines_fits hC orders (has_at H 0 rfl), ks_ne (by kernel_rfl), L4_ok⟩
theorem L6_ok : SpecsOk Try.prog L6 := ⟨fun _ hC H => w_machines_Check_1 hC orders (has_at H 0 rfl), ks_ne (by kernel_rfl), L5_ok⟩
theorem L7_ok : SpecsOk Try.prog L7 := ⟨fun _ hC H => w_slices_IndexFunc_api_Edge_api_Edge hC orders (has_at H 0 rfl), ks_ne (by kernel_rfl), L6_ok⟩
theorem L8_ok : SpecsOk Try.prog L8 := ⟨fun _ hC H => w_slices_ContainsFunc_api_Edge_api_Edge hC orders (has_at H 0 rfl), ks_ne (by kernel_rfl), L7_ok⟩
theorem L9_ok : SpecsOk Try.prog L9 := ⟨fun _ hC H => w_machines_Check hC orders (has_at H 0 rfl), ks_ne (by kernel_rfl), L8_ok⟩
theorem L10_ok : SpecsOk Try.prog L10 := ⟨fun _ hC H => w_cmp_Or_api_Errno hC orders, ks_ne (by kernel_rfl), L9_ok⟩
theorem L11_ok : SpecsOk Try.prog L11 := ⟨fun _ hC H => w_equals_both hC orders (has_at H 1 rfl) (has_at H 0 rfl), ks_ne (by kernel_rfl), L10_ok⟩
theorem L12_ok : SpecsOk Try.prog L12 := ⟨fun _ hC H => w_equals_meets hC orders, ks_ne (by kernel_rfl), L11_ok⟩
theorem L13_ok : SpecsOk Try.prog L13 := ⟨fun _ hC H => w_slices_Clip_int_int hC orders, ks_ne (by kernel_rfl), L12_ok⟩
theorem L14_ok : SpecsOk Try.prog L14 := ⟨fun _ hC H => w_equals_word hC orders (has_at H 0 rfl), ks_ne (by kernel_rfl), L13_ok⟩
theorem L15_ok : SpecsOk Try.prog L15 := ⟨fun _ hC H => w_slices_Index_2_int_2_int hC orders, ks_ne (by kernel_rfl), L14_ok⟩
theorem L16_ok : SpecsOk Try.prog L16 := ⟨fun _ hC H => w_slices_Contains_2_int_2_int hC orders (has_at H 0 rfl), ks_ne (by kernel_rfl), L15_ok⟩
theorem L17_ok : SpecsOk Try.prog L17 := ⟨fun _ hC H => w_equals_differ hC orders (has_at H 4 rfl) (has_at H 2 rfl) (has_at H 0 rfl), ks_ne (by kernel_rfl), L16_ok⟩
theorem L18_ok : SpecsOk Try.prog L18 := ⟨fun _ hC H => w_equals_Differ hC orders (has_at H 6 rfl) (has_at H 0 rfl), ks_ne (by kernel_rfl), L17_ok⟩
theorem L19_ok : SpecsOk Try.prog L19 := ⟨fun _ hC H => w_equals_Within hC orders (has_at H 0 rfl), ks_ne (by kernel_rfl), L18_ok⟩
theorem L20_ok : SpecsOk Try.prog L20 := ⟨fun _ hC H => w_law10_edge hC orders, ks_ne (by kernel_rfl), L19_ok⟩
theorem L21_ok : SpecsOk Try.prog L21 := ⟨fun _ hC H => w_equals_Equal hC orders (has_at H 2 rfl), ks_ne (by kernel_rfl), L20_ok⟩
theorem L22_ok : SpecsOk Try.prog L22 := ⟨fun _ hC H => w_cmp_isNaN_int hC orders, ks_ne (by kernel_rfl), L21_ok⟩
theorem L23_ok : SpecsOk Try.prog L23 := ⟨fun _ hC H => w_cmp_Compare_int hC orders (has_at H 0 rfl), ks_ne (by kernel_rfl), L22_ok⟩
theorem L24_ok : SpecsOk Try.prog L24 := ⟨fun _ hC H => w_slices_Compare_int_int hC orders (has_at H 0 rfl), ks_ne (by kernel_rfl), L23_ok⟩
theorem L25_ok : SpecsOk Try.prog L25 := ⟨fun _ hC H => w_equals_Relate_1 hC orders (has_at H 0 rfl), ks_ne (by kernel_rfl), L24_ok⟩
theorem L26_ok : SpecsOk Try.prog L26 := ⟨fun _ hC H => w_slices_Clip_2_int_2_int hC orders, ks_ne (by kernel_rfl), L25_ok⟩
theorem L27_ok : SpecsOk Try.prog L27 := ⟨fun _ hC H => w_equals_Relate hC orders (has_at H 15 rfl) (has_at H 9 rfl) (has_at H 1 rfl) (has_at H 0 rfl), ks_ne (by kernel_rfl), L26_ok⟩
theorem L28_ok : SpecsOk Try.prog L28 := ⟨fun _ hC H => w_equals_CheckRelation hC orders (has_at H 16 rfl), ks_ne (by kernel_rfl), L27_ok⟩
theorem L29_ok : SpecsOk Try.prog L29 := ⟨fun _ hC H => w_ref01_Compare hC orders, ks_ne (by kernel_rfl), L28_ok⟩
theorem L30_ok : SpecsOk Try.prog L30 := ⟨fun _ hC H => w_ref01_Same hC orders (has_at H 0 rfl), ks_ne (by kernel_rfl), L29_ok⟩
theorem L31_ok : SpecsOk Try.prog L31 := ⟨fun _ hC H => w_law10_list hC orders (has_at H 0 rfl), ks_ne (by kernel_rfl), L30_ok⟩
theorem L32_ok : SpecsOk Try.prog L32 := ⟨fun _ hC H => w_law10_pairs hC orders, ks_ne (by kernel_rfl), L31_ok⟩
theorem L33_ok : SpecsOk Try.prog L33 := ⟨fun _ hC H => w_law10_lives hC orders (has_at H 12 rfl) (has_at H 14 rfl) (has_at H 11 rfl) (has_at H 5 rfl) (has_at H 13 rfl) (has_at H 4 rfl) (has_at H 1 rfl) (has_at H 0 rfl), ks_ne (by kernel_rfl), L32_ok⟩
theorem L34_ok : SpecsOk Try.prog L34 := ⟨fun _ hC H => w_ref10_Beside hC orders, ks_ne (by kernel_rfl), L33_ok⟩
theorem L35_ok : SpecsOk Try.prog L35 := ⟨fun _ hC H => w_ref07_apart hC orders, ks_ne (by kernel_rfl), L34_ok⟩
theorem L36_ok : SpecsOk Try.prog L36 := ⟨fun _ hC H => w_ref07_Marked hC orders (has_at H 0 rfl), ks_ne (by kernel_rfl), L35_ok⟩
theorem L37_ok : SpecsOk Try.prog L37 := ⟨fun _ hC H => w_ref10_Differ hC orders (has_at H 2 rfl) (has_at H 0 rfl), ks_ne (by kernel_rfl), L36_ok⟩
theorem L38_ok : SpecsOk Try.prog L38 := ⟨fun _ hC H => w_law10_EqualsWithin hC orders (has_at H 34 rfl) (has_at H 18 rfl) (has_at H 4 rfl) (has_at H 0 rfl), ks_ne (by kernel_rfl), L37_ok⟩
end Go.Own

namespace Go.Own
set_option linter.unusedVariables false
theorem w64_in {x : Int} (h1 : -9223372036854775808 ≤ x) (h2 : x ≤ 9223372036854775807) : w64 x = x := by
  simp only [w64, IntKind.wrap, IntKind.bits, IntKind.signed]
  simp
  omega
section
variable {α β σ τ ρ : Type}
def Ret (x : Option α) (Q : α → Prop) : Prop := ∃ a, x = some a ∧ Q a
theorem Ret.mono {x : Option α} {Q R : α → Prop} (h : Ret x Q) (q : ∀ a, Q a → R a) : Ret x R := by
  obtain ⟨a, e, h⟩ := h
  exact ⟨a, e, q a h⟩
theorem Ret.eq {x : Option α} {a : α} (h : Ret x fun b => b = a) : x = some a := by
  obtain ⟨b, e, rfl⟩ := h
  exact e
theorem ret_some {a : α} {Q : α → Prop} : Ret (some a) Q ↔ Q a := ⟨fun ⟨b, e, q⟩ => by cases e; exact q, fun q => ⟨a, rfl, q⟩⟩
theorem ret_bind {x : Option α} {f : α → Option β} {Q : β → Prop} : Ret (Option.bind x f) Q ↔ Ret x fun a => Ret (f a) Q := by
  cases x with
  | none => exact ⟨fun ⟨b, e, _⟩ => (by cases e), fun ⟨b, e, _⟩ => (by cases e)⟩
  | some a => exact ⟨fun h => ⟨a, rfl, h⟩, fun ⟨b, e, h⟩ => by cases e; exact h⟩
theorem ret_gd {p : Prop} [Decidable p] {x : Option α} {Q : α → Prop} : Ret (gd p x) Q ↔ p ∧ Ret x Q := by
  unfold gd
  by_cases h : p
  · rw [if_pos h]; exact ⟨fun q => ⟨h, q⟩, fun q => q.2⟩
  · rw [if_neg h]; exact ⟨fun ⟨b, e, _⟩ => by (cases e), fun q => (h q.1).elim⟩
theorem ret_bif {c : Bool} {x y : Option α} {Q : α → Prop} : Ret (bif c then x else y) Q ↔ (c = true → Ret x Q) ∧ (c = false → Ret y Q) := by
  cases c <;> simp
theorem ret_idx {l : List α} {i : Int} {Q : α → Prop} : Ret (idx l i) Q ↔ 0 ≤ i ∧ ∃ x, l[i.toNat]? = some x ∧ Q x := by
  cases i with
  | ofNat n =>
    show (∃ a, l[n]? = some a ∧ Q a) ↔ _
    simp
  | negSucc n => exact ⟨fun ⟨b, e, _⟩ => by (cases e), fun ⟨h, _⟩ => by omega⟩
theorem idx_nat (l : List α) (i : Nat) : idx l (i : Int) = l[i]? := rfl
theorem gdT {p : Prop} [Decidable p] {x : Option α} (h : p) : gd p x = x := by unfold gd; rw [if_pos h]
theorem bdT {x : Option α} {u : α} {f : α → Option ρ} (h : x = some u) : Option.bind x f = f u := by rw [h]; rfl
theorem loopN_succ (step : σ → Option (LR σ τ)) (n : Nat) (s : σ) : loopN step (n + 1) s = (match step s with | none => none | some (.next s') => loopN step n s' | some (.done t) => some t) := rfl
def LRP (N : σ → Prop) (D : τ → Prop) : LR σ τ → Prop
  | .next s => N s
  | .done t => D t
theorem ret_loop {step : σ → Option (LR σ τ)} (I : σ → Prop) (m : σ → Nat) {R : τ → Prop} {s : σ} (hs : I s) (hm : m s < 18446744073709551616)
    (h : ∀ s, I s → Ret (step s) (LRP (fun s' => I s' ∧ m s' < m s) R)) : Ret (loop step s) R := by
  have gen : ∀ (n : Nat) (s : σ), I s → m s < n → Ret (loopN step n s) R := by
    intro n
    induction n with
    | zero => intro s _ h; omega
    | succ n ih =>
      intro s hs hm
      obtain ⟨a, e, q⟩ := h s hs
      rw [loopN_succ, e]
      cases a with
      | next s' => exact ih s' q.1 (by have := q.2; omega)
      | done t => exact ⟨t, rfl, q⟩
  exact gen fuel s hs hm
theorem loop_seq {step : σ → Option (LR σ τ)} (st : Nat → σ) (n : Nat) {t : τ} (hn : n < 9223372036854775808) (h : ∀ i, i < n → step (st i) = some (.next (st (i + 1)))) (hd : step (st n) = some (.done t)) : loop step (st 0) = some t := by
  have gen : ∀ (k : Nat) (i : Nat), i ≤ n → n - i < k → loopN step k (st i) = some t := by
    intro k
    induction k with
    | zero => intro i _ h; omega
    | succ k ih =>
      intro i hi hk
      rw [loopN_succ]
      rcases Nat.lt_or_ge i n with q | q
      · rw [h i q]
        exact ih (i + 1) q (by omega)
      · have : i = n := by omega
        subst this
        rw [hd]
  exact gen fuel 0 (Nat.zero_le _) (by show n - 0 < 18446744073709551616; omega)
def firstS (f : Nat → α → Option ρ) : List α → Nat → Option ρ
  | [], _ => none
  | x :: l, i => match f i x with | some r => some r | none => firstS f l (i + 1)
theorem firstS_none {f : Nat → α → Option ρ} : ∀ {l : List α} {k : Nat}, (∀ i x, l[i]? = some x → f (k + i) x = none) → firstS f l k = none
  | [], _, _ => rfl
  | x :: l, k, h => by
    have h0 := h 0 x rfl
    simp only [Nat.add_zero] at h0
    simp only [firstS, h0]
    exact firstS_none fun i y hy => by have := h (i + 1) y (by simpa using hy); rwa [show k + 1 + i = k + (i + 1) by omega]
theorem firstS_some {f : Nat → α → Option ρ} {r : ρ} : ∀ {l : List α} {k : Nat}, firstS f l k = some r → ∃ i x, l[i]? = some x ∧ f (k + i) x = some r
  | [], _, h => by cases h
  | x :: l, k, h => by
    simp only [firstS] at h
    cases hf : f k x with
    | some r' => rw [hf] at h; exact ⟨0, x, rfl, by rw [Nat.add_zero, hf]; exact h⟩
    | none =>
      rw [hf] at h
      obtain ⟨i, y, h1, h2⟩ := firstS_some h
      exact ⟨i + 1, y, by simpa using h1, by rw [← h2]; congr 1; omega⟩
theorem firstS_isNone {f : Nat → α → Option ρ} {l : List α} {k : Nat} (h : firstS f l k = none) : ∀ i x, l[i]? = some x → f (k + i) x = none := by
  induction l generalizing k with
  | nil => intro i x h; simp at h
  | cons y l ih =>
    intro i x hx
    simp only [firstS] at h
    cases hf : f k y with
    | some r' => rw [hf] at h; cases h
    | none =>
      rw [hf] at h
      cases i with
      | zero => simp at hx; subst hx; simpa using hf
      | succ i => have := ih h i x (by simpa using hx); rwa [show k + (i + 1) = k + 1 + i by omega]
def oS : Option ρ → Unit ⊕ ρ
  | some r => .inr r
  | none => .inl ()
def nS (i : Nat) : Option ρ → LR Int (Unit ⊕ ρ)
  | some r => .done (.inr r)
  | none => .next (w64 ((i : Int) + 1))
theorem loop_list (l : List α) (hl : l.length < 4611686018427387904) {step : Int → Option (LR Int (Unit ⊕ ρ))} (f : Nat → α → Option ρ)
    (h : ∀ (i : Nat) (x : α), l[i]? = some x → step (i : Int) = some (nS i (f i x))) (h2 : step (l.length : Int) = some (.done (.inl ()))) :
    loop step 0 = some (oS (firstS f l 0)) := by
  have gen : ∀ (n : Nat) (k : Nat), k ≤ l.length → l.length - k < n → loopN step n (k : Int) = some (oS (firstS f (l.drop k) k)) := by
    intro n
    induction n with
    | zero => intro k _ h; omega
    | succ n ih =>
      intro k hk hn
      rw [loopN_succ]
      rcases Nat.lt_or_ge k l.length with hlt | hge
      · have hx : l[k]? = some l[k] := List.getElem?_eq_getElem hlt
        rw [h k _ hx, List.drop_eq_getElem_cons hlt]
        simp only [firstS]
        cases hf : f k l[k] with
        | some r => rfl
        | none =>
          simp only [nS]
          rw [w64_in (by omega) (by omega)]
          exact ih (k + 1) hlt (by omega)
      · have : k = l.length := by omega
        subst this
        rw [h2, List.drop_length]
        rfl
  exact gen fuel 0 (Nat.zero_le _) (by show l.length - 0 < 18446744073709551616; omega)
end
end Go.Own

namespace Go.Own
set_option linter.unusedVariables false
def fitB (m : S_api_Machine) (x : S_api_Edge) : Bool := (x.To == -1 && x.Out == -1) || (decide (0 ≤ x.To) && decide (x.To < (m.Rows.length : Int)) && decide (0 ≤ x.Out) && decide (x.Out < m.Outputs))
def rowB (m : S_api_Machine) (r : List S_api_Edge) : Bool := decide ((r.length : Int) = m.Inputs) && r.all (fitB m)
def chk (m : S_api_Machine) : Int :=
  if m.Inputs > 16 ∨ m.Outputs > 16 ∨ (m.Rows.length : Int) > 64 then 3 else if m.Inputs < 1 ∨ m.Outputs < 1 ∨ m.Rows.length = 0 then 1 else if m.Rows.all (rowB m) = true then 0 else 1
theorem fits_eq (m : S_api_Machine) (x : S_api_Edge) : machines_fits m x = some (fitB m x) := by
  unfold machines_fits machines_none
  simp only [Option.bind_some, Bool.and_true]
  rcases Bool.eq_false_or_eq_true (x.To == (-1) && x.Out == (-1)) with h | h
  · simp [fitB, h]
  · rw [h]
    simp only [fitB, h, Bool.false_or, cond_false]
    by_cases h1 : (0 : Int) ≤ x.To
    · by_cases h2 : x.To < (m.Rows.length : Int)
      · by_cases h3 : (0 : Int) ≤ x.Out
        · simp [Bool.cond_eq_ite, h1, h2, h3]
        · simp [Bool.cond_eq_ite, h1, h2, h3]
      · simp [Bool.cond_eq_ite, h1, h2]
    · simp [h1]
theorem contains_eq (m : S_api_Machine) (r : List S_api_Edge) (hl : r.length < 4611686018427387904) : slices_ContainsFunc_api_Edge_api_Edge r m = some (!r.all (fitB m)) := by
  have hloop : loop (fun s => slices_IndexFunc_api_Edge_api_Edge_L2 r m s) 0 = some (oS (firstS (fun i x => if fitB m x = true then none else some (i : Int)) r 0)) := by
    refine loop_list r hl _ ?_ ?_
    · intro i x hx
      have hi := (List.getElem?_eq_some_iff.1 hx).1
      unfold slices_IndexFunc_api_Edge_api_Edge_L2
      have hd : decide ((i : Int) < ((r.length : Nat) : Int)) = true := by simpa using hi
      rw [hd, cond_true, idx_nat, bdT hx]
      unfold machines_Check_1
      simp only [fits_eq, Option.bind_some]
      cases fitB m x <;> rfl
    · unfold slices_IndexFunc_api_Edge_api_Edge_L2
      simp
  unfold slices_ContainsFunc_api_Edge_api_Edge slices_IndexFunc_api_Edge_api_Edge
  rw [hloop]
  simp only [Option.bind_some]
  cases hf : firstS (fun i x => if fitB m x = true then none else some (i : Int)) r 0 with
  | some q =>
    obtain ⟨i, x, h1, h2⟩ := firstS_some hf
    have hx : fitB m x ≠ true := by
      intro h; rw [if_pos h] at h2; cases h2
    rw [if_neg hx] at h2
    simp only [Option.some.injEq] at h2
    have : r.all (fitB m) = false := by
      rw [List.all_eq_false]
      exact ⟨x, List.mem_of_getElem? h1, hx⟩
    rw [this]
    have : (q : Int) ≥ 0 := by rw [← h2]; omega
    show some (decide (q ≥ 0)) = _
    simp [this]
  | none =>
    have : r.all (fitB m) = true := by
      rw [List.all_eq_true]
      intro x hx
      obtain ⟨i, hi⟩ := List.getElem?_of_mem hx
      have := firstS_isNone hf i x hi
      by_cases h : fitB m x = true
      · exact h
      · rw [if_neg h] at this; cases this
    rw [this]
    rfl
theorem check_rows {m : S_api_Machine} (h0 : (m.Rows.length : Int) ≤ 64) (h1 : m.Inputs ≤ 16) : loop (fun s => machines_Check_L2 m s) 0 = some (oS (firstS (fun _ r => if rowB m r = true then none else some (1 : Int)) m.Rows 0)) := by
  refine loop_list m.Rows (by omega) _ ?_ ?_
  · intro i r hr
    have hi := (List.getElem?_eq_some_iff.1 hr).1
    unfold machines_Check_L2
    have hd : decide ((i : Int) < ((m.Rows.length : Nat) : Int)) = true := by simpa using hi
    rw [hd, cond_true, idx_nat, bdT hr]
    by_cases hlen : (r.length : Int) = m.Inputs
    · have hne : (((r.length : Nat) : Int) != m.Inputs) = false := by simpa using hlen
      rw [hne, cond_false, bdT (contains_eq m r (by omega))]
      have : rowB m r = r.all (fitB m) := by simp [rowB, hlen]
      rw [this]
      cases r.all (fitB m) <;> rfl
    · have hne : (((r.length : Nat) : Int) != m.Inputs) = true := by simpa using hlen
      rw [hne, cond_true]
      have : rowB m r = false := by simp [rowB, hlen]
      rw [this]; rfl
  · unfold machines_Check_L2
    simp
theorem rows_first (m : S_api_Machine) : firstS (fun _ r => if rowB m r = true then none else some (1 : Int)) m.Rows 0 = if m.Rows.all (rowB m) = true then none else some 1 := by
  by_cases h : m.Rows.all (rowB m) = true
  · rw [if_pos h]
    refine firstS_none fun i r hr => ?_
    rw [if_pos (List.all_eq_true.1 h r (List.mem_of_getElem? hr))]
  · rw [if_neg h]
    cases hf : firstS (fun _ r => if rowB m r = true then none else some (1 : Int)) m.Rows 0 with
    | some q =>
      obtain ⟨i, x, h1, h2⟩ := firstS_some hf
      split at h2
      · cases h2
      · exact h2.symm ▸ rfl
    | none =>
      exfalso
      apply h
      rw [List.all_eq_true]
      intro x hx
      obtain ⟨i, hi⟩ := List.getElem?_of_mem hx
      have := firstS_isNone hf i x hi
      by_cases h : rowB m x = true
      · exact h
      · rw [if_neg h] at this; cases this
theorem check_eq (m : S_api_Machine) : machines_Check m = some (chk m) := by
  unfold machines_Check chk
  by_cases h1 : m.Inputs > 16
  · simp [h1]
  by_cases h2 : m.Outputs > 16
  · simp [Bool.cond_eq_ite, h1, h2]
  by_cases h3 : (m.Rows.length : Int) > 64
  · simp [Bool.cond_eq_ite, h1, h2, h3]
  rw [if_neg (by simp [Bool.cond_eq_ite, h1, h2, h3])]
  by_cases h4 : m.Inputs < 1
  · simp [Bool.cond_eq_ite, h1, h2, h3, h4]
  by_cases h5 : m.Outputs < 1
  · simp [Bool.cond_eq_ite, h1, h2, h3, h4, h5]
  by_cases h6 : m.Rows.length = 0
  · simp [Bool.cond_eq_ite, h1, h2, h4, h5, h6]
  rw [if_neg (by simp [h4, h5, h6])]
  have h6' : decide (((m.Rows.length : Nat) : Int) < 1) = false := by simp; omega
  have e1 : decide (m.Inputs > 16) = false := by simpa using h1
  have e2 : decide (m.Outputs > 16) = false := by simpa using h2
  have e3 : decide (((m.Rows.length : Nat) : Int) > 64) = false := by simpa using h3
  have e4 : decide (m.Inputs < 1) = false := by simpa using h4
  have e5 : decide (m.Outputs < 1) = false := by simpa using h5
  simp only [e1, e2, e3, e4, e5, h6', cond_false]
  rw [bdT (check_rows (by omega) (by omega)), rows_first]
  by_cases h : m.Rows.all (rowB m) = true
  · rw [if_pos h, if_pos h]; rfl
  · rw [if_neg h, if_neg h]; rfl
theorem ref_edges {m : S_api_Machine} {s : Nat} {r : List S_api_Edge} (hr : m.Rows[s]? = some r) (hlen : (r.length : Int) = m.Inputs) (h1 : m.Inputs ≤ 16) : loop (fun q => ref04_Check_L4 m (s : Int) q) 0 = some (if r.all (fitB m) = true then .inl () else .inr 1) := by
  have hl : loop (fun q => ref04_Check_L4 m (s : Int) q) 0 = some (oS (firstS (fun _ x => if fitB m x = true then none else some (1 : Int)) r 0)) := by
    refine loop_list r (by omega) _ ?_ ?_
    · intro i x hx
      have hi := (List.getElem?_eq_some_iff.1 hx).1
      unfold ref04_Check_L4
      have hd : decide ((i : Int) < m.Inputs) = true := by rw [← hlen]; simpa using hi
      rw [hd, cond_true, idx_nat, bdT hr, idx_nat, bdT hx]
      unfold ref04_Check_J6 ref04_Check_J5 fitB
      by_cases a1 : x.To = -1
      · by_cases a2 : x.Out = -1
        · simp [nS, Bool.cond_eq_ite, a1, a2]
        · simp [nS, Bool.cond_eq_ite, a1, a2]
      · by_cases a2 : x.To < 0
        · have : ¬ 0 ≤ x.To := by omega
          simp [nS, Bool.cond_eq_ite, a1, a2, this]
        · by_cases a3 : (m.Rows.length : Int) ≤ x.To
          · have : ¬ x.To < (m.Rows.length : Int) := by omega
            simp [nS, Bool.cond_eq_ite, a1, a2, a3, this]
          · by_cases a4 : x.Out < 0
            · have : ¬ 0 ≤ x.Out := by omega
              simp [nS, Bool.cond_eq_ite, a1, a2, a3, a4, this]
            · by_cases a5 : m.Outputs ≤ x.Out
              · have : ¬ x.Out < m.Outputs := by omega
                simp [nS, Bool.cond_eq_ite, a1, a2, a3, a4, a5, this]
              · have b1 : 0 ≤ x.To := by omega
                have b2 : x.To < (m.Rows.length : Int) := by omega
                have b3 : 0 ≤ x.Out := by omega
                have b4 : x.Out < m.Outputs := by omega
                simp [nS, Bool.cond_eq_ite, a1, a2, a3, a4, a5, b1, b2, b3, b4]
    · unfold ref04_Check_L4
      simp [hlen]
  rw [hl]
  by_cases h : r.all (fitB m) = true
  · rw [if_pos h]
    rw [firstS_none fun i x hx => by rw [if_pos (List.all_eq_true.1 h x (List.mem_of_getElem? hx))]]
    rfl
  · rw [if_neg h]
    cases hf : firstS (fun _ x => if fitB m x = true then none else some (1 : Int)) r 0 with
    | some q =>
      obtain ⟨i, x, h1, h2⟩ := firstS_some hf
      split at h2
      · cases h2
      · simp only [Option.some.injEq] at h2; rw [← h2]; rfl
    | none =>
      exfalso
      apply h
      rw [List.all_eq_true]
      intro x hx
      obtain ⟨i, hi⟩ := List.getElem?_of_mem hx
      have := firstS_isNone hf i x hi
      by_cases h : fitB m x = true
      · exact h
      · rw [if_neg h] at this; cases this
theorem ref_check (m : S_api_Machine) : ref04_Check m = some (chk m) := by
  unfold ref04_Check chk
  by_cases h1 : m.Inputs > 16
  · simp [h1]
  by_cases h2 : m.Outputs > 16
  · simp [Bool.cond_eq_ite, h1, h2]
  by_cases h3 : (m.Rows.length : Int) > 64
  · simp [Bool.cond_eq_ite, h1, h2, h3]
  rw [if_neg (by simp [Bool.cond_eq_ite, h1, h2, h3])]
  by_cases h4 : m.Inputs < 1
  · simp [Bool.cond_eq_ite, h1, h2, h3, h4]
  by_cases h5 : m.Outputs < 1
  · simp [Bool.cond_eq_ite, h1, h2, h3, h4, h5]
  by_cases h6 : m.Rows.length = 0
  · simp [Bool.cond_eq_ite, h1, h2, h4, h5, h6]
  rw [if_neg (by simp [h4, h5, h6])]
  have e1 : decide (m.Inputs > 16) = false := by simpa using h1
  have e2 : decide (m.Outputs > 16) = false := by simpa using h2
  have e3 : decide (((m.Rows.length : Nat) : Int) > 64) = false := by simpa using h3
  have e4 : decide (m.Inputs < 1) = false := by simpa using h4
  have e5 : decide (m.Outputs < 1) = false := by simpa using h5
  have e6 : (((m.Rows.length : Nat) : Int) == 0) = false := by simp; intro h; rw [h] at h6; exact h6 rfl
  simp only [e1, e2, e3, e4, e5, e6, cond_false]
  have hl : loop (fun s => ref04_Check_L2 m s) 0 = some (oS (firstS (fun _ r => if rowB m r = true then none else some (1 : Int)) m.Rows 0)) := by
    refine loop_list m.Rows (by omega) _ ?_ ?_
    · intro i r hr
      have hi := (List.getElem?_eq_some_iff.1 hr).1
      unfold ref04_Check_L2
      have hd : decide ((i : Int) < ((m.Rows.length : Nat) : Int)) = true := by simpa using hi
      rw [hd, cond_true, idx_nat, bdT hr]
      by_cases hlen : (r.length : Int) = m.Inputs
      · have hne : (((r.length : Nat) : Int) != m.Inputs) = false := by simpa using hlen
        rw [hne, cond_false, bdT (ref_edges hr hlen (by omega))]
        have : rowB m r = r.all (fitB m) := by simp [rowB, hlen]
        rw [this]
        cases r.all (fitB m) <;> rfl
      · have hne : (((r.length : Nat) : Int) != m.Inputs) = true := by simpa using hlen
        rw [hne, cond_true]
        have : rowB m r = false := by simp [rowB, hlen]
        rw [this]; rfl
    · unfold ref04_Check_L2
      simp
  rw [bdT hl, rows_first]
  by_cases h : m.Rows.all (rowB m) = true
  · rw [if_pos h, if_pos h]; rfl
  · rw [if_neg h, if_neg h]; rfl
end Go.Own

namespace Go.Own
set_option linter.unusedVariables false
structure VM (m : S_api_Machine) : Prop where
  in1 : 1 ≤ m.Inputs
  in16 : m.Inputs ≤ 16
  out1 : 1 ≤ m.Outputs
  out16 : m.Outputs ≤ 16
  len1 : 1 ≤ m.Rows.length
  len64 : m.Rows.length ≤ 64
  row : ∀ r ∈ m.Rows, (r.length : Int) = m.Inputs
  edge : ∀ r ∈ m.Rows, ∀ x ∈ r, (x.To = -1 ∧ x.Out = -1) ∨ (0 ≤ x.To ∧ x.To < (m.Rows.length : Int) ∧ 0 ≤ x.Out ∧ x.Out < m.Outputs)
theorem vm_of {m : S_api_Machine} (h : chk m = 0) : VM m := by
  unfold chk at h
  split at h
  · cases h
  split at h
  · cases h
  split at h
  · rename_i h1 h2 h3
    rw [List.all_eq_true] at h3
    refine ⟨by omega, by omega, by omega, by omega, by omega, by omega, fun r hr => ?_, fun r hr x hx => ?_⟩
    · have := h3 r hr
      simp only [rowB, Bool.and_eq_true, decide_eq_true_eq] at this
      exact this.1
    · have := h3 r hr
      simp only [rowB, Bool.and_eq_true, decide_eq_true_eq, List.all_eq_true] at this
      have := this.2 x hx
      simp only [fitB, Bool.or_eq_true, Bool.and_eq_true, beq_iff_eq, decide_eq_true_eq] at this
      rcases this with ⟨a, b⟩ | ⟨⟨⟨a, b⟩, c⟩, d⟩
      · exact .inl ⟨a, b⟩
      · exact .inr ⟨a, b, c, d⟩
  · cases h
theorem chk_of {m : S_api_Machine} (h : VM m) : chk m = 0 := by
  unfold chk
  have := h.in1; have := h.in16; have := h.out1; have := h.out16; have := h.len1; have := h.len64
  rw [if_neg (by omega), if_neg (by omega), if_pos]
  rw [List.all_eq_true]
  intro r hr
  simp only [rowB, Bool.and_eq_true, decide_eq_true_eq, List.all_eq_true]
  refine ⟨h.row r hr, fun x hx => ?_⟩
  simp only [fitB, Bool.or_eq_true, Bool.and_eq_true, beq_iff_eq, decide_eq_true_eq]
  rcases h.edge r hr x hx with ⟨a, b⟩ | ⟨a, b, c, d⟩
  · exact .inl ⟨a, b⟩
  · exact .inr ⟨⟨⟨a, b⟩, c⟩, d⟩
def kk (m : S_api_Machine) : Nat := m.Inputs.toNat
def E (m : S_api_Machine) (s i : Nat) : S_api_Edge := ((m.Rows[s]?.getD [])[i]?).getD ⟨-1, -1⟩
section
variable {m : S_api_Machine} (h : VM m)
include h
theorem VM.kk_eq : ((kk m : Nat) : Int) = m.Inputs := by have := h.in1; unfold kk; omega
theorem VM.kk_le : kk m ≤ 16 := by have := h.in16; unfold kk; omega
theorem VM.rowAt {s : Nat} (hs : s < m.Rows.length) : ∃ r, m.Rows[s]? = some r ∧ r.length = kk m ∧ ∀ i, i < kk m → r[i]? = some (E m s i) := by
  have hr := List.getElem?_eq_getElem hs
  have hl := h.row _ (List.getElem_mem hs)
  have hl' : m.Rows[s].length = kk m := by unfold kk; omega
  refine ⟨_, hr, hl', fun i hi => ?_⟩
  have hi' : i < m.Rows[s].length := by omega
  unfold E
  rw [hr]
  simp only [Option.getD_some]
  rw [List.getElem?_eq_getElem hi']
  rfl
theorem VM.edgeAt {s i : Nat} (hs : s < m.Rows.length) (hi : i < kk m) : ((E m s i).To = -1 ∧ (E m s i).Out = -1) ∨ (0 ≤ (E m s i).To ∧ (E m s i).To < (m.Rows.length : Int) ∧ 0 ≤ (E m s i).Out ∧ (E m s i).Out < m.Outputs) := by
  obtain ⟨r, h1, _, h2⟩ := h.rowAt hs
  exact h.edge r (List.mem_of_getElem? h1) _ (List.mem_of_getElem? (h2 i hi))
theorem VM.edge_eq {s i : Nat} (hs : s < m.Rows.length) (hi : i < kk m) {β : Type} {f : S_api_Edge → Option β} :
    (Option.bind (idx m.Rows (s : Int)) fun r => Option.bind (idx r (i : Int)) f) = f (E m s i) := by
  obtain ⟨r, h1, _, h2⟩ := h.rowAt hs
  rw [idx_nat, h1, Option.bind_some, idx_nat, h2 i hi, Option.bind_some]
end
section
variable {K V : Type} [BEq K] [LawfulBEq K]
theorem mget_set (l : List (K × V)) (x y : K) (v : V) : mget (mset l x v) y = if (x == y) = true then some v else mget l y := by
  induction l with
  | nil => simp only [mset, mget]
  | cons p l ih =>
    simp only [mset]
    by_cases h : p.1 = x
    · rw [if_pos (by simpa using h)]
      simp only [mget]
      by_cases q : x = y
      · rw [if_pos (by simpa using q), if_pos (by simpa using q)]
      · rw [if_neg (by simpa using q), if_neg (by simpa using q), if_neg (by rw [h]; simpa using q)]
    · rw [if_neg (by simpa using h)]
      simp only [mget, ih]
      by_cases q : p.1 = y
      · have q' : ¬ x = y := by rintro rfl; exact h q
        have e1 : (p.1 == y) = true := by simpa using q
        have e2 : (x == y) = false := by simpa using q'
        simp [e1, e2]
      · have e1 : (p.1 == y) = false := by simpa using q
        simp [e1]
end
instance : LawfulBEq (Arr2 Int) := {
  eq_of_beq := by
    intro a b h
    obtain ⟨a0, a1⟩ := a
    obtain ⟨b0, b1⟩ := b
    simp only [BEq.beq, Bool.and_eq_true, decide_eq_true_eq] at h
    rw [h.1, h.2]
  rfl := by
    intro a
    obtain ⟨a0, a1⟩ := a
    simp [BEq.beq] }
end Go.Own

namespace Go.Own
set_option linter.unusedVariables false
section
variable {S : Type}
def rv (k : Nat) : List Nat → Nat
  | [] => 0
  | i :: u => rv k u * k + i + 1
def PathR (k : Nat) (bad : S → Nat → Bool) (nx : S → Nat → Option S) (p0 : S) : List Nat → S → Prop
  | [], q => q = p0
  | i :: u, q => ∃ p, PathR k bad nx p0 u p ∧ i < k ∧ bad p i = false ∧ nx p i = some q
def TellR (k : Nat) (bad : S → Nat → Bool) (nx : S → Nat → Option S) (p0 : S) : List Nat → Prop
  | [] => False
  | i :: u => ∃ p, PathR k bad nx p0 u p ∧ i < k ∧ bad p i = true
def TellF (k : Nat) (bad : S → Nat → Bool) (nx : S → Nat → Option S) : S → List Nat → Prop
  | _, [] => False
  | p, [i] => i < k ∧ bad p i = true
  | p, i :: w => i < k ∧ bad p i = false ∧ ∃ q, nx p i = some q ∧ TellF k bad nx q w
structure Bfs (k : Nat) (bad : S → Nat → Bool) (nx : S → Nat → Option S) (p0 : S) (L : List (S × List Nat)) (at_ i : Nat) : Prop where
  first : L[0]? = some (p0, [])
  mono : ∀ (j j' : Nat) (a b : S × List Nat), j < j' → L[j]? = some a → L[j']? = some b → rv k a.2 < rv k b.2
  path : ∀ a ∈ L, PathR k bad nx p0 a.2 a.1
  ahead : ∀ a c, L[at_]? = some c → a ∈ L → rv k a.2 < rv k c.2 * k + i + 1
  pos : i ≤ k
  lies : at_ ≤ L.length
  fin : at_ = L.length → i = 0
  short : ∀ (j : Nat) (a : S × List Nat), L[j]? = some a → a.2.length ≤ j
  seen : ∀ (j x : Nat) (a : S × List Nat), L[j]? = some a → x < k → (j < at_ ∨ j = at_ ∧ x < i) → bad a.1 x = false ∧ ∀ q, nx a.1 x = some q → ∃ b ∈ L, b.1 = q ∧ rv k b.2 ≤ rv k a.2 * k + x + 1
variable {k : Nat} {bad : S → Nat → Bool} {nx : S → Nat → Option S} {p0 : S}
theorem Bfs.start : Bfs k bad nx p0 [(p0, [])] 0 0 := {
  first := rfl
  mono := by
    intro j j' a b h h1 h2
    have := (List.getElem?_eq_some_iff.1 h2).1
    simp at this
    omega
  path := by intro a ha; simp at ha; subst ha; rfl
  ahead := by intro a c _ ha; simp at ha; subst ha; simp [rv]
  pos := Nat.zero_le _
  lies := by simp
  fin := by intro; rfl
  short := by
    intro j a h
    have := (List.getElem?_eq_some_iff.1 h).1
    simp at this
    subst this
    simp at h
    subst h
    simp
  seen := by rintro j x a h _ (q | ⟨_, q⟩) <;> omega }
theorem Bfs.old {L : List (S × List Nat)} {a i : Nat} (h : Bfs k bad nx p0 L a i) {c : S × List Nat} (hc : L[a]? = some c) (hi : i < k) (hb : bad c.1 i = false)
    (hn : ∀ q, nx c.1 i = some q → ∃ b ∈ L, b.1 = q) : Bfs k bad nx p0 L a (i + 1) := {
  first := h.first
  mono := h.mono
  path := h.path
  ahead := fun x y hy hx => by have := h.ahead x y hy hx; omega
  pos := hi
  lies := h.lies
  fin := fun e => by have := (List.getElem?_eq_some_iff.1 hc).1; omega
  short := h.short
  seen := by
    intro j x y hy hx q
    by_cases e : j = a ∧ x = i
    · obtain ⟨rfl, rfl⟩ := e
      rw [hc] at hy
      cases hy
      refine ⟨hb, fun q hq => ?_⟩
      obtain ⟨b, h1, h2⟩ := hn q hq
      exact ⟨b, h1, h2, by have := h.ahead b c hc h1; omega⟩
    · exact h.seen j x y hy hx (by omega) }
theorem Bfs.new {L : List (S × List Nat)} {a i : Nat} (h : Bfs k bad nx p0 L a i) {c : S × List Nat} (hc : L[a]? = some c) (hi : i < k) (hb : bad c.1 i = false) {q : S}
    (hn : nx c.1 i = some q) : Bfs k bad nx p0 (L ++ [(q, i :: c.2)]) a (i + 1) := by
  have hlt := (List.getElem?_eq_some_iff.1 hc).1
  refine ⟨?_, ?_, ?_, ?_, hi, by simp; omega, fun e => by simp at e; omega, ?_, ?_⟩
  · rw [List.getElem?_append_left (by omega)]; exact h.first
  · intro j j' x y hj h1 h2
    have hl := (List.getElem?_eq_some_iff.1 h2).1
    simp at hl
    rw [List.getElem?_append_left (by omega)] at h1
    rcases Nat.lt_or_ge j' L.length with g | g
    · rw [List.getElem?_append_left g] at h2
      exact h.mono j j' x y hj h1 h2
    · have : j' = L.length := by omega
      subst this
      simp at h2
      subst h2
      exact h.ahead x c hc (List.mem_of_getElem? h1)
  · intro x hx
    rcases List.mem_append.1 hx with g | g
    · exact h.path x g
    · simp at g
      subst g
      exact ⟨c.1, h.path c (List.mem_of_getElem? hc), hi, hb, hn⟩
  · intro x y hy hx
    rw [List.getElem?_append_left hlt] at hy
    rcases List.mem_append.1 hx with g | g
    · have := h.ahead x y hy g; omega
    · simp at g
      subst g
      rw [hc] at hy
      cases hy
      simp [rv]
  · intro j y hy
    rcases Nat.lt_or_ge j L.length with g | g
    · rw [List.getElem?_append_left g] at hy
      exact h.short j y hy
    · have hl := (List.getElem?_eq_some_iff.1 hy).1
      simp at hl
      have : j = L.length := by omega
      subst this
      simp at hy
      subst hy
      have := h.short a c hc
      simp
      omega
  · intro j x y hy hx g
    rw [List.getElem?_append_left (by omega)] at hy
    by_cases e : j = a ∧ x = i
    · obtain ⟨rfl, rfl⟩ := e
      rw [hc] at hy
      cases hy
      refine ⟨hb, fun q' hq => ?_⟩
      rw [hn] at hq
      cases hq
      exact ⟨(q, x :: c.2), by simp, rfl, Nat.le_refl _⟩
    · obtain ⟨h1, h2⟩ := h.seen j x y hy hx (by omega)
      refine ⟨h1, fun q' hq => ?_⟩
      obtain ⟨b, g1, g2⟩ := h2 q' hq
      exact ⟨b, List.mem_append_left _ g1, g2⟩
theorem Bfs.step {L : List (S × List Nat)} {a : Nat} (h : Bfs k bad nx p0 L a k) (ha : a < L.length) : Bfs k bad nx p0 L (a + 1) 0 := {
  first := h.first
  mono := h.mono
  path := h.path
  ahead := by
    intro x c hc hx
    have h1 := h.ahead x _ (List.getElem?_eq_getElem ha) hx
    have h2 := h.mono a (a + 1) _ _ (by omega) (List.getElem?_eq_getElem ha) hc
    have h3 : (rv k L[a].2 + 1) * k ≤ rv k c.2 * k := Nat.mul_le_mul_right _ h2
    rw [Nat.succ_mul] at h3
    omega
  pos := Nat.zero_le _
  lies := ha
  fin := fun _ => rfl
  short := h.short
  seen := fun j x b hb hx g => h.seen j x b hb hx (by rcases g with g | ⟨_, g⟩ <;> omega) }
theorem Bfs.reach {L : List (S × List Nat)} {a i : Nat} (h : Bfs k bad nx p0 L a i) : ∀ (u : List Nat) (q : S), PathR k bad nx p0 u q → (∀ c, L[a]? = some c → rv k u < rv k c.2 * k + i + 1) → ∃ (j : Nat) (b : S × List Nat), L[j]? = some b ∧ b.1 = q ∧ rv k b.2 ≤ rv k u
  | [], q, hp, _ => ⟨0, _, h.first, hp.symm, Nat.zero_le _⟩
  | x :: u, q, ⟨p, hp, hx, hb, hn⟩, hlt => by
    have hk : rv k u ≤ rv k u * k := Nat.le_mul_of_pos_right _ (by omega)
    obtain ⟨j, b, hj, rfl, hr⟩ := h.reach u p hp fun c hc => by have := hlt c hc; simp only [rv] at this; omega
    have hmul : rv k b.2 * k ≤ rv k u * k := Nat.mul_le_mul_right _ hr
    have hjl := (List.getElem?_eq_some_iff.1 hj).1
    have hpos : j < a ∨ j = a ∧ x < i := by
      rcases Nat.lt_trichotomy j a with g | g | g
      · exact .inl g
      · subst g
        refine .inr ⟨rfl, ?_⟩
        have := hlt b hj
        simp only [rv] at this
        omega
      · exfalso
        have hal : a < L.length := by omega
        have h1 := hlt _ (List.getElem?_eq_getElem hal)
        have h2 := h.mono a j _ _ g (List.getElem?_eq_getElem hal) hj
        have h3 : (rv k L[a].2 + 1) * k ≤ rv k b.2 * k := Nat.mul_le_mul_right _ h2
        rw [Nat.succ_mul] at h3
        have := h.pos
        simp only [rv] at h1
        omega
    obtain ⟨_, h2⟩ := h.seen j x b hj hx hpos
    obtain ⟨c, g1, g2, g3⟩ := h2 q hn
    obtain ⟨j', g4⟩ := List.getElem?_of_mem g1
    exact ⟨j', c, g4, g2, by simp only [rv]; omega⟩
theorem Bfs.least {L : List (S × List Nat)} {a i : Nat} (h : Bfs k bad nx p0 L a i) {w : List Nat} (hw : TellR k bad nx p0 w) (hlt : ∀ c, L[a]? = some c → rv k w < rv k c.2 * k + i + 1) : False := by
  cases w with
  | nil => exact hw
  | cons x u =>
    obtain ⟨p, hp, hx, hb⟩ := hw
    have hk : rv k u ≤ rv k u * k := Nat.le_mul_of_pos_right _ (by omega)
    obtain ⟨j, b, hj, rfl, hr⟩ := h.reach u p hp fun c hc => by have := hlt c hc; simp only [rv] at this; omega
    have hmul : rv k b.2 * k ≤ rv k u * k := Nat.mul_le_mul_right _ hr
    have hjl := (List.getElem?_eq_some_iff.1 hj).1
    have hpos : j < a ∨ j = a ∧ x < i := by
      rcases Nat.lt_trichotomy j a with g | g | g
      · exact .inl g
      · subst g
        refine .inr ⟨rfl, ?_⟩
        have := hlt b hj
        simp only [rv] at this
        omega
      · exfalso
        have hal : a < L.length := by omega
        have h1 := hlt _ (List.getElem?_eq_getElem hal)
        have h2 := h.mono a j _ _ g (List.getElem?_eq_getElem hal) hj
        have h3 : (rv k L[a].2 + 1) * k ≤ rv k b.2 * k := Nat.mul_le_mul_right _ h2
        rw [Nat.succ_mul] at h3
        have := h.pos
        simp only [rv] at h1
        omega
    have := (h.seen j x b hj hx hpos).1
    rw [this] at hb
    cases hb
theorem path_cons {i : Nat} {q : S} (hi : i < k) (hb : bad p0 i = false) (hn : nx p0 i = some q) : ∀ {u : List Nat} {r : S}, PathR k bad nx q u r → PathR k bad nx p0 (u ++ [i]) r
  | [], r, h => ⟨p0, rfl, hi, hb, by rw [hn]; exact congrArg some h.symm⟩
  | x :: u, r, ⟨p, hp, h⟩ => ⟨p, path_cons hi hb hn hp, h⟩
theorem tell_rev : ∀ {w : List Nat} {p : S}, TellF k bad nx p w → TellR k bad nx p w.reverse
  | [], _, h => h.elim
  | [i], p, h => ⟨p, rfl, h⟩
  | i :: j :: w, p, ⟨hi, hb, q, hn, h⟩ => by
    have := tell_rev h
    rw [List.reverse_cons]
    cases hr : (j :: w).reverse with
    | nil => simp at hr
    | cons x u =>
      rw [hr] at this
      obtain ⟨r, h1, h2⟩ := this
      exact ⟨r, path_cons hi hb hn h1, h2⟩
theorem path_snoc : ∀ {u : List Nat} {q : S} {i : Nat} {w : List Nat}, PathR k bad nx p0 u q → TellF k bad nx q (i :: w) → TellF k bad nx p0 (u.reverse ++ i :: w)
  | [], q, i, w, h, t => by
    simp only [PathR] at h
    subst h
    exact t
  | x :: u, q, i, w, ⟨p, hp, hx, hb, hn⟩, t => by
    have := path_snoc (i := x) (w := i :: w) hp ⟨hx, hb, q, hn, t⟩
    simpa using this
theorem tell_fwd {w : List Nat} (h : TellR k bad nx p0 w) : TellF k bad nx p0 w.reverse := by
  cases w with
  | nil => exact h
  | cons i u =>
    obtain ⟨p, h1, h2⟩ := h
    have := path_snoc (i := i) (w := []) h1 h2
    simpa using this
def fv (k : Nat) : Nat → List Nat → Nat
  | n, [] => n
  | n, i :: w => fv k (n * k + i + 1) w
theorem fv_rv : ∀ (w u : List Nat), fv k (rv k u) w = rv k (w.reverse ++ u)
  | [], u => rfl
  | i :: w, u => by
    have := fv_rv w (i :: u)
    simp only [rv] at this
    simp only [fv, List.reverse_cons, List.append_assoc, List.singleton_append]
    exact this
theorem fv_lt : ∀ {w v : List Nat} {n m : Nat}, n < m → w.length = v.length → (∀ x ∈ w, x < k) → fv k n w < fv k m v
  | [], [], n, m, h, _, _ => h
  | i :: w, j :: v, n, m, h, hl, hw => by
    simp only [fv]
    refine fv_lt ?_ (by simpa using hl) fun x hx => hw x (by simp [hx])
    have h1 : (n + 1) * k ≤ m * k := Nat.mul_le_mul_right _ h
    rw [Nat.succ_mul] at h1
    have := hw i (by simp)
    omega
theorem rv_len : ∀ {u v : List Nat}, u.length < v.length → (∀ x ∈ u, x < k) → rv k u < rv k v
  | [], j :: v, _, _ => by simp [rv]
  | i :: u, j :: v, h, hu => by
    have := rv_len (u := u) (v := v) (by simpa using h) fun x hx => hu x (by simp [hx])
    have h1 : (rv k u + 1) * k ≤ rv k v * k := Nat.mul_le_mul_right _ this
    rw [Nat.succ_mul] at h1
    have := hu i (by simp)
    simp only [rv]
    omega
def LexLE : List Nat → List Nat → Prop
  | [], _ => True
  | i :: u, j :: v => i < j ∨ i = j ∧ LexLE u v
  | _ :: _, [] => False
theorem fv_lex : ∀ {w v : List Nat} {n : Nat}, LexLE w v → w.length = v.length → (∀ x ∈ w, x < k) → w = v ∨ fv k n w < fv k n v
  | [], [], n, _, _, _ => .inl rfl
  | i :: w, j :: v, n, h, hl, hw => by
    rcases h with h | ⟨rfl, h⟩
    · refine .inr ?_
      show fv k (n * k + i + 1) w < fv k (n * k + j + 1) v
      exact fv_lt (by omega) (by simpa using hl) fun x hx => hw x (by simp [hx])
    · rcases fv_lex (n := n * k + i + 1) h (by simpa using hl) fun x hx => hw x (by simp [hx]) with rfl | h
      · exact .inl rfl
      · exact .inr h
theorem tell_lt : ∀ {w : List Nat} {p : S}, TellF k bad nx p w → ∀ x ∈ w, x < k
  | [], _, h => h.elim
  | [i], _, h => by simpa using h.1
  | i :: j :: w, _, ⟨hi, _, q, _, h⟩ => by
    intro x hx
    rcases List.mem_cons.1 hx with rfl | hx
    · exact hi
    · exact tell_lt h x hx
theorem least_same {u v : List Nat} (hu : TellR k bad nx p0 u) (h1 : ∀ w, TellR k bad nx p0 w → rv k u ≤ rv k w) (hv : TellF k bad nx p0 v) (h2 : ∀ w, TellF k bad nx p0 w → v.length ≤ w.length ∧ (v.length = w.length → LexLE v w)) : u.reverse = v := by
  have hu' := tell_fwd hu
  have hv' := tell_rev hv
  have l1 := (h2 _ hu').1
  have hlt := tell_lt hu'
  have g := h1 _ hv'
  have hl : v.length = u.reverse.length := by
    rcases Nat.lt_or_ge v.length u.reverse.length with q | q
    · have := rv_len (k := k) (u := v.reverse) (v := u) (by simpa using q) (fun x hx => tell_lt hv x (by simpa using hx))
      omega
    · omega
  have l2 := (h2 _ hu').2 hl
  rcases fv_lex (k := k) (n := 0) l2 hl (tell_lt hv) with e | e
  · exact e.symm
  · have e1 := fv_rv (k := k) v []
    have e2 := fv_rv (k := k) u.reverse []
    simp only [rv, List.append_nil, List.reverse_reverse] at e1 e2
    omega
def Mk (k : Nat) (bad : S → Nat → Bool) (nx : S → Nat → Option S) : Nat → S → Prop
  | 0, _ => False
  | n + 1, p => Mk k bad nx n p ∨ ∃ i, i < k ∧ (bad p i = true ∨ ∃ q, nx p i = some q ∧ Mk k bad nx n q)
theorem Mk.mono {n m : Nat} {p : S} (h : Mk k bad nx n p) (hm : n ≤ m) : Mk k bad nx m p := by
  induction hm with
  | refl => exact h
  | step _ ih => exact .inl ih
theorem Mk.tell : ∀ {n : Nat} {p : S}, Mk k bad nx n p → ∃ w, TellF k bad nx p w ∧ w.length ≤ n
  | 0, _, h => h.elim
  | n + 1, p, .inl h => by
    obtain ⟨w, h1, h2⟩ := Mk.tell h
    exact ⟨w, h1, by omega⟩
  | n + 1, p, .inr ⟨i, hi, h⟩ => by
    by_cases hb : bad p i = true
    · exact ⟨[i], ⟨hi, hb⟩, by simp⟩
    · rcases h with h | ⟨q, hq, h⟩
      · exact (hb h).elim
      · obtain ⟨w, h1, h2⟩ := Mk.tell h
        refine ⟨i :: w, ?_, by simp; omega⟩
        cases w with
        | nil => exact h1.elim
        | cons j w => exact ⟨hi, by simpa using hb, q, hq, h1⟩
theorem tell_mk : ∀ {w : List Nat} {p : S}, TellF k bad nx p w → Mk k bad nx w.length p
  | [], _, h => h.elim
  | [i], p, h => .inr ⟨i, h.1, .inl h.2⟩
  | i :: j :: w, p, ⟨hi, hb, q, hn, h⟩ => .inr ⟨i, hi, .inr ⟨q, hn, tell_mk h⟩⟩
def Greedy (k : Nat) (bad : S → Nat → Bool) (nx : S → Nat → Option S) : Nat → S → List Nat → Prop
  | 0, _, w => w = []
  | n + 1, p, w => ∃ i u, w = i :: u ∧ i < k ∧ (bad p i = true ∨ ∃ q, nx p i = some q ∧ Mk k bad nx n q) ∧ (∀ j, j < i → ¬ (bad p j = true ∨ ∃ q, nx p j = some q ∧ Mk k bad nx n q)) ∧ (0 < n → ∃ q, nx p i = some q ∧ Greedy k bad nx n q u) ∧ (n = 0 → u = [])
theorem greedy_least : ∀ {n : Nat} {p : S} {w : List Nat}, Mk k bad nx (n + 1) p → ¬ Mk k bad nx n p → Greedy k bad nx (n + 1) p w → TellF k bad nx p w ∧ w.length = n + 1 ∧ ∀ v, TellF k bad nx p v → w.length ≤ v.length ∧ (w.length = v.length → LexLE w v)
  | 0, p, w, h, _, ⟨i, u, ew, hi, hb, hl, _, hu⟩ => by
    subst ew
    have hu := hu rfl
    subst hu
    have hb : bad p i = true := by
      rcases hb with hb | ⟨q, _, h⟩
      · exact hb
      · exact h.elim
    refine ⟨⟨hi, hb⟩, rfl, fun v hv => ?_⟩
    cases v with
    | nil => exact hv.elim
    | cons j v =>
      refine ⟨by simp, fun e => ?_⟩
      have : v = [] := by simpa using e.symm
      subst this
      rcases Nat.lt_trichotomy i j with q | q | q
      · exact .inl q
      · exact .inr ⟨q, trivial⟩
      · exact (hl j q (.inl hv.2)).elim
  | n + 1, p, w, h, hn, ⟨i, u, ew, hi, hb, hl, hq, _⟩ => by
    subst ew
    obtain ⟨q, hq1, hq2⟩ := hq (by omega)
    have nb : ∀ j, j < k → bad p j = false := by
      intro j hj
      cases hc : bad p j with
      | false => rfl
      | true => exact (hn ((Mk.mono (n := 1) (.inr ⟨j, hj, .inl hc⟩) (by omega)))).elim
    have hm : Mk k bad nx (n + 1) q := by
      rcases hb with hb | ⟨q', e, h⟩
      · rw [nb i hi] at hb; cases hb
      · rw [hq1] at e; cases e; exact h
    have hm' : ¬ Mk k bad nx n q := fun g => hn (.inr ⟨i, hi, .inr ⟨q, hq1, g⟩⟩)
    obtain ⟨t, tl, tm⟩ := greedy_least hm hm' hq2
    refine ⟨?_, by simp [tl], fun v hv => ?_⟩
    · cases u with
      | nil => exact t.elim
      | cons j u => exact ⟨hi, nb i hi, q, hq1, t⟩
    · have hlen : n + 2 ≤ v.length := by
        rcases Nat.lt_or_ge v.length (n + 2) with g | g
        · exact (hn (Mk.mono (tell_mk hv) (by omega))).elim
        · exact g
      refine ⟨by simp [tl]; omega, fun e => ?_⟩
      match v, hv with
      | [], hv => exact hv.elim
      | [j], hv => simp [tl] at e
      | j :: x :: v, ⟨hj, hjb, r, hr, hv⟩ =>
        have hmj : Mk k bad nx (n + 1) r := Mk.mono (tell_mk hv) (by simp at e ⊢; omega)
        rcases Nat.lt_trichotomy i j with g | rfl | g
        · exact .inl g
        · rw [hq1] at hr
          cases hr
          exact .inr ⟨rfl, (tm _ hv).2 (by simpa using e)⟩
        · exact (hl j g (.inr ⟨r, hr, hmj⟩)).elim
theorem search_mark {n : Nat} {u w : List Nat} (hu : TellR k bad nx p0 u) (h1 : ∀ w, TellR k bad nx p0 w → rv k u ≤ rv k w) (hm : Mk k bad nx (n + 1) p0) (hm' : ¬ Mk k bad nx n p0) (hw : Greedy k bad nx (n + 1) p0 w) : u.reverse = w := by
  obtain ⟨a, b, c⟩ := greedy_least hm hm' hw
  exact least_same hu h1 a c
end
end Go.Own

namespace Go.Own
set_option linter.unusedVariables false
set_option linter.unusedSimpArgs false
theorem nodup_bound : ∀ (n : Nat) (l : List Nat), l.Nodup → (∀ x ∈ l, x < n) → l.length ≤ n
  | 0, l, _, h => by
    cases l with
    | nil => simp
    | cons x l => have := h x (by simp); omega
  | n + 1, l, hd, h => by
    by_cases hm : n ∈ l
    · have h1 := List.length_erase_of_mem hm
      have h2 := nodup_bound n (l.erase n) (hd.erase n) fun x hx => by
        have h3 := (hd.mem_erase_iff).1 hx
        have := h x h3.2
        have := h3.1
        omega
      have : 0 < l.length := List.length_pos_of_mem hm
      omega
    · have := nodup_bound n l hd fun x hx => by
        have := h x hx
        have : x ≠ n := fun e => hm (e ▸ hx)
        omega
      omega
def badP (a b : S_api_Machine) (p : Nat × Nat) (i : Nat) : Bool := (E a p.1 i).Out != (E b p.2 i).Out
def nxP (a b : S_api_Machine) (p : Nat × Nat) (i : Nat) : Option (Nat × Nat) := if 0 ≤ (E a p.1 i).To ∧ 0 ≤ (E b p.2 i).To then some ((E a p.1 i).To.toNat, (E b p.2 i).To.toNat) else none
abbrev LL := List ((Nat × Nat) × List Nat)
def pA (q : Nat × Nat) : Arr2 Int := ⟨q.1, q.2⟩
def nodesA (L : LL) : List (Arr2 Int) := L.map fun x => pA x.1
def ArrOk (l : List S_equals_arrival) (L : LL) : Prop :=
  l.length = L.length ∧ ∀ (j : Nat) (c : (Nat × Nat) × List Nat), L[j]? = some c → ∃ x, l[j]? = some x ∧ x.pair_ = pA c.1 ∧ ((c.2 = [] ∧ x.from_ = -1) ∨ ∃ (f i : Nat) (d : (Nat × Nat) × List Nat), f < j ∧ c.2 = i :: d.2 ∧ x.from_ = f ∧ x.input_ = i ∧ L[f]? = some d)
def SeenOk (seen : List (Arr2 Int × Bool)) (L : LL) : Prop := ∀ q : Arr2 Int, (mget seen q).getD false = true ↔ q ∈ nodesA L
def Nodes (a b : S_api_Machine) (L : LL) : Prop := (L.map (·.1)).Nodup ∧ ∀ x ∈ L, x.1.1 < a.Rows.length ∧ x.1.2 < b.Rows.length
theorem pA_inj {p q : Nat × Nat} (h : pA p = pA q) : p = q := by
  obtain ⟨p1, p2⟩ := p
  obtain ⟨q1, q2⟩ := q
  simp only [pA, Arr2.mk.injEq] at h
  simp only [Prod.mk.injEq]
  omega
theorem mem_nodes {L : LL} {q : Nat × Nat} : pA q ∈ nodesA L ↔ ∃ b ∈ L, b.1 = q := by
  unfold nodesA
  rw [List.mem_map]
  constructor
  · rintro ⟨x, h1, h2⟩; exact ⟨x, h1, pA_inj h2⟩
  · rintro ⟨x, h1, h2⟩; exact ⟨x, h1, by rw [h2]⟩
theorem Nodes.length {a b : S_api_Machine} {L : LL} (h : Nodes a b L) (ha : a.Rows.length ≤ 64) (hb : b.Rows.length ≤ 64) : L.length ≤ 4096 := by
  have := nodup_bound 4096 (L.map fun x => x.1.1 * 64 + x.1.2) ?_ ?_
  · simpa using this
  · have : (L.map fun x => x.1.1 * 64 + x.1.2) = (L.map (·.1)).map fun q => q.1 * 64 + q.2 := by rw [List.map_map]; rfl
    rw [this]
    refine List.Pairwise.map _ ?_ (List.Pairwise.and_mem.1 h.1)
    rintro p q ⟨hp, hq, hne⟩ e
    apply hne
    obtain ⟨x, hx, rfl⟩ := List.mem_map.1 hp
    obtain ⟨y, hy, rfl⟩ := List.mem_map.1 hq
    have := h.2 x hx
    have := h.2 y hy
    obtain ⟨⟨p1, p2⟩, _⟩ := x
    obtain ⟨⟨q1, q2⟩, _⟩ := y
    simp only at *
    simp only [Prod.mk.injEq]
    omega
  · intro x hx
    obtain ⟨y, hy, rfl⟩ := List.mem_map.1 hx
    have := h.2 y hy
    omega
theorem word_ret {l : List S_equals_arrival} {L : LL} (h : ArrOk l L) (hl : L.length ≤ 4096) {j : Nat} {c : (Nat × Nat) × List Nat} (hc : L[j]? = some c) (more : List Int) (hm : more.length ≤ 4096) :
    equals_word l (j : Int) more = some (c.2.reverse.map Int.ofNat ++ more) ∧ c.2.length ≤ j := by
  have clip : ∀ s : List Int, slices_Clip_int_int s = some s := by
    intro s
    unfold slices_Clip_int_int
    rw [gdT (by omega)]
    simp
  have lenw : ∀ (j : Nat) (c : (Nat × Nat) × List Nat), L[j]? = some c → c.2.length ≤ j := by
    intro j
    induction j using Nat.strongRecOn with
    | ind j ih =>
      intro c hc
      obtain ⟨x, _, _, h1⟩ := h.2 j c hc
      rcases h1 with ⟨e, _⟩ | ⟨f, i, d, hf, e, _, _, hd⟩
      · rw [e]; simp
      · have := ih f hf d hd
        rw [e]; simp; omega
  refine ⟨?_, lenw j c hc⟩
  have main : Ret (loop (fun s => equals_word_L2 l s.1 s.2) ((j : Int), more)) fun r => r = c.2.reverse.map Int.ofNat ++ more := by
    refine ret_loop (fun s => ∃ (n : Nat) (d : (Nat × Nat) × List Nat), s.1 = (n : Int) ∧ L[n]? = some d ∧ d.2.reverse.map Int.ofNat ++ s.2 = c.2.reverse.map Int.ofNat ++ more) (fun s => s.1.toNat) ⟨j, c, rfl, hc, rfl⟩ ?_ ?_
    · have := (List.getElem?_eq_some_iff.1 hc).1
      simp only [Int.toNat_natCast]
      omega
    · rintro ⟨s1, s2⟩ ⟨n, d, hn, hd, hs⟩
      simp only at hn hs
      subst hn
      obtain ⟨x, hx, hp, h1⟩ := h.2 n d hd
      unfold equals_word_L2
      simp only [ret_bind, ret_idx, Int.toNat_natCast, hx, ret_bif, ret_gd, ret_some, LRP]
      refine ⟨by omega, x, rfl, ?_, ?_⟩
      · intro hne
        rcases h1 with ⟨_, e⟩ | ⟨f, i, g, hf, e, hfr, hin, hg⟩
        · rw [e] at hne; exact absurd hne (by decide)
        · refine ⟨by omega, x, rfl, ?_, by omega, x, rfl, ⟨f, g, hfr, hg, ?_⟩, by omega⟩
          · have l1 := lenw n d hd
            have l2 := lenw j c hc
            have l3 := (List.getElem?_eq_some_iff.1 hc).1
            have l4 := congrArg List.length hs
            simp only [List.length_append, List.length_map, List.length_reverse] at l4
            simp only [List.length_cons, List.length_nil]
            omega
          · rw [hin, ← hs, e]
            simp
      · intro he
        rcases h1 with ⟨e, _⟩ | ⟨f, i, g, hf, e, hfr, _⟩
        · rw [e] at hs
          simpa using hs
        · rw [hfr] at he
          have : ((f : Int) != -1) = true := by simp
          rw [this] at he
          cases he
  unfold equals_word equals_word_J1
  rw [bdT (Ret.eq main), bdT (clip _)]
theorem kk_same {a b : S_api_Machine} (hab : a.Inputs = b.Inputs) : kk a = kk b := by unfold kk; rw [hab]
section
variable {a b : S_api_Machine} (va : VM a) (vb : VM b) (hab : a.Inputs = b.Inputs)
include va vb hab
theorem same_out {p : Nat × Nat} {i : Nat} (h1 : p.1 < a.Rows.length) (h2 : p.2 < b.Rows.length) (hi : i < kk a) (hb : badP a b p i = false) :
    ((E a p.1 i).To = -1 ∧ (E b p.2 i).To = -1 ∧ nxP a b p i = none) ∨ (0 ≤ (E a p.1 i).To ∧ 0 ≤ (E b p.2 i).To ∧ (E a p.1 i).To.toNat < a.Rows.length ∧ (E b p.2 i).To.toNat < b.Rows.length ∧ nxP a b p i = some ((E a p.1 i).To.toNat, (E b p.2 i).To.toNat)) := by
  have hi' : i < kk b := by rw [← kk_same hab]; exact hi
  have e : (E a p.1 i).Out = (E b p.2 i).Out := by simpa [badP] using hb
  rcases va.edgeAt h1 hi with ⟨x1, x2⟩ | ⟨x1, x2, x3, x4⟩ <;> rcases vb.edgeAt h2 hi' with ⟨y1, y2⟩ | ⟨y1, y2, y3, y4⟩
  · exact .inl ⟨x1, y1, by unfold nxP; rw [if_neg (by omega)]⟩
  · omega
  · omega
  · exact .inr ⟨x1, y1, by omega, by omega, by unfold nxP; rw [if_pos ⟨x1, y1⟩]⟩
end
theorem index_ret (s : List (Arr2 Int)) (v : Arr2 Int) (hl : s.length ≤ 4611686018427387903) : slices_Contains_2_int_2_int s v = some (decide (v ∈ s)) := by
  have hloop : loop (fun q => slices_Index_2_int_2_int_L2 s v q) 0 = some (oS (firstS (fun i x => if v = x then some (i : Int) else none) s 0)) := by
    refine loop_list s (by omega) _ ?_ ?_
    · intro i x hx
      have hi := (List.getElem?_eq_some_iff.1 hx).1
      unfold slices_Index_2_int_2_int_L2
      have hd : decide ((i : Int) < ((s.length : Nat) : Int)) = true := by simpa using hi
      rw [hd, cond_true, idx_nat, bdT hx]
      obtain ⟨v0, v1⟩ := v
      obtain ⟨x0, x1⟩ := x
      by_cases e : v0 = x0 ∧ v1 = x1
      · simp [nS, e.1, e.2]
      · have : (v0 == x0 && (v1 == x1 && true)) = false := by
          simp only [Bool.and_true, Bool.and_eq_false_iff, beq_eq_false_iff_ne]
          omega
        simp only [this, cond_false, nS, Arr2.mk.injEq, e, if_false]
    · unfold slices_Index_2_int_2_int_L2
      simp
  unfold slices_Contains_2_int_2_int slices_Index_2_int_2_int
  rw [hloop]
  simp only [Option.bind_some]
  cases hf : firstS (fun i x => if v = x then some (i : Int) else none) s 0 with
  | some q =>
    obtain ⟨i, x, h1, h2⟩ := firstS_some hf
    split at h2
    · rename_i e
      subst e
      simp only [Option.some.injEq] at h2
      have : v ∈ s := List.mem_of_getElem? h1
      simp only [oS, Option.bind_some, decide_eq_true this]
      rw [decide_eq_true (by omega)]
    · cases h2
  | none =>
    have : ¬ v ∈ s := by
      intro hx
      obtain ⟨i, hi⟩ := List.getElem?_of_mem hx
      have := firstS_isNone hf i v hi
      simp at this
    simp only [oS, slices_Index_2_int_2_int_J1, Option.bind_some, decide_eq_false this]
    rfl
theorem arr_snoc {l : List S_equals_arrival} {L : LL} (h : ArrOk l L) {f i : Nat} {d : (Nat × Nat) × List Nat} (hd : L[f]? = some d) (q : Nat × Nat) : ArrOk (l ++ [⟨pA q, (f : Int), (i : Int)⟩]) (L ++ [(q, i :: d.2)]) := by
  have hf := (List.getElem?_eq_some_iff.1 hd).1
  refine ⟨by simp [h.1], fun j c hc => ?_⟩
  rcases Nat.lt_or_ge j L.length with g | g
  · rw [List.getElem?_append_left g] at hc
    obtain ⟨x, h1, h2, h3⟩ := h.2 j c hc
    refine ⟨x, by rw [List.getElem?_append_left (by rw [h.1]; exact g)]; exact h1, h2, ?_⟩
    rcases h3 with h3 | ⟨f', i', d', h3, h4, h5, h6, h7⟩
    · exact .inl h3
    · exact .inr ⟨f', i', d', h3, h4, h5, h6, by rw [List.getElem?_append_left (by omega)]; exact h7⟩
  · have hj : j = L.length := by
      have := (List.getElem?_eq_some_iff.1 hc).1
      simp at this
      omega
    subst hj
    simp only [List.getElem?_append_right (Nat.le_refl _), Nat.sub_self, List.getElem?_cons_zero, Option.some.injEq] at hc
    subst hc
    refine ⟨⟨pA q, f, i⟩, ?_, rfl, .inr ⟨f, i, d, hf, rfl, rfl, rfl, by rw [List.getElem?_append_left hf]; exact hd⟩⟩
    have h0 := h.1
    rw [List.getElem?_append_right (by omega), h0]
    simp
theorem seen_set {seen : List (Arr2 Int × Bool)} {L : LL} (h : SeenOk seen L) (q : Nat × Nat) (u : List Nat) : SeenOk (mset seen (pA q) true) (L ++ [(q, u)]) := by
  intro r
  rw [mget_set]
  unfold nodesA
  rw [List.map_append, List.mem_append]
  by_cases e : pA q = r
  · subst e
    simp
  · have : (pA q == r) = false := by simpa using e
    rw [this]
    simp only [Bool.false_eq_true, if_false]
    rw [h r]
    constructor
    · exact .inl
    · rintro (g | g)
      · exact g
      · simp at g; exact (e g.symm).elim
theorem nodes_snoc {a b : S_api_Machine} {L : LL} (h : Nodes a b L) {q : Nat × Nat} (u : List Nat) (hq : ¬ ∃ b ∈ L, b.1 = q) (h1 : q.1 < a.Rows.length) (h2 : q.2 < b.Rows.length) : Nodes a b (L ++ [(q, u)]) := by
  refine ⟨?_, fun x hx => ?_⟩
  · rw [List.map_append, List.nodup_append]
    refine ⟨h.1, by simp, fun x hx y hy e => ?_⟩
    simp at hy
    subst hy
    subst e
    obtain ⟨z, g1, g2⟩ := List.mem_map.1 hx
    exact hq ⟨z, g1, g2⟩
  · rcases List.mem_append.1 hx with g | g
    · exact h.2 x g
    · simp at g
      subst g
      exact ⟨h1, h2⟩
def DiffR (a b : S_api_Machine) (r : List Int × List (Arr2 Int)) : Prop :=
  (∃ u, TellR (kk a) (badP a b) (nxP a b) (0, 0) u ∧ (∀ w, TellR (kk a) (badP a b) (nxP a b) (0, 0) w → rv (kk a) u ≤ rv (kk a) w) ∧ u.length ≤ 4096 ∧ r = (u.reverse.map Int.ofNat, [])) ∨
  (∃ L : LL, Bfs (kk a) (badP a b) (nxP a b) (0, 0) L L.length 0 ∧ Nodes a b L ∧ r = ([], nodesA L))
section
variable {a b : S_api_Machine} (va : VM a) (vb : VM b) (hab : a.Inputs = b.Inputs)
include va vb hab
theorem differ_ret : Ret (equals_differ a b) (DiffR a b) := by
  have hka : ((kk a : Nat) : Int) = a.Inputs := va.kk_eq
  have la := va.len64
  have lb := vb.len64
  have k16 := va.kk_le
  let Inv (L : LL) (at_ i : Nat) (s : LR (List Int × List (Arr2 Int)) (List Int × List (Arr2 Int))) (seen : List (Arr2 Int × Bool)) (l : List S_equals_arrival) : Prop :=
    Bfs (kk a) (badP a b) (nxP a b) (0, 0) L at_ i ∧ ArrOk l L ∧ SeenOk seen L ∧ Nodes a b L ∧ s = .next ([], nodesA L)
  let Fnd (s : LR (List Int × List (Arr2 Int)) (List Int × List (Arr2 Int))) : Prop := ∃ u p, TellR (kk a) (badP a b) (nxP a b) (0, 0) u ∧ (∀ w, TellR (kk a) (badP a b) (nxP a b) (0, 0) w → rv (kk a) u ≤ rv (kk a) w) ∧ u.length ≤ 4096 ∧ s = .done (u.reverse.map Int.ofNat, p)
  have inner : ∀ (L : LL) (at_ : Nat) (sg : LR (List Int × List (Arr2 Int)) (List Int × List (Arr2 Int))) (seen : List (Arr2 Int × Bool)) (l : List S_equals_arrival) (x : S_equals_arrival), at_ < L.length → l[at_]? = some x → Inv L at_ 0 sg seen l →
      Ret (loop (fun s => equals_meets_1_L3 a b (yOf (fun s x => equals_differ_I2 s.1 s.2 x.1 x.2)) (at_ : Int) x x s.1 s.2.1 s.2.2.1 s.2.2.2) (sg, seen, l, 0)) (fun r => match r with
        | .inl (sg', seen', l') => ∃ L', L.length ≤ L'.length ∧ Inv L' at_ (kk a) sg' seen' l'
        | .inr sg' => Fnd sg') := by
    intro L at_ sg seen l x hat hx hI
    refine ret_loop (fun s => ∃ (L' : LL) (i : Nat), s.2.2.2 = (i : Int) ∧ i ≤ kk a ∧ L.length ≤ L'.length ∧ s.2.2.1[at_]? = some x ∧ Inv L' at_ i s.1 s.2.1 s.2.2.1) (fun s => kk a - s.2.2.2.toNat) ⟨L, 0, rfl, Nat.zero_le _, Nat.le_refl _, hx, hI⟩ (by omega) ?_
    rintro ⟨sg, seen, l, i'⟩ ⟨L', i, hi', hik, hLL, hx, hB, hA, hS, hN, hsg⟩
    simp only at hi' hA hS hx
    subst hi'
    subst hsg
    have hat' : at_ < L'.length := by omega
    obtain ⟨c, hc⟩ : ∃ c, L'[at_]? = some c := ⟨_, List.getElem?_eq_getElem hat'⟩
    obtain ⟨x', hx', hpair, hw⟩ := hA.2 at_ c hc
    rw [hx] at hx'
    cases hx'
    have hcn := hN.2 c (List.mem_of_getElem? hc)
    have hL4 := hN.length la lb
    unfold equals_meets_1_L3
    rw [ret_bif]
    refine ⟨fun hlt => ?_, fun hge => ?_⟩
    · have hi : i < kk a := by rw [← hka] at hlt; simpa using hlt
      have hib : i < kk b := by rw [← kk_same hab]; exact hi
      have e0 : x.pair_.e0 = (c.1.1 : Int) := by rw [hpair]; rfl
      have e1 : x.pair_.e1 = (c.1.2 : Int) := by rw [hpair]; rfl
      rw [e0, e1]
      rw [va.edge_eq hcn.1 hi, vb.edge_eq hcn.2 hib]
      simp only [yOf, equals_differ_I2]
      by_cases hbad : badP a b c.1 i = true
      · have hne : ((E a c.1.1 i).Out != (E b c.1.2 i).Out) = true := hbad
        obtain ⟨hwd, hwl⟩ := word_ret hA hL4 hc [(i : Int)] (by simp)
        simp only [hne, cond_true, hwd, Option.bind_some, cond_false, ret_some, LRP]
        refine ⟨i :: c.2, nodesA L', ⟨c.1, hB.path c (List.mem_of_getElem? hc), hi, hbad⟩, fun w hw => ?_, by simp; omega, by simp⟩
        rcases Nat.lt_or_ge (rv (kk a) w) (rv (kk a) (i :: c.2)) with g | g
        · exact (hB.least hw fun c' hc' => by rw [hc] at hc'; cases hc'; simpa [rv] using g).elim
        · exact g
      · have hbad' : badP a b c.1 i = false := by simpa using hbad
        have hne : ((E a c.1.1 i).Out != (E b c.1.2 i).Out) = false := hbad'
        have hw1 : w64 ((i : Int) + 1) = ((i + 1 : Nat) : Int) := by rw [w64_in (by omega) (by omega)]; rfl
        rcases same_out va vb hab hcn.1 hcn.2 hi hbad' with ⟨t1, t2, t3⟩ | ⟨t1, t2, t3, t4, t5⟩
        · simp only [hne, cond_false, t1, bne_self_eq_false, Option.bind_some, cond_true, equals_meets_1_J4, hw1, ret_some, LRP]
          exact ⟨⟨L', i + 1, rfl, hi, hLL, hx, hB.old hc hi hbad' (by rw [t3]; intro q hq; cases hq), hA, hS, hN, rfl⟩, by omega⟩
        · have u1 : ((E a c.1.1 i).To != -1) = true := by simp; omega
          have u2 : ((E b c.1.2 i).To != -1) = true := by simp; omega
          have hq : (Arr2.mk (E a c.1.1 i).To (E b c.1.2 i).To) = pA ((E a c.1.1 i).To.toNat, (E b c.1.2 i).To.toNat) := by
            simp only [pA, Arr2.mk.injEq]; omega
          have hq' : (Arr2.mk (E b c.1.1 i).To (E b c.1.2 i).To) = (Arr2.mk (E b c.1.1 i).To (E b c.1.2 i).To) := rfl
          generalize hqn : ((E a c.1.1 i).To.toNat, (E b c.1.2 i).To.toNat) = q at hq t5
          have hq1 : q.1 < a.Rows.length := by rw [← hqn]; exact t3
          have hq2 : q.2 < b.Rows.length := by rw [← hqn]; exact t4
          have hlen : (nodesA L').length = L'.length := by simp [nodesA]
          simp only [hne, cond_false, u1, u2, cond_true, hq, index_ret _ _ (show (nodesA L').length ≤ 4611686018427387903 by omega), Option.bind_some]
          by_cases hmem : pA q ∈ nodesA L'
          · have hs : (mget seen (pA q)).getD false = true := (hS (pA q)).2 hmem
            simp only [decide_eq_true hmem, Bool.not_true, cond_false, Option.bind_some, cond_true, hs, equals_meets_1_J4, hw1, ret_some, LRP]
            exact ⟨⟨L', i + 1, rfl, hi, hLL, hx, hB.old hc hi hbad' (by rw [t5]; intro q' e; cases e; exact mem_nodes.1 hmem), hA, hS, hN, rfl⟩, by omega⟩
          · have hs : (mget seen (pA q)).getD false = false := by
              cases hv : (mget seen (pA q)).getD false with
              | true => exact (hmem ((hS (pA q)).1 hv)).elim
              | false => rfl
            have hnew : ¬ ∃ b ∈ L', b.1 = q := fun e => hmem (mem_nodes.2 e)
            have hln : l.length = L'.length := hA.1
            have hg1 : (nodesA L').length + ([pA q] : List (Arr2 Int)).length ≤ 4294967296 := by rw [hlen]; simp; omega
            have hg2 : l.length + ([(S_equals_arrival.mk (pA q) (at_ : Int) (i : Int))] : List S_equals_arrival).length ≤ 4294967296 := by rw [hln]; simp; omega
            simp only [decide_eq_false hmem, Bool.not_false, cond_true, gdT hg1, Option.bind_some, hs, gdT hg2, equals_meets_1_J4, hw1, ret_some, LRP]
            refine ⟨⟨L' ++ [(q, i :: c.2)], i + 1, rfl, hi, by simp; omega, ?_, hB.new hc hi hbad' t5, arr_snoc hA hc q, seen_set hS q _, nodes_snoc hN _ hnew hq1 hq2, ?_⟩, by omega⟩
            · rw [List.getElem?_append_left (by omega)]; exact hx
            · simp [nodesA]
    · have hik' : i = kk a := by
        rw [← hka] at hge
        simp at hge
        omega
      subst hik'
      simp only [ret_some, LRP]
      exact ⟨L', hLL, hB, hA, hS, hN, rfl⟩
  have outer : Ret (loop (fun s => equals_meets_1_L1 a b (yOf (fun s x => equals_differ_I2 s.1 s.2 x.1 x.2)) s.1 s.2.1 s.2.2.1 s.2.2.2) ((.next ([], [Arr2.mk 0 0]) : LR (List Int × List (Arr2 Int)) (List Int × List (Arr2 Int))), (mset ([] : List (Arr2 Int × Bool)) (Arr2.mk 0 0) true), ([(S_equals_arrival.mk (Arr2.mk 0 0) (-1) 0)] : List S_equals_arrival), 0))
      (fun s => Fnd s ∨ ∃ L : LL, Bfs (kk a) (badP a b) (nxP a b) (0, 0) L L.length 0 ∧ Nodes a b L ∧ s = .next ([], nodesA L)) := by
    refine ret_loop (fun s => ∃ (L : LL) (j : Nat), s.2.2.2 = (j : Int) ∧ j ≤ L.length ∧ Inv L j 0 s.1 s.2.1 s.2.2.1) (fun s => 4097 - s.2.2.2.toNat) ⟨[((0, 0), [])], 0, rfl, Nat.zero_le _, Bfs.start, ?_, ?_, ?_, rfl⟩ (by simp) ?_
    · refine ⟨rfl, fun j c hc => ?_⟩
      cases j with
      | zero => simp at hc; subst hc; exact ⟨_, rfl, rfl, .inl ⟨rfl, rfl⟩⟩
      | succ j => simp at hc
    · intro q
      simp only [mset, mget, nodesA, List.map_cons, List.map_nil, List.mem_cons, List.not_mem_nil, or_false]
      by_cases e : (Arr2.mk 0 0 : Arr2 Int) = q
      · subst e; simp [pA]
      · have : ((Arr2.mk 0 0 : Arr2 Int) == q) = false := by simpa using e
        rw [this]
        simp only [Bool.false_eq_true, if_false, Option.getD_none, false_iff]
        intro g
        exact e g.symm
    · refine ⟨by simp, fun x hx => ?_⟩
      simp at hx
      subst hx
      exact ⟨va.len1, vb.len1⟩
    · rintro ⟨sg, seen, l, j'⟩ ⟨L, j, hj, hjl, hI⟩
      simp only at hj
      subst hj
      obtain ⟨hB, hA, hS, hN, hsg⟩ := hI
      simp only at hA hS hsg
      have hL4 := hN.length la lb
      unfold equals_meets_1_L1
      rw [ret_bif]
      refine ⟨fun hlt => ?_, fun hge => ?_⟩
      · have hlt' : j < L.length := by simp [hA.1] at hlt; exact hlt
        obtain ⟨x, hx, _⟩ := hA.2 j _ (List.getElem?_eq_getElem hlt')
        rw [idx_nat, bdT hx, bdT hx, ret_bind]
        refine (inner L j sg seen l x hlt' hx ⟨hB, hA, hS, hN, hsg⟩).mono ?_
        rintro (⟨sg', seen', l'⟩ | sg') h
        · obtain ⟨L', hl, hB', hA', hS', hN', hsg'⟩ := h
          have hL4' := hN'.length la lb
          have hw1 : w64 ((j : Int) + 1) = ((j + 1 : Nat) : Int) := by rw [w64_in (by omega) (by omega)]; rfl
          simp only [equals_meets_1_J2, hw1, ret_some, LRP]
          exact ⟨⟨L', j + 1, rfl, by omega, hB'.step (by omega), hA', hS', hN', hsg'⟩, by omega⟩
        · simp only [ret_some, LRP]
          exact .inl h
      · have : j = L.length := by
          simp [hA.1] at hge
          omega
        subst this
        simp only [ret_some, LRP]
        exact .inr ⟨L, hB, hN, hsg⟩
  unfold equals_differ equals_meets equals_meets_1
  simp only [Option.bind_some]
  obtain ⟨t, e, h⟩ := outer
  rw [e]
  simp only [Option.bind_some]
  rcases h with ⟨u, p, h1, h2, h3, rfl⟩ | ⟨L, h1, h2, rfl⟩
  · simp only [ret_some]
    exact .inl ⟨u, h1, h2, h3, rfl⟩
  · simp only [equals_differ_J1, ret_some]
    exact .inr ⟨L, h1, h2, rfl⟩
end
end Go.Own

namespace Go.Own
set_option linter.unusedVariables false
set_option linter.unusedSimpArgs false
theorem one_mod {a k : Int} (h0 : 0 ≤ a) (hk : 1 ≤ k) (hk2 : k ≤ 1000000) : 1 ≤ w64 (1 + w64 (Int.tmod a k)) ∧ w64 (1 + w64 (Int.tmod a k)) ≤ k := by
  have h1 := Int.tmod_nonneg k h0
  have h2 := Int.tmod_lt_of_pos a (show 0 < k by omega)
  rw [w64_in (x := Int.tmod a k) (by omega) (by omega), w64_in (by omega) (by omega)]
  omega
structure MOk (x : S_law04_M) : Prop where
  s0 : 0 ≤ x.States
  i0 : 0 ≤ x.Inputs
  o0 : 0 ≤ x.Outputs
  e0 : ∀ v ∈ x.Edges, 0 ≤ v ∧ v ≤ 65535
theorem v_ret {x : S_law04_M} {n o : Int} (hn : n = w64 (1 + w64 (Int.tmod x.States 6))) (ho : o = w64 (1 + w64 (Int.tmod x.Outputs 3))) (n1 : 1 ≤ n) (n2 : n ≤ 6) (o1 : 1 ≤ o) (o2 : o ≤ 3) (row : List S_api_Edge) (i v : Int) (hl : row.length ≤ 1000) (v0 : 0 ≤ v) (v1 : v ≤ 65535) :
    ∃ e : S_api_Edge, law04_M_Of_J7 x row i v = some (.next (row ++ [e], w64 (i + 1))) ∧ ((e.To = -1 ∧ e.Out = -1) ∨ (0 ≤ e.To ∧ e.To < n ∧ 0 ≤ e.Out ∧ e.Out < o)) := by
  have hv4 : Int.tdiv v 4 = v / 4 := Int.tdiv_eq_ediv_of_nonneg v0
  have w4 : w64 (Int.tdiv v 4) = v / 4 := by rw [hv4]; exact w64_in (by omega) (by omega)
  have d0 : 0 ≤ v / 4 := by omega
  have hd : Int.tdiv (v / 4) n = v / 4 / n := Int.tdiv_eq_ediv_of_nonneg d0
  have d1 : 0 ≤ v / 4 / n := Int.ediv_nonneg d0 (by omega)
  have d2 : v / 4 / n ≤ v / 4 := Int.ediv_le_self _ d0
  have w5 : w64 (Int.tdiv (v / 4) n) = v / 4 / n := by rw [hd]; exact w64_in (by omega) (by omega)
  have fit : (0 : Int) ≤ Int.tmod (v / 4) n ∧ Int.tmod (v / 4) n < n ∧ 0 ≤ Int.tmod (v / 4 / n) o ∧ Int.tmod (v / 4 / n) o < o :=
    ⟨Int.tmod_nonneg _ d0, Int.tmod_lt_of_pos _ (by omega), Int.tmod_nonneg _ d1, Int.tmod_lt_of_pos _ (by omega)⟩
  unfold law04_M_Of_J7
  rw [← hn, ← ho, w4, w5]
  have g4 : (4 : Int) ≠ 0 := by decide
  have gn : (n : Int) ≠ 0 := by omega
  have go : (o : Int) ≠ 0 := by omega
  have gl : ∀ e : S_api_Edge, row.length + ([e] : List S_api_Edge).length ≤ 4294967296 := fun e => by simp; omega
  simp only [gdT g4, gdT gn, gdT go, gdT (gl _)]
  cases x.Partial
  · exact ⟨_, rfl, .inr fit⟩
  · cases hc : (Int.tmod v 4 == 3)
    · exact ⟨_, rfl, .inr fit⟩
    · exact ⟨_, rfl, .inl ⟨rfl, rfl⟩⟩
theorem of_ret {x : S_law04_M} (h : MOk x) : Ret (law04_M_Of x) fun m => VM m ∧ m.Inputs = w64 (1 + w64 (Int.tmod x.Inputs 3)) ∧ m.Inputs ≤ 3 ∧ m.Outputs ≤ 3 ∧ m.Rows.length ≤ 6 := by
  have hn' := one_mod h.s0 (k := 6) (by omega) (by omega)
  have hi' := one_mod h.i0 (k := 3) (by omega) (by omega)
  have ho' := one_mod h.o0 (k := 3) (by omega) (by omega)
  obtain ⟨n, hn⟩ : ∃ n, n = w64 (1 + w64 (Int.tmod x.States 6)) := ⟨_, rfl⟩
  obtain ⟨k, hk⟩ : ∃ n, n = w64 (1 + w64 (Int.tmod x.Inputs 3)) := ⟨_, rfl⟩
  obtain ⟨o, ho⟩ : ∃ n, n = w64 (1 + w64 (Int.tmod x.Outputs 3)) := ⟨_, rfl⟩
  rw [← hn] at hn'
  rw [← hk] at hi'
  rw [← ho] at ho'
  have inner : ∀ s : Int, 0 ≤ s → s < n → Ret (loop (fun st => law04_M_Of_L5 x s st.1 st.2) (([] : List S_api_Edge), 0)) (fun r => (r.length : Int) = k ∧ ∀ e ∈ r, (e.To = -1 ∧ e.Out = -1) ∨ (0 ≤ e.To ∧ e.To < n ∧ 0 ≤ e.Out ∧ e.Out < o)) := by
    intro s s0 s1
    refine ret_loop (fun st => (st.1.length : Int) = st.2 ∧ st.2 ≤ k ∧ ∀ e ∈ st.1, (e.To = -1 ∧ e.Out = -1) ∨ (0 ≤ e.To ∧ e.To < n ∧ 0 ≤ e.Out ∧ e.Out < o)) (fun st => 10 - st.2.toNat) ⟨by simp, by omega, by simp⟩ (by simp) ?_
    rintro ⟨row, i⟩ ⟨h1, h2, h3⟩
    simp only at h1 h2 h3
    unfold law04_M_Of_L5
    rw [← hk, ret_bif]
    have hsk : s * k ≤ 5 * k := Int.mul_le_mul_of_nonneg_right (by omega) (by omega)
    have hsk0 : 0 ≤ s * k := Int.mul_nonneg s0 (by omega)
    have w1 : w64 (s * k) = s * k := w64_in (by omega) (by omega)
    have w2 : w64 (s * k + i) = s * k + i := w64_in (by omega) (by omega)
    rw [w1, w2]
    refine ⟨fun hlt => ?_, fun hge => ?_⟩
    · have hlt : i < k := of_decide_eq_true hlt
      have hw : w64 (i + 1) = i + 1 := w64_in (by omega) (by omega)
      have fin : ∀ v : Int, 0 ≤ v → v ≤ 65535 → Ret (law04_M_Of_J7 x row i v) (LRP (fun s' => (((s'.1.length : Nat) : Int) = s'.2 ∧ s'.2 ≤ k ∧ ∀ e ∈ s'.1, (e.To = -1 ∧ e.Out = -1) ∨ (0 ≤ e.To ∧ e.To < n ∧ 0 ≤ e.Out ∧ e.Out < o)) ∧ 10 - s'.2.toNat < 10 - i.toNat) (fun r => (r.length : Int) = k ∧ ∀ e ∈ r, (e.To = -1 ∧ e.Out = -1) ∨ (0 ≤ e.To ∧ e.To < n ∧ 0 ≤ e.Out ∧ e.Out < o))) := by
        intro v v0 v1
        obtain ⟨e, g1, g2⟩ := v_ret hn ho hn'.1 hn'.2 ho'.1 ho'.2 row i v (by omega) v0 v1
        rw [g1, hw, ret_some]
        refine ⟨⟨by simp; omega, by simp only; omega, fun e' he => ?_⟩, by simp only; omega⟩
        rcases List.mem_append.1 he with q | q
        · exact h3 e' q
        · simp only [List.mem_cons, List.not_mem_nil, or_false] at q; subst q; exact g2
      rw [ret_bif]
      refine ⟨fun hc => ?_, fun _ => fin 0 (by omega) (by omega)⟩
      have hc : s * k + i < ((x.Edges.length : Nat) : Int) := of_decide_eq_true hc
      rw [ret_bind, ret_idx]
      have hlt' : (s * k + i).toNat < x.Edges.length := by omega
      refine ⟨by omega, _, List.getElem?_eq_getElem hlt', ?_⟩
      have := h.e0 _ (List.getElem_mem hlt')
      rw [w64_in (by omega) (by omega)]
      exact fin _ this.1 this.2
    · have hge : ¬ i < k := of_decide_eq_false hge
      rw [ret_some]
      exact ⟨by simp only; omega, h3⟩
  unfold law04_M_Of
  simp only [ret_gd, ret_bind]
  refine ⟨by decide, by decide, by decide, ?_⟩
  refine (ret_loop (R := fun r => (r.length : Int) = n ∧ ∀ r' ∈ r, (r'.length : Int) = k ∧ ∀ e ∈ r', (e.To = -1 ∧ e.Out = -1) ∨ (0 ≤ e.To ∧ e.To < n ∧ 0 ≤ e.Out ∧ e.Out < o)) (fun st => (st.1.length : Int) = st.2 ∧ st.2 ≤ n ∧ ∀ r' ∈ st.1, (r'.length : Int) = k ∧ ∀ e ∈ r', (e.To = -1 ∧ e.Out = -1) ∨ (0 ≤ e.To ∧ e.To < n ∧ 0 ≤ e.Out ∧ e.Out < o)) (fun st => 10 - st.2.toNat) ⟨by simp, by omega, by simp⟩ (by simp) ?_).mono ?_
  · rintro ⟨rows, s⟩ ⟨h1, h2, h3⟩
    simp only at h1 h2 h3
    unfold law04_M_Of_L2
    rw [← hn, ret_bif]
    refine ⟨fun hlt => ?_, fun hge => ?_⟩
    · have hlt : s < n := of_decide_eq_true hlt
      rw [ret_bind]
      refine (inner s (by omega) hlt).mono fun row hrow => ?_
      unfold law04_M_Of_J4 law04_M_Of_J3
      rw [ret_gd, ret_some, w64_in (by omega) (by omega)]
      refine ⟨by simp; omega, ⟨by simp; omega, by simp only; omega, fun r' hr => ?_⟩, by simp only; omega⟩
      rcases List.mem_append.1 hr with q | q
      · exact h3 r' q
      · simp only [List.mem_cons, List.not_mem_nil, or_false] at q; subst q; exact hrow
    · have hge : ¬ s < n := of_decide_eq_false hge
      rw [ret_some]
      exact ⟨by simp only; omega, h3⟩
  · rintro rows ⟨h1, h2⟩
    unfold law04_M_Of_J1
    rw [ret_some, ← hk, ← ho]
    refine ⟨⟨hi'.1, by simp only; omega, ho'.1, by simp only; omega, by simp only; omega, by simp only; omega, fun r hr => (h2 r hr).1, fun r hr e he => ?_⟩, rfl, hi'.2, ho'.2, by simp only; omega⟩
    simp only [h1]
    exact (h2 r hr).2 e he
def bothS (a b : S_api_Machine) : Int := if chk a ≠ 0 then chk a else if chk b ≠ 0 then chk b else if a.Inputs ≠ b.Inputs then 5 else 0
theorem or_eq (x y : Int) : cmp_Or_api_Errno [x, y] = some (if x ≠ 0 then x else y) := by
  have hl : loop (fun s => cmp_Or_api_Errno_L2 [x, y] s) 0 = some (oS (firstS (fun _ v => if v ≠ 0 then some v else none) [x, y] 0)) := by
    refine loop_list [x, y] (by simp) _ ?_ ?_
    · intro i v hv
      have hi := (List.getElem?_eq_some_iff.1 hv).1
      unfold cmp_Or_api_Errno_L2
      have hd : decide ((i : Int) < (([x, y].length : Nat) : Int)) = true := by simp at hi ⊢; omega
      rw [hd, cond_true, idx_nat, bdT hv]
      by_cases h : v = 0
      · simp [nS, h]
      · simp [nS, h, Bool.cond_eq_ite]
    · rfl
  unfold cmp_Or_api_Errno
  rw [bdT hl]
  by_cases h : x = 0
  · by_cases q : y = 0
    · simp [firstS, oS, h, q, cmp_Or_api_Errno_J1]
    · simp [firstS, oS, h, q]
  · simp [firstS, oS, h]
theorem both_eq (a b : S_api_Machine) : equals_both a b = some (bothS a b) := by
  unfold equals_both equals_both_J1 bothS
  rw [bdT (check_eq a), bdT (check_eq b), bdT (or_eq _ _)]
  by_cases h : chk a = 0
  · by_cases q : chk b = 0
    · by_cases r : a.Inputs = b.Inputs
      · simp [h, q, r]
      · simp [h, q, r, Bool.cond_eq_ite]
    · simp [h, q, Bool.cond_eq_ite]
  · simp [h, Bool.cond_eq_ite]
theorem both_ok {a b : S_api_Machine} (h : bothS a b = 0) : VM a ∧ VM b ∧ a.Inputs = b.Inputs := by
  unfold bothS at h
  split at h
  · rename_i q; exact (q h).elim
  split at h
  · rename_i q; exact (q h).elim
  split at h
  · cases h
  · rename_i h1 h2 h3
    exact ⟨vm_of (by simpa using h1), vm_of (by simpa using h2), by simpa using h3⟩
theorem both_of {a b : S_api_Machine} (ha : VM a) (hb : VM b) (h : a.Inputs = b.Inputs) : bothS a b = 0 := by
  unfold bothS
  simp [chk_of ha, chk_of hb, h]
def DiffS (a b : S_api_Machine) (w : List Int) (is : Bool) : Prop :=
  (∃ u, TellR (kk a) (badP a b) (nxP a b) (0, 0) u ∧ (∀ w, TellR (kk a) (badP a b) (nxP a b) (0, 0) w → rv (kk a) u ≤ rv (kk a) w) ∧ w = u.reverse.map Int.ofNat ∧ is = true) ∨
  ((∀ u, ¬ TellR (kk a) (badP a b) (nxP a b) (0, 0) u) ∧ w = [] ∧ is = false)
theorem bfs_none {a b : S_api_Machine} {L : LL} (h : Bfs (kk a) (badP a b) (nxP a b) (0, 0) L L.length 0) (u : List Nat) : ¬ TellR (kk a) (badP a b) (nxP a b) (0, 0) u := fun hu =>
  h.least hu fun c hc => by have := (List.getElem?_eq_some_iff.1 hc).1; omega
theorem Differ_ret {a b : S_api_Machine} (h : bothS a b = 0) : Ret (equals_Differ a b) fun r => r.2.2 = 0 ∧ DiffS a b r.1 r.2.1 := by
  obtain ⟨va, vb, hab⟩ := both_ok h
  unfold equals_Differ
  rw [bdT (both_eq a b), h]
  simp only [bne_self_eq_false, cond_false, ret_bind]
  refine (differ_ret va vb hab).mono fun r hr => ?_
  rw [ret_some]
  refine ⟨rfl, ?_⟩
  rcases hr with ⟨u, h1, h2, h3, rfl⟩ | ⟨L, h1, h2, rfl⟩
  · refine .inl ⟨u, h1, h2, rfl, ?_⟩
    cases u with
    | nil => exact h1.elim
    | cons x u => simp
  · exact .inr ⟨bfs_none h1, rfl, rfl⟩
end Go.Own

namespace Go.Own
set_option linter.unusedVariables false
set_option linter.unusedSimpArgs false
structure DOk (x : S_law10_D) : Prop where
  m : MOk x.M
  x2 : MOk x.X
  s0 : 0 ≤ x.Swap.e0 ∧ x.Swap.e0 ≤ 255
  s1 : 0 ≤ x.Swap.e1 ∧ x.Swap.e1 ≤ 255
  p0 : 0 ≤ x.Place.e0 ∧ x.Place.e0 ≤ 255
  p1 : 0 ≤ x.Place.e1 ∧ x.Place.e1 ≤ 255
theorem copy_eq (m : S_api_Machine) (h : m.Rows.length ≤ 100) (h2 : ∀ r ∈ m.Rows, r.length ≤ 1000) : ref04_Copy m = some m := by
  have hl : loop (fun s => ref04_Copy_L2 m s.1 s.2) (([] : List (List S_api_Edge)), 0) = some m.Rows := by
    refine Ret.eq (ret_loop (fun s => ∃ i : Nat, s.2 = (i : Int) ∧ i ≤ m.Rows.length ∧ s.1 = m.Rows.take i) (fun s => 200 - s.2.toNat) ⟨0, rfl, Nat.zero_le _, rfl⟩ (by simp) ?_)
    rintro ⟨out, i'⟩ ⟨i, hi, hil, ho⟩
    simp only at hi ho
    subst hi ho
    unfold ref04_Copy_L2
    rw [ret_bif]
    refine ⟨fun hlt => ?_, fun hge => ?_⟩
    · have hlt : i < m.Rows.length := by simpa using hlt
      have hx : m.Rows[i]? = some m.Rows[i] := List.getElem?_eq_getElem hlt
      have := h2 _ (List.getElem_mem hlt)
      have hw : w64 ((i : Int) + 1) = ((i + 1 : Nat) : Int) := by rw [w64_in (by omega) (by omega)]; rfl
      rw [idx_nat, bdT hx, gdT (by simp; omega), gdT (by simp; omega), ret_some, hw]
      exact ⟨⟨i + 1, rfl, hlt, by rw [List.take_add_one, hx]; rfl⟩, by simp only; omega⟩
    · have : i = m.Rows.length := by simp at hge; omega
      subst this
      rw [ret_some, List.take_length]
      rfl
  unfold ref04_Copy ref04_Copy_J1
  rw [bdT hl]
def RowsOk (n k o : Int) (rows : List (List S_api_Edge)) : Prop := (rows.length : Int) = n ∧ ∀ r ∈ rows, (r.length : Int) = k ∧ ∀ e ∈ r, (e.To = -1 ∧ e.Out = -1) ∨ (0 ≤ e.To ∧ e.To < n ∧ 0 ≤ e.Out ∧ e.Out < o)
theorem rows_of {m : S_api_Machine} (h : VM m) : RowsOk m.Rows.length m.Inputs m.Outputs m.Rows := ⟨rfl, fun r hr => ⟨h.row r hr, fun e he => h.edge r hr e he⟩⟩
theorem RowsOk.set {n k o : Int} {rows : List (List S_api_Edge)} (h : RowsOk n k o rows) {s i : Nat} {r : List S_api_Edge} (hr : rows[s]? = some r) {e : S_api_Edge} (he : (e.To = -1 ∧ e.Out = -1) ∨ (0 ≤ e.To ∧ e.To < n ∧ 0 ≤ e.Out ∧ e.Out < o)) : RowsOk n k o (rows.set s (r.set i e)) := by
  refine ⟨by simpa using h.1, fun r' hr' => ?_⟩
  rcases List.mem_or_eq_of_mem_set hr' with g | g
  · exact h.2 r' g
  · subst g
    have := h.2 r (List.mem_of_getElem? hr)
    refine ⟨by simpa using this.1, fun e' he' => ?_⟩
    rcases List.mem_or_eq_of_mem_set he' with g | g
    · exact this.2 e' g
    · subst g; exact he
theorem vm_rows {m : S_api_Machine} (h : VM m) {rows : List (List S_api_Edge)} (hr : RowsOk m.Rows.length m.Inputs m.Outputs rows) : VM ⟨m.Inputs, m.Outputs, rows⟩ := by
  have e : rows.length = m.Rows.length := by have := hr.1; omega
  refine ⟨h.in1, h.in16, h.out1, h.out16, by rw [e]; exact h.len1, by rw [e]; exact h.len64, fun r q => (hr.2 r q).1, fun r q x hx => ?_⟩
  have := (hr.2 r q).2 x hx
  simp only [e]
  exact this
theorem d_of {x : S_law10_D} (h : DOk x) : Ret (law10_D_Of x) fun r => VM r.1 ∧ VM r.2 ∧ r.1.Inputs = r.2.Inputs ∧ r.1.Rows.length ≤ 6 ∧ r.2.Rows.length ≤ 6 := by
  unfold law10_D_Of
  rw [ret_bind]
  refine (of_ret h.m).mono fun a ha => ?_
  obtain ⟨va, ia, i3, o3, l6⟩ := ha
  rw [ret_bif]
  refine ⟨fun _ => ?_, fun _ => ?_⟩
  · rw [ret_bind]
    refine (of_ret (x := ⟨x.X.States, x.M.Inputs, x.X.Outputs, x.X.Partial, x.X.Edges⟩) ⟨h.x2.s0, h.m.i0, h.x2.o0, h.x2.e0⟩).mono fun b hb => ?_
    rw [ret_some]
    exact ⟨va, hb.1, by rw [ia, hb.2.1], l6, hb.2.2.2.2⟩
  have hto : Ret (loop (fun s => law10_D_Of_L8 a s.1 s.2) (([] : List Int), 0)) fun t => t.length = a.Rows.length ∧ ∀ v ∈ t, 0 ≤ v ∧ v < (a.Rows.length : Int) := by
    refine ret_loop (fun s => ∃ i : Nat, s.2 = (i : Int) ∧ i ≤ a.Rows.length ∧ s.1.length = i ∧ ∀ v ∈ s.1, 0 ≤ v ∧ v < (a.Rows.length : Int)) (fun s => 200 - s.2.toNat) ⟨0, rfl, Nat.zero_le _, rfl, by simp⟩ (by simp) ?_
    rintro ⟨t, i'⟩ ⟨i, hi, hil, hl, hv⟩
    simp only at hi hl hv
    subst hi
    unfold law10_D_Of_L8
    rw [ret_bif]
    refine ⟨fun hlt => ?_, fun hge => ?_⟩
    · have hlt : i < a.Rows.length := by simpa using hlt
      have hw : w64 ((i : Int) + 1) = ((i + 1 : Nat) : Int) := by rw [w64_in (by omega) (by omega)]; rfl
      rw [gdT (by simp; omega), ret_some, hw]
      refine ⟨⟨i + 1, rfl, hlt, by simp [hl], fun v hm => ?_⟩, by simp only; omega⟩
      rcases List.mem_append.1 hm with g | g
      · exact hv v g
      · rw [List.mem_singleton.1 g]; omega
    · have : i = a.Rows.length := by simp at hge; omega
      subst this
      rw [ret_some]
      exact ⟨hl, hv⟩
  have rest : ∀ t : List Int, t.length = a.Rows.length → (∀ v ∈ t, 0 ≤ v ∧ v < (a.Rows.length : Int)) → Ret (law10_D_Of_J2 x a t) fun r => VM r.1 ∧ VM r.2 ∧ r.1.Inputs = r.2.Inputs ∧ r.1.Rows.length ≤ 6 ∧ r.2.Rows.length ≤ 6 := by
    intro t tl tv
    have hrl : ∀ r ∈ a.Rows, r.length ≤ 1000 := fun r hr => by have := va.row r hr; omega
    unfold law10_D_Of_J2
    rw [bdT (copy_eq a (by omega) hrl), ret_bind]
    have hk := va.kk_eq
    have k16 := va.kk_le
    have tAt : ∀ s : Nat, s < a.Rows.length → ∃ v, t[s]? = some v ∧ 0 ≤ v ∧ v < (a.Rows.length : Int) := fun s hs => by
      have hs' : s < t.length := by omega
      exact ⟨_, List.getElem?_eq_getElem hs', tv _ (List.getElem_mem hs')⟩
    have inner : ∀ (s : Nat) (rows : List (List S_api_Edge)), s < a.Rows.length → RowsOk a.Rows.length a.Inputs a.Outputs rows → Ret (loop (fun q => law10_D_Of_L6 a t (s : Int) q.1 q.2) (rows, 0)) fun r => RowsOk a.Rows.length a.Inputs a.Outputs r := by
      intro s rows hs hrows
      refine ret_loop (fun q => ∃ i : Nat, q.2 = (i : Int) ∧ i ≤ kk a ∧ RowsOk a.Rows.length a.Inputs a.Outputs q.1) (fun q => 200 - q.2.toNat) ⟨0, rfl, Nat.zero_le _, hrows⟩ (by simp) ?_
      rintro ⟨q, i'⟩ ⟨i, hi, hil, hq⟩
      simp only at hi hq
      subst hi
      unfold law10_D_Of_L6
      rw [ret_bif]
      refine ⟨fun hlt => ?_, fun hge => ?_⟩
      · have hlt : i < kk a := by rw [← hk] at hlt; simpa using hlt
        have hw : w64 ((i : Int) + 1) = ((i + 1 : Nat) : Int) := by rw [w64_in (by omega) (by omega)]; rfl
        have hed := va.edgeAt hs hlt
        rw [va.edge_eq hs hlt]
        have fin : ∀ z : Int, ((z = -1 ∧ (E a s i).Out = -1) ∨ (0 ≤ z ∧ z < (a.Rows.length : Int) ∧ 0 ≤ (E a s i).Out ∧ (E a s i).Out < a.Outputs)) →
            Ret (law10_D_Of_J7 t (s : Int) q (i : Int) (E a s i) z) (LRP (fun s' => (∃ j : Nat, s'.2 = (j : Int) ∧ j ≤ kk a ∧ RowsOk a.Rows.length a.Inputs a.Outputs s'.1) ∧ 200 - s'.2.toNat < 200 - (i : Int).toNat) (fun r => RowsOk a.Rows.length a.Inputs a.Outputs r)) := by
          intro z hz
          obtain ⟨v, v1, v2, v3⟩ := tAt s hs
          unfold law10_D_Of_J7
          rw [idx_nat, bdT v1, ret_bind, ret_idx]
          have hql : v.toNat < q.length := by have := hq.1; omega
          have hqr : q[v.toNat]? = some q[v.toNat] := List.getElem?_eq_getElem hql
          have hrow := (hq.2 _ (List.getElem_mem hql)).1
          have hi2 : i < q[v.toNat].length := by omega
          refine ⟨v2, _, hqr, ?_⟩
          rw [idx_nat, bdT (List.getElem?_eq_getElem hi2), ret_some, hw]
          exact ⟨⟨i + 1, rfl, hlt, hq.set hqr hz⟩, by simp only; omega⟩
        rw [ret_bif]
        refine ⟨fun hto => ?_, fun hto => ?_⟩
        · have hto : (E a s i).To ≥ 0 := of_decide_eq_true hto
          rcases hed with ⟨g1, _⟩ | ⟨g1, g2, g3, g4⟩
          · omega
          · obtain ⟨v, v1, v2, v3⟩ := tAt (E a s i).To.toNat (by omega)
            rw [ret_bind, ret_idx]
            exact ⟨g1, v, v1, fin v (.inr ⟨v2, v3, g3, g4⟩)⟩
        · have hto : ¬ (E a s i).To ≥ 0 := of_decide_eq_false hto
          rcases hed with ⟨g1, g2⟩ | ⟨g1, g2, g3, g4⟩
          · exact fin _ (.inl ⟨g1, g2⟩)
          · omega
      · rw [ret_some]
        exact hq
    have outer : Ret (loop (fun s => law10_D_Of_L4 a t s.1 s.2) (a.Rows, 0)) fun r => RowsOk a.Rows.length a.Inputs a.Outputs r := by
      refine ret_loop (fun q => ∃ i : Nat, q.2 = (i : Int) ∧ i ≤ a.Rows.length ∧ RowsOk a.Rows.length a.Inputs a.Outputs q.1) (fun q => 200 - q.2.toNat) ⟨0, rfl, Nat.zero_le _, rows_of va⟩ (by simp) ?_
      rintro ⟨q, i'⟩ ⟨i, hi, hil, hq⟩
      simp only at hi hq
      subst hi
      unfold law10_D_Of_L4 law10_D_Of_J5
      rw [ret_bif]
      refine ⟨fun hlt => ?_, fun hge => ?_⟩
      · have hlt : i < a.Rows.length := by simpa using hlt
        have hw : w64 ((i : Int) + 1) = ((i + 1 : Nat) : Int) := by rw [w64_in (by omega) (by omega)]; rfl
        rw [ret_bind]
        refine (inner i q hlt hq).mono fun r hr => ?_
        rw [ret_some, hw]
        exact ⟨⟨i + 1, rfl, hlt, hr⟩, by simp only; omega⟩
      · rw [ret_some]
        exact hq
    refine outer.mono fun rows hrows => ?_
    have vb := vm_rows va hrows
    have hrl' : ∀ r ∈ rows, r.length ≤ 1000 := fun r hr => by have := (hrows.2 r hr).1; omega
    have hrn := hrows.1
    unfold law10_D_Of_J3
    have hcp : ref04_Copy (S_api_Machine.mk a.Inputs a.Outputs rows) = some ⟨a.Inputs, a.Outputs, rows⟩ := copy_eq _ (by simp only; omega) hrl'
    rw [bdT hcp]
    have n0 : 1 ≤ a.Rows.length := va.len1
    have k0 : 1 ≤ a.Inputs := va.in1
    have w0 : w64 x.Place.e0 = x.Place.e0 := w64_in (by have := h.p0; omega) (by have := h.p0; omega)
    have w1 : w64 x.Place.e1 = x.Place.e1 := w64_in (by have := h.p1; omega) (by have := h.p1; omega)
    rw [w0, w1]
    have m0 := Int.tmod_nonneg (a.Rows.length : Int) h.p0.1
    have m1 := Int.tmod_lt_of_pos x.Place.e0 (show (0 : Int) < (a.Rows.length : Int) by omega)
    have m2 := Int.tmod_nonneg a.Inputs h.p1.1
    have m3 := Int.tmod_lt_of_pos x.Place.e1 (show (0 : Int) < a.Inputs by omega)
    generalize Int.tmod x.Place.e0 (a.Rows.length : Int) = ps at m0 m1 ⊢
    generalize Int.tmod x.Place.e1 a.Inputs = pi at m2 m3 ⊢
    have hpl : ps.toNat < rows.length := by omega
    rw [ret_gd]
    refine ⟨by omega, ?_⟩
    rw [ret_bind, ret_idx]
    refine ⟨m0, _, List.getElem?_eq_getElem hpl, ?_⟩
    have hrow := (hrows.2 _ (List.getElem_mem hpl)).1
    rw [ret_gd]
    refine ⟨by omega, ?_⟩
    rw [ret_bind, ret_idx]
    refine ⟨m2, _, List.getElem?_eq_getElem (show pi.toNat < rows[ps.toNat].length by omega), ?_⟩
    rw [bdT (ref_check _), ret_bif]
    refine ⟨fun hc => ?_, fun _ => ?_⟩
    · rw [ret_some]
      have hc := vm_of (show chk _ = 0 by simpa using hc)
      refine ⟨va, hc, rfl, l6, ?_⟩
      simp only [List.length_set]
      omega
    · rw [ret_some]
      exact ⟨va, vb, rfl, l6, by simp only; omega⟩
  rw [ret_bind]
  refine hto.mono fun t ht => ?_
  obtain ⟨tl, tv⟩ := ht
  unfold law10_D_Of_J1
  rw [ret_bif]
  refine ⟨fun hn => ?_, fun _ => rest t tl tv⟩
  have hn : (a.Rows.length : Int) > 1 := of_decide_eq_true hn
  have wn : w64 ((a.Rows.length : Int) - 1) = (a.Rows.length : Int) - 1 := w64_in (by omega) (by omega)
  have w0 : w64 x.Swap.e0 = x.Swap.e0 := w64_in (by have := h.s0; omega) (by have := h.s0; omega)
  have w1 : w64 x.Swap.e1 = x.Swap.e1 := w64_in (by have := h.s1; omega) (by have := h.s1; omega)
  rw [wn, w0, w1]
  have m0 := Int.tmod_nonneg ((a.Rows.length : Int) - 1) h.s0.1
  have m1 := Int.tmod_lt_of_pos x.Swap.e0 (show (0 : Int) < (a.Rows.length : Int) - 1 by omega)
  have m2 := Int.tmod_nonneg ((a.Rows.length : Int) - 1) h.s1.1
  have m3 := Int.tmod_lt_of_pos x.Swap.e1 (show (0 : Int) < (a.Rows.length : Int) - 1 by omega)
  generalize Int.tmod x.Swap.e0 ((a.Rows.length : Int) - 1) = p at m0 m1 ⊢
  generalize Int.tmod x.Swap.e1 ((a.Rows.length : Int) - 1) = q at m2 m3 ⊢
  have wp : w64 (1 + p) = 1 + p := w64_in (by omega) (by omega)
  have wq : w64 (1 + q) = 1 + q := w64_in (by omega) (by omega)
  rw [wp, wq, ret_gd]
  refine ⟨by omega, ?_⟩
  rw [ret_gd]
  refine ⟨by omega, ?_⟩
  have hq : (1 + q).toNat < t.length := by omega
  have hp : (1 + p).toNat < t.length := by omega
  rw [ret_bind, ret_idx]
  refine ⟨by omega, _, List.getElem?_eq_getElem hq, ?_⟩
  rw [ret_bind, ret_idx]
  refine ⟨by omega, _, List.getElem?_eq_getElem hp, ?_⟩
  rw [ret_bind, ret_idx]
  refine ⟨by omega, _, List.getElem?_eq_getElem hp, ?_⟩
  rw [ret_bind, ret_idx]
  refine ⟨by omega, _, List.getElem?_eq_getElem (by simpa using hq), ?_⟩
  refine rest _ (by simpa using tl) fun v hv => ?_
  rcases List.mem_or_eq_of_mem_set hv with g | g
  · rcases List.mem_or_eq_of_mem_set g with g | g
    · exact tv v g
    · subst g; exact tv _ (List.getElem_mem hq)
  · subst g; exact tv _ (List.getElem_mem hp)
end Go.Own

namespace Go.Own
set_option linter.unusedVariables false
set_option linter.unusedSimpArgs false
theorem countP_lt {α : Type} {p q : α → Bool} : ∀ {l : List α}, (∀ x ∈ l, p x = true → q x = true) → (∃ x ∈ l, q x = true ∧ p x = false) → l.countP p < l.countP q
  | [], _, ⟨x, hx, _⟩ => by cases hx
  | y :: l, h, ⟨x, hx, h1, h2⟩ => by
    have hm : l.countP p ≤ l.countP q := List.countP_mono_left fun z hz => h z (List.mem_cons_of_mem _ hz)
    simp only [List.countP_cons]
    rcases List.mem_cons.1 hx with rfl | hx
    · simp only [h1, h2, if_true, Bool.false_eq_true, if_false]
      omega
    · have := countP_lt (fun z hz => h z (List.mem_cons_of_mem _ hz)) ⟨x, hx, h1, h2⟩
      cases hp : p y with
      | true => simp only [h y (by simp) hp, if_true]; omega
      | false =>
        simp only [Bool.false_eq_true, if_false]
        split <;> omega
open Classical in
noncomputable def reps (N : Nat) (R : Nat → Nat → Prop) : Nat := (List.range N).countP fun s => decide (∀ t, t < s → ¬ R s t)
theorem stab {N : Nat} (hN : 0 < N) (R : Nat → Nat → Nat → Prop) (symm : ∀ k s t, s < N → t < N → R k s t → R k t s) (trans : ∀ k s t u, s < N → t < N → u < N → R k s t → R k t u → R k s u)
    (refl : ∀ k s, s < N → R k s s) (mono : ∀ k s t, s < N → t < N → R (k + 1) s t → R k s t) (stat : ∀ k, (∀ s t, s < N → t < N → R k s t → R (k + 1) s t) → ∀ s t, s < N → t < N → R (k + 1) s t → R (k + 2) s t) :
    ∀ s t, s < N → t < N → R (N - 1) s t → ∀ j, R j s t := by
  classical
  have step : ∀ k, (¬ ∀ s t, s < N → t < N → R k s t → R (k + 1) s t) → reps N (R k) < reps N (R (k + 1)) := by
    intro k hk
    simp only [Classical.not_forall] at hk
    obtain ⟨s, t, hs, ht, h1, h2⟩ := hk
    unfold reps
    refine countP_lt (fun x hx => ?_) ?_
    · have hx := List.mem_range.1 hx
      simp only [decide_eq_true_eq]
      exact fun h t ht q => h t ht (mono k x t hx (by omega) q)
    ·
      have hmin : ∃ z, z < N ∧ R k z s ∧ ∀ y, y < z → ¬ R k y s := by
        have key : ∀ n, ∀ z, z ≤ n → z < N → R k z s → ∃ z, z < N ∧ R k z s ∧ ∀ y, y < z → ¬ R k y s := by
          intro n
          induction n with
          | zero => intro z hz hzN hr; exact ⟨z, hzN, hr, fun y hy => by omega⟩
          | succ n ih =>
            intro z hz hzN hr
            by_cases q : ∃ y, y < z ∧ R k y s
            · obtain ⟨y, y1, y2⟩ := q
              exact ih y (by omega) (by omega) y2
            · exact ⟨z, hzN, hr, fun y hy g => q ⟨y, hy, g⟩⟩
        exact key s s (Nat.le_refl _) hs (refl k s hs)
      obtain ⟨z, hz, hzs, hzm⟩ := hmin
      have hzt : R k z t := trans k z s t hz hs ht hzs h1
      obtain ⟨u, hu, hzu, hne⟩ : ∃ u, u < N ∧ R k z u ∧ ¬ R (k + 1) z u := by
        by_cases q : R (k + 1) z s
        · by_cases g : R (k + 1) z t
          · exact (h2 (trans (k + 1) s z t hs hz ht (symm _ _ _ hz hs q) g)).elim
          · exact ⟨t, ht, hzt, g⟩
        · exact ⟨s, hs, hzs, q⟩
      have hmin : ∃ y, y < N ∧ R (k + 1) y u ∧ ∀ x, x < y → ¬ R (k + 1) x u := by
        have key : ∀ n, ∀ z, z ≤ n → z < N → R (k + 1) z u → ∃ z, z < N ∧ R (k + 1) z u ∧ ∀ y, y < z → ¬ R (k + 1) y u := by
          intro n
          induction n with
          | zero => intro z hz hzN hr; exact ⟨z, hzN, hr, fun y hy => by omega⟩
          | succ n ih =>
            intro z hz hzN hr
            by_cases q : ∃ y, y < z ∧ R (k + 1) y u
            · obtain ⟨y, y1, y2⟩ := q
              exact ih y (by omega) (by omega) y2
            · exact ⟨z, hzN, hr, fun y hy g => q ⟨y, hy, g⟩⟩
        exact key u u (Nat.le_refl _) hu (refl _ u hu)
      obtain ⟨y, hy, hyu, hym⟩ := hmin
      have hyk : R k y u := mono k y u hy hu hyu
      have hyz : R k y z := trans k y u z hy hu hz hyk (symm _ _ _ hz hu hzu)
      have hzy : z < y := by
        rcases Nat.lt_trichotomy z y with g | g | g
        · exact g
        · subst g; exact (hne hyu).elim
        · exact (hzm y g (trans k y z s hy hz hs hyz hzs)).elim
      refine ⟨y, List.mem_range.2 hy, ?_, ?_⟩
      · simp only [decide_eq_true_eq]
        intro x hx q
        exact hym x hx (trans (k + 1) x y u (by omega) hy hu (symm _ _ _ hy (by omega) q) hyu)
      · simp only [decide_eq_false_iff_not]
        intro q
        exact q z hzy hyz
  have le : ∀ k, reps N (R k) ≤ N := by
    intro k
    unfold reps
    refine Nat.le_trans (List.countP_le_length) ?_
    simp
  have one : ∀ k, 1 ≤ reps N (R k) := by
    intro k
    unfold reps
    refine List.countP_pos_iff.2 ⟨0, List.mem_range.2 hN, ?_⟩
    simp
  have rest : ∃ k, k < N ∧ ∀ s t, s < N → t < N → R k s t → R (k + 1) s t := by
    refine Classical.byContradiction fun hno => ?_
    have : ∀ k, k ≤ N → k + 1 ≤ reps N (R k) := by
      intro k
      induction k with
      | zero => intro _; exact one 0
      | succ k ih =>
        intro hk
        have := step k fun h => hno ⟨k, by omega, h⟩
        have := ih (by omega)
        omega
    have := this N (Nat.le_refl _)
    have := le N
    omega
  obtain ⟨k, hk, hst⟩ := rest
  have up : ∀ d, ∀ s t, s < N → t < N → R (k + d) s t → R (k + d + 1) s t := by
    intro d
    induction d with
    | zero => exact hst
    | succ d ih => exact stat (k + d) ih
  have down : ∀ d j s t, s < N → t < N → R (j + d) s t → R j s t := by
    intro d
    induction d with
    | zero => intro j s t _ _ h; exact h
    | succ d ih => intro j s t hs ht h; exact ih j s t hs ht (mono _ s t hs ht h)
  intro s t hs ht h j
  have hk' : R k s t := down (N - 1 - k) k s t hs ht (by rw [show k + (N - 1 - k) = N - 1 by omega]; exact h)
  have far : ∀ d, R (k + d) s t := by
    intro d
    induction d with
    | zero => exact hk'
    | succ d ih => exact up d s t hs ht ih
  exact down k j s t hs ht (by rw [Nat.add_comm]; exact far j)
section
variable {S S' : Type} {k : Nat} {bad : S → Nat → Bool} {nx : S → Nat → Option S} {bad' : S' → Nat → Bool} {nx' : S' → Nat → Option S'} (φ : S → S') (I : S → Prop)
  (hI : ∀ p i q, I p → i < k → nx p i = some q → I q) (hb : ∀ p i, I p → i < k → bad' (φ p) i = bad p i) (hn : ∀ p i, I p → i < k → nx' (φ p) i = (nx p i).map φ)
include hI hb hn
theorem mk_along : ∀ (n : Nat) (p : S), I p → (Mk k bad' nx' n (φ p) ↔ Mk k bad nx n p)
  | 0, _, _ => Iff.rfl
  | n + 1, p, hp => by
    simp only [Mk]
    rw [mk_along n p hp]
    constructor
    · rintro (h | ⟨i, hi, h | ⟨q, hq, h⟩⟩)
      · exact .inl h
      · exact .inr ⟨i, hi, .inl (by rw [← hb p i hp hi]; exact h)⟩
      · rw [hn p i hp hi] at hq
        obtain ⟨r, hr, rfl⟩ := Option.map_eq_some_iff.1 hq
        exact .inr ⟨i, hi, .inr ⟨r, hr, (mk_along n r (hI p i r hp hi hr)).1 h⟩⟩
    · rintro (h | ⟨i, hi, h | ⟨q, hq, h⟩⟩)
      · exact .inl h
      · exact .inr ⟨i, hi, .inl (by rw [hb p i hp hi]; exact h)⟩
      · exact .inr ⟨i, hi, .inr ⟨φ q, by rw [hn p i hp hi, hq]; rfl, (mk_along n q (hI p i q hp hi hq)).2 h⟩⟩
theorem greedy_along : ∀ (n : Nat) (p : S) (w : List Nat), I p → Greedy k bad' nx' n (φ p) w → Greedy k bad nx n p w
  | 0, _, _, _, h => h
  | n + 1, p, w, hp, ⟨i, u, e, hi, h1, h2, h3, h4⟩ => by
    refine ⟨i, u, e, hi, ?_, ?_, ?_, h4⟩
    · rcases h1 with h | ⟨q, hq, h⟩
      · exact .inl (by rw [← hb p i hp hi]; exact h)
      · rw [hn p i hp hi] at hq
        obtain ⟨r, hr, rfl⟩ := Option.map_eq_some_iff.1 hq
        exact .inr ⟨r, hr, (mk_along φ I hI hb hn n r (hI p i r hp hi hr)).1 h⟩
    · intro j hj h
      apply h2 j hj
      rcases h with h | ⟨q, hq, h⟩
      · exact .inl (by rw [hb p j hp (by omega)]; exact h)
      · exact .inr ⟨φ q, by rw [hn p j hp (by omega), hq]; rfl, (mk_along φ I hI hb hn n q (hI p j q hp (by omega) hq)).2 h⟩
    · intro hn0
      obtain ⟨q, hq, h⟩ := h3 hn0
      rw [hn p i hp hi] at hq
      obtain ⟨r, hr, rfl⟩ := Option.map_eq_some_iff.1 hq
      exact ⟨r, hr, greedy_along n r u (hI p i r hp hi hr) h⟩
end
end Go.Own

namespace Go.Own
set_option linter.unusedVariables false
set_option linter.unusedSimpArgs false
structure WM (m : S_api_Machine) : Prop where
  in1 : 1 ≤ m.Inputs
  in16 : m.Inputs ≤ 16
  len1 : 1 ≤ m.Rows.length
  len : m.Rows.length ≤ 128
  row : ∀ r ∈ m.Rows, (r.length : Int) = m.Inputs
  edge : ∀ r ∈ m.Rows, ∀ x ∈ r, (x.To = -1 ∧ x.Out = -1) ∨ (0 ≤ x.To ∧ x.To < (m.Rows.length : Int) ∧ 0 ≤ x.Out)
section
variable {m : S_api_Machine} (h : WM m)
include h
theorem WM.kk_eq : ((kk m : Nat) : Int) = m.Inputs := by have := h.in1; unfold kk; omega
theorem WM.kk_le : kk m ≤ 16 := by have := h.in16; unfold kk; omega
theorem WM.rowAt {s : Nat} (hs : s < m.Rows.length) : ∃ r, m.Rows[s]? = some r ∧ r.length = kk m ∧ ∀ i, i < kk m → r[i]? = some (E m s i) := by
  have hr := List.getElem?_eq_getElem hs
  have hl := h.row _ (List.getElem_mem hs)
  have hl' : m.Rows[s].length = kk m := by unfold kk; omega
  refine ⟨_, hr, hl', fun i hi => ?_⟩
  have hi' : i < m.Rows[s].length := by omega
  unfold E
  rw [hr]
  simp only [Option.getD_some]
  rw [List.getElem?_eq_getElem hi']
  rfl
theorem WM.edgeAt {s i : Nat} (hs : s < m.Rows.length) (hi : i < kk m) : ((E m s i).To = -1 ∧ (E m s i).Out = -1) ∨ (0 ≤ (E m s i).To ∧ (E m s i).To < (m.Rows.length : Int) ∧ 0 ≤ (E m s i).Out) := by
  obtain ⟨r, h1, _, h2⟩ := h.rowAt hs
  exact h.edge r (List.mem_of_getElem? h1) _ (List.mem_of_getElem? (h2 i hi))
theorem WM.edge_eq {s i : Nat} (hs : s < m.Rows.length) (hi : i < kk m) {β : Type} {f : S_api_Edge → Option β} :
    (Option.bind (idx m.Rows (s : Int)) fun r => Option.bind (idx r (i : Int)) f) = f (E m s i) := by
  obtain ⟨r, h1, _, h2⟩ := h.rowAt hs
  rw [idx_nat, h1, Option.bind_some, idx_nat, h2 i hi, Option.bind_some]
theorem WM.nx_in {p : Nat × Nat} {i : Nat} {q : Nat × Nat} (h1 : p.1 < m.Rows.length) (h2 : p.2 < m.Rows.length) (hi : i < kk m) (hq : nxP m m p i = some q) : q.1 < m.Rows.length ∧ q.2 < m.Rows.length := by
  unfold nxP at hq
  split at hq
  · rename_i hc
    cases hq
    have a := h.edgeAt h1 hi
    have b := h.edgeAt h2 hi
    simp only
    omega
  · cases hq
end
def mkb (k : Nat) (bad : Nat × Nat → Nat → Bool) (nx : Nat × Nat → Nat → Option (Nat × Nat)) : Nat → Nat × Nat → Bool
  | 0, _ => false
  | n + 1, p => mkb k bad nx n p || (List.range k).any fun i => bad p i || (match nx p i with | some q => mkb k bad nx n q | none => false)
theorem mkb_iff (k : Nat) (bad : Nat × Nat → Nat → Bool) (nx : Nat × Nat → Nat → Option (Nat × Nat)) : ∀ (n : Nat) (p : Nat × Nat), mkb k bad nx n p = true ↔ Mk k bad nx n p
  | 0, p => by simp [mkb, Mk]
  | n + 1, p => by
    simp only [mkb, Mk, Bool.or_eq_true, List.any_eq_true, List.mem_range, mkb_iff k bad nx n p]
    constructor
    · rintro (h | ⟨i, hi, h | h⟩)
      · exact .inl h
      · exact .inr ⟨i, hi, .inl h⟩
      · cases hq : nx p i with
        | none => rw [hq] at h; cases h
        | some q => rw [hq] at h; exact .inr ⟨i, hi, .inr ⟨q, hq, (mkb_iff k bad nx n q).1 h⟩⟩
    · rintro (h | ⟨i, hi, h | ⟨q, hq, h⟩⟩)
      · exact .inl h
      · exact .inr ⟨i, hi, .inl h⟩
      · exact .inr ⟨i, hi, .inr (by rw [hq]; exact (mkb_iff k bad nx n q).2 h)⟩
def tab (N : Nat) (f : Nat → Nat → Bool) : List (List Bool) := (List.range N).map fun s => (List.range N).map fun t => f s t
theorem tab_at {N s t : Nat} (f : Nat → Nat → Bool) (hs : s < N) (ht : t < N) {β : Type} {g : Bool → Option β} : (Option.bind (idx (tab N f) (s : Int)) fun r => Option.bind (idx r (t : Int)) g) = g (f s t) := by
  have e1 : (tab N f)[s]? = some ((List.range N).map fun t => f s t) := by simp [tab, hs]
  have e2 : ((List.range N).map fun t => f s t)[t]? = some (f s t) := by simp [ht]
  rw [idx_nat, e1, Option.bind_some, idx_nat, e2, Option.bind_some]
theorem set_range {α : Type} (N t : Nat) (g : Nat → α) (v : α) : ((List.range N).map g).set t v = (List.range N).map fun x => if x = t then v else g x := by
  refine List.ext_getElem (by simp) fun n h1 h2 => ?_
  simp only [List.getElem_set, List.getElem_map, List.getElem_range]
  by_cases e : t = n
  · rw [if_pos e, if_pos e.symm]
  · rw [if_neg e, if_neg (Ne.symm e)]
def telP (m : S_api_Machine) (f : Nat → Nat → Bool) (p : Nat × Nat) (i : Nat) : Bool := badP m m p i || (match nxP m m p i with | some q => f q.1 q.2 | none => false)
theorem apart_eq {m : S_api_Machine} (h : WM m) (f : Nat → Nat → Bool) {s t : Nat} (hs : s < m.Rows.length) (ht : t < m.Rows.length) :
    ref07_apart m (tab m.Rows.length f) (s : Int) (t : Int) = some (if (List.range (kk m)).any (telP m f (s, t)) = true then 1 else 0) := by
  have hk := h.kk_eq
  have k16 := h.kk_le
  have hl : loop (fun q => ref07_apart_L2 m (tab m.Rows.length f) (s : Int) (t : Int) q) 0 = some (oS (firstS (fun _ i => if telP m f (s, t) i = true then some (1 : Int) else none) (List.range (kk m)) 0)) := by
    refine loop_list (List.range (kk m)) (by simp; omega) _ ?_ ?_
    · intro i x hx
      have hi : i < kk m := by have := (List.getElem?_eq_some_iff.1 hx).1; simpa using this
      have : x = i := by rw [List.getElem?_range hi] at hx; exact (Option.some.inj hx).symm
      subst this
      unfold ref07_apart_L2 ref07_apart_J3
      have hd : decide ((x : Int) < m.Inputs) = true := by rw [← hk]; simpa using hi
      rw [hd, cond_true, h.edge_eq hs hi, h.edge_eq ht hi]
      have e1 := h.edgeAt hs hi
      have e2 := h.edgeAt ht hi
      by_cases hbad : (E m s x).Out = (E m t x).Out
      · have n1 : ((E m s x).Out != (E m t x).Out) = false := by simpa using hbad
        rw [n1, cond_false]
        by_cases t1 : (E m s x).To ≥ 0
        · by_cases t2 : (E m t x).To ≥ 0
          · have hnx : nxP m m (s, t) x = some ((E m s x).To.toNat, (E m t x).To.toNat) := by unfold nxP; rw [if_pos ⟨t1, t2⟩]
            have hin := h.nx_in hs ht hi hnx
            have c1 : (E m s x).To = (((E m s x).To.toNat : Nat) : Int) := by omega
            have c2 : (E m t x).To = (((E m t x).To.toNat : Nat) : Int) := by omega
            have ht1 : telP m f (s, t) x = f (E m s x).To.toNat (E m t x).To.toNat := by
              unfold telP badP
              rw [hnx]
              simp only [n1, Bool.false_or]
            rw [decide_eq_true t1, decide_eq_true t2]
            simp only [cond_true]
            have := tab_at f hin.1 hin.2 (g := fun v => bif v then some (LR.done (Sum.inr (1 : Int)) : LR Int (Unit ⊕ Int)) else some (LR.next (w64 ((x : Int) + 1))))
            rw [← c1, ← c2] at this
            rw [this, ht1]
            cases f (E m s x).To.toNat (E m t x).To.toNat <;> rfl
          · have ht1 : telP m f (s, t) x = false := by
              unfold telP badP nxP
              rw [if_neg (by simp only; omega)]
              simp only [n1, Bool.false_or]
            rw [decide_eq_true t1, decide_eq_false t2, ht1]
            rfl
        · have ht1 : telP m f (s, t) x = false := by
            unfold telP badP nxP
            rw [if_neg (by simp only; omega)]
            simp only [n1, Bool.false_or]
          rw [decide_eq_false t1, ht1]
          rfl
      · have n1 : ((E m s x).Out != (E m t x).Out) = true := by simpa using hbad
        have ht1 : telP m f (s, t) x = true := by
          unfold telP badP
          simp only [n1, Bool.true_or]
        rw [n1, ht1]
        rfl
    · unfold ref07_apart_L2
      rw [List.length_range, hk]
      simp
  unfold ref07_apart
  rw [bdT hl]
  cases hf : firstS (fun (_ : Nat) i => if telP m f (s, t) i = true then some (1 : Int) else none) (List.range (kk m)) 0 with
  | some q =>
    obtain ⟨i, x, h1, h2⟩ := firstS_some hf
    split at h2
    · rename_i hx
      cases h2
      have : (List.range (kk m)).any (telP m f (s, t)) = true := List.any_eq_true.2 ⟨x, List.mem_of_getElem? h1, hx⟩
      rw [if_pos this]
      rfl
    · cases h2
  | none =>
    have : ¬ (List.range (kk m)).any (telP m f (s, t)) = true := by
      rw [List.any_eq_true]
      rintro ⟨x, hx, hx2⟩
      obtain ⟨i, hi⟩ := List.getElem?_of_mem hx
      have := firstS_isNone hf i x hi
      rw [if_pos hx2] at this
      cases this
    rw [if_neg this]
    rfl
theorem rep_row (N : Nat) : List.replicate ((N : Nat) : Int).toNat false = (List.range N).map fun _ => false := by
  refine List.ext_getElem (by simp) fun n h1 h2 => ?_
  simp
def nextF (m : S_api_Machine) (f : Nat → Nat → Bool) (s t : Nat) : Bool := f s t || (List.range (kk m)).any (telP m f (s, t))
theorem round_eq {m : S_api_Machine} (h : WM m) (f : Nat → Nat → Bool) : loop (fun q => ref07_Marked_L6 m (tab m.Rows.length f) q.1 q.2) (([] : List (List Bool)), 0) = some (tab m.Rows.length (nextF m f)) := by
  have l128 := h.len
  have row : ∀ (s : Nat), s < m.Rows.length → loop (fun q => ref07_Marked_L8 m (tab m.Rows.length f) (s : Int) q.1 q.2) (((List.range s).map fun s => (List.range m.Rows.length).map fun t => nextF m f s t) ++ [(List.range m.Rows.length).map fun _ => false], 0) = some ((List.range (s + 1)).map fun s => (List.range m.Rows.length).map fun t => nextF m f s t) := by
    intro s hs
    have hst := loop_seq (step := fun q => ref07_Marked_L8 m (tab m.Rows.length f) (s : Int) q.1 q.2) (fun t : Nat => (((List.range s).map fun s => (List.range m.Rows.length).map fun t => nextF m f s t) ++ [(List.range m.Rows.length).map fun t' => if t' < t then nextF m f s t' else false], (t : Int))) m.Rows.length (t := (List.range (s + 1)).map fun s => (List.range m.Rows.length).map fun t => nextF m f s t) (by omega) ?_ ?_
    · simpa using hst
    · intro t ht
      unfold ref07_Marked_L8
      have hd : decide ((t : Int) < ((m.Rows.length : Nat) : Int)) = true := by simpa using ht
      have hw : w64 ((t : Int) + 1) = ((t + 1 : Nat) : Int) := by rw [w64_in (by omega) (by omega)]; rfl
      simp only [hd, cond_true]
      have e1 : (((List.range s).map fun s => (List.range m.Rows.length).map fun t => nextF m f s t) ++ [(List.range m.Rows.length).map fun t' => if t' < t then nextF m f s t' else false])[s]? = some ((List.range m.Rows.length).map fun t' => if t' < t then nextF m f s t' else false) := by
        rw [List.getElem?_append_right (by simp)]
        simp
      have e2 : ∀ x, ((List.range m.Rows.length).map fun t' => if t' < t then nextF m f s t' else false)[t]? = some x ↔ x = false := by
        intro x
        simp [ht, eq_comm]
      have e2' := (e2 false).2 rfl
      have fin : ∀ v : Bool, v = nextF m f s t → (((List.range s).map fun s => (List.range m.Rows.length).map fun t => nextF m f s t) ++ [(List.range m.Rows.length).map fun t' => if t' < t then nextF m f s t' else false]).set s (((List.range m.Rows.length).map fun t' => if t' < t then nextF m f s t' else false).set t v) = ((List.range s).map fun s => (List.range m.Rows.length).map fun t => nextF m f s t) ++ [(List.range m.Rows.length).map fun t' => if t' < t + 1 then nextF m f s t' else false] := by
        intro v hv
        rw [List.set_append, if_neg (by simp), set_range]
        simp only [List.length_map, List.length_range, Nat.sub_self, List.set_cons_zero]
        congr 3
        funext x
        by_cases e : x = t
        · subst e; rw [if_pos rfl, if_pos (by omega)]; exact hv
        · rw [if_neg e]
          by_cases g : x < t
          · rw [if_pos g, if_pos (by omega)]
          · rw [if_neg g, if_neg (by omega)]
      rw [idx_nat, bdT e1, tab_at f hs ht]
      cases hf : f s t with
      | true =>
        simp only [cond_true]
        rw [idx_nat, bdT e2', hw, Int.toNat_natCast, Int.toNat_natCast, fin true (by simp [nextF, hf])]
      | false =>
        simp only [cond_false]
        rw [bdT (apart_eq h f hs ht), idx_nat, bdT e2', hw, Int.toNat_natCast, Int.toNat_natCast, fin _ ?_]
        unfold nextF
        rw [hf, Bool.false_or]
        cases (List.range (kk m)).any (telP m f (s, t)) <;> rfl
    · unfold ref07_Marked_L8
      simp only [Int.lt_irrefl, decide_false, cond_false]
      congr 3
      rw [List.range_succ, List.map_append]
      congr 1
      simp only [List.map_cons, List.map_nil]
      congr 1
      refine List.map_congr_left fun x hx => ?_
      rw [if_pos (List.mem_range.1 hx)]
  have := loop_seq (step := fun q => ref07_Marked_L6 m (tab m.Rows.length f) q.1 q.2) (fun s : Nat => ((List.range s).map fun s => (List.range m.Rows.length).map fun t => nextF m f s t, (s : Int))) m.Rows.length (t := tab m.Rows.length (nextF m f)) (by omega) ?_ ?_
  · exact this
  · intro s hs
    unfold ref07_Marked_L6 ref07_Marked_J7
    have hd : decide ((s : Int) < ((m.Rows.length : Nat) : Int)) = true := by simpa using hs
    have hw : w64 ((s : Int) + 1) = ((s + 1 : Nat) : Int) := by rw [w64_in (by omega) (by omega)]; rfl
    simp only [hd, cond_true]
    rw [gdT (by omega), gdT (by simp; omega), rep_row, bdT (row s hs), hw]
  · unfold ref07_Marked_L6
    simp only [Int.lt_irrefl, decide_false, cond_false]
    rfl
def mrk (m : S_api_Machine) (n s t : Nat) : Bool := mkb (kk m) (badP m m) (nxP m m) n (s, t)
theorem next_mrk (m : S_api_Machine) (n : Nat) : nextF m (mrk m n) = mrk m (n + 1) := by
  funext s t
  unfold nextF mrk
  simp only [mkb]
  congr 1
theorem marked_eq {m : S_api_Machine} (h : WM m) (n : Nat) (hn : n ≤ 1000000) : ref07_Marked m (n : Int) = some (tab m.Rows.length (mrk m n)) := by
  have l128 := h.len
  have l9 : loop (fun q => ref07_Marked_L9 m q.1 q.2) (([] : List (List Bool)), 0) = some (tab m.Rows.length (mrk m 0)) := by
    have := loop_seq (step := fun q => ref07_Marked_L9 m q.1 q.2) (fun s : Nat => ((List.range s).map fun _ => (List.range m.Rows.length).map fun _ => false, (s : Int))) m.Rows.length (t := tab m.Rows.length (mrk m 0)) (by omega) ?_ ?_
    · exact this
    · intro s hs
      unfold ref07_Marked_L9
      have hd : decide ((s : Int) < ((m.Rows.length : Nat) : Int)) = true := by simpa using hs
      have hw : w64 ((s : Int) + 1) = ((s + 1 : Nat) : Int) := by rw [w64_in (by omega) (by omega)]; rfl
      simp only [hd, cond_true]
      rw [gdT (by omega), gdT (by simp; omega), rep_row, hw, List.range_succ, List.map_append]
      rfl
    · unfold ref07_Marked_L9
      simp only [Int.lt_irrefl, decide_false, cond_false]
      rfl
  have l3 := loop_seq (step := fun q => ref07_Marked_L3 m (n : Int) q.1 q.2) (fun r : Nat => (tab m.Rows.length (mrk m r), (r : Int))) n (t := tab m.Rows.length (mrk m n)) (by omega) ?_ ?_
  · unfold ref07_Marked ref07_Marked_J1 ref07_Marked_J2
    rw [bdT l9]
    have l3' : loop (fun q => ref07_Marked_L3 m (n : Int) q.1 q.2) (tab m.Rows.length (mrk m 0), 0) = some (tab m.Rows.length (mrk m n)) := l3
    rw [bdT l3']
  · intro r hr
    unfold ref07_Marked_L3 ref07_Marked_J5 ref07_Marked_J4
    have hd : decide ((r : Int) < (n : Int)) = true := by simpa using hr
    have hw : w64 ((r : Int) + 1) = ((r + 1 : Nat) : Int) := by rw [w64_in (by omega) (by omega)]; rfl
    simp only [hd, cond_true]
    rw [bdT (round_eq h (mrk m r)), next_mrk, hw]
  · unfold ref07_Marked_L3
    simp only [Int.lt_irrefl, decide_false, cond_false]
theorem mk_bound {m : S_api_Machine} (h : WM m) {s t : Nat} (hs : s < m.Rows.length) (ht : t < m.Rows.length) {j : Nat} (hj : Mk (kk m) (badP m m) (nxP m m) j (s, t)) : Mk (kk m) (badP m m) (nxP m m) (m.Rows.length - 1) (s, t) := by
  refine Classical.byContradiction fun hno => ?_
  have same : ∀ {p : Nat × Nat} {i : Nat}, p.1 < m.Rows.length → p.2 < m.Rows.length → i < kk m → badP m m p i = false → ((E m p.1 i).To ≥ 0 ↔ (E m p.2 i).To ≥ 0) := by
    intro p i h1 h2 hi hb
    have e : (E m p.1 i).Out = (E m p.2 i).Out := by simpa [badP] using hb
    have a := h.edgeAt h1 hi
    have b := h.edgeAt h2 hi
    omega
  have symm : ∀ k s t, Mk (kk m) (badP m m) (nxP m m) k (s, t) → Mk (kk m) (badP m m) (nxP m m) k (t, s) := by
    intro k
    induction k with
    | zero => intro s t h; exact h
    | succ k ih =>
      rintro s t (h | ⟨i, hi, h | ⟨q, hq, h⟩⟩)
      · exact .inl (ih _ _ h)
      · exact .inr ⟨i, hi, .inl (by
          unfold badP at h ⊢
          simp only [bne_iff_ne, ne_eq] at h ⊢
          exact fun e => h e.symm)⟩
      · refine .inr ⟨i, hi, .inr ⟨(q.2, q.1), ?_, ih _ _ h⟩⟩
        unfold nxP at hq ⊢
        split at hq
        · rename_i hc
          cases hq
          rw [if_pos ⟨hc.2, hc.1⟩]
        · cases hq
  have trans : ∀ k s t u, s < m.Rows.length → t < m.Rows.length → u < m.Rows.length → Mk (kk m) (badP m m) (nxP m m) k (s, u) → Mk (kk m) (badP m m) (nxP m m) k (s, t) ∨ Mk (kk m) (badP m m) (nxP m m) k (t, u) := by
    intro k
    induction k with
    | zero => intro s t u _ _ _ h; exact h.elim
    | succ k ih =>
      rintro s t u hs ht hu (g | ⟨i, hi, g | ⟨q, hq, g⟩⟩)
      · rcases ih s t u hs ht hu g with g | g
        · exact .inl (.inl g)
        · exact .inr (.inl g)
      · cases b1 : badP m m (s, t) i with
        | true => exact .inl (.inr ⟨i, hi, .inl b1⟩)
        | false =>
          refine .inr (.inr ⟨i, hi, .inl ?_⟩)
          unfold badP at b1 g ⊢
          simp only [bne_iff_ne, ne_eq, bne_eq_false_iff_eq] at b1 g ⊢
          rw [← b1]
          exact g
      · cases b1 : badP m m (s, t) i with
        | true => exact .inl (.inr ⟨i, hi, .inl b1⟩)
        | false =>
          cases b2 : badP m m (t, u) i with
          | true => exact .inr (.inr ⟨i, hi, .inl b2⟩)
          | false =>
            have c1 := same (p := (s, t)) hs ht hi b1
            have c2 := same (p := (t, u)) ht hu hi b2
            simp only at c1 c2
            unfold nxP at hq
            split at hq
            · rename_i hc
              cases hq
              simp only at hc g
              have e1 := h.edgeAt hs hi
              have e2 := h.edgeAt ht hi
              have e3 := h.edgeAt hu hi
              rcases ih (E m s i).To.toNat (E m t i).To.toNat (E m u i).To.toNat (by omega) (by omega) (by omega) g with g | g
              · exact .inl (.inr ⟨i, hi, .inr ⟨_, by unfold nxP; rw [if_pos ⟨hc.1, by simp only; omega⟩], g⟩⟩)
              · exact .inr (.inr ⟨i, hi, .inr ⟨_, by unfold nxP; rw [if_pos ⟨by simp only; omega, hc.2⟩], g⟩⟩)
            · cases hq
  have refl : ∀ k s, ¬ Mk (kk m) (badP m m) (nxP m m) k (s, s) := by
    intro k
    induction k with
    | zero => intro s h; exact h
    | succ k ih =>
      rintro s (g | ⟨i, hi, g | ⟨q, hq, g⟩⟩)
      · exact ih s g
      · simp [badP] at g
      · unfold nxP at hq
        split at hq
        · cases hq; exact ih _ g
        · cases hq
  exact stab (N := m.Rows.length) h.len1 (fun k s t => ¬ Mk (kk m) (badP m m) (nxP m m) k (s, t)) (fun k s t _ _ g q => g (symm k t s q)) (fun k s t u hs ht hu g1 g2 q => by
      rcases trans k s t u hs ht hu q with g | g
      · exact g1 g
      · exact g2 g) (fun k s _ => refl k s) (fun k s t _ _ g q => g (.inl q)) (fun k hk s t hs ht g q => by
      rcases q with q | ⟨i, hi, q | ⟨r, hr, q⟩⟩
      · exact g q
      · exact g (.inr ⟨i, hi, .inl q⟩)
      · have hin := h.nx_in (p := (s, t)) hs ht hi hr
        have : Mk (kk m) (badP m m) (nxP m m) k r := Classical.byContradiction fun c => hk r.1 r.2 hin.1 hin.2 c q
        exact g (.inr ⟨i, hi, .inr ⟨r, hr, this⟩⟩)) s t hs ht hno j hj
end Go.Own

namespace Go.Own
set_option linter.unusedVariables false
set_option linter.unusedSimpArgs false
def shE (n : Nat) (x : S_api_Edge) : S_api_Edge := if x.To ≥ 0 then ⟨x.To + (n : Int), x.Out⟩ else x
def bes (a b : S_api_Machine) : S_api_Machine := ⟨a.Inputs, mx a.Outputs b.Outputs, a.Rows ++ b.Rows.map (List.map (shE a.Rows.length))⟩
section
variable {a b : S_api_Machine} (va : VM a) (vb : VM b) (hab : a.Inputs = b.Inputs)
theorem bes_len : (bes a b).Rows.length = a.Rows.length + b.Rows.length := by simp [bes]
include va vb hab
theorem bes_wm : WM (bes a b) := by
  have := va.len64; have := vb.len64; have := va.len1
  refine ⟨va.in1, va.in16, by rw [bes_len]; omega, by rw [bes_len]; omega, fun r hr => ?_, fun r hr x hx => ?_⟩
  · simp only [bes] at hr ⊢
    rcases List.mem_append.1 hr with g | g
    · exact va.row r g
    · obtain ⟨r', h1, rfl⟩ := List.mem_map.1 g
      rw [List.length_map, hab]
      exact vb.row r' h1
  · rw [bes_len]
    simp only [bes] at hr
    rcases List.mem_append.1 hr with g | g
    · rcases va.edge r g x hx with q | ⟨q1, q2, q3, _⟩
      · exact .inl q
      · exact .inr ⟨q1, by omega, q3⟩
    · obtain ⟨r', h1, rfl⟩ := List.mem_map.1 g
      obtain ⟨x', h2, rfl⟩ := List.mem_map.1 hx
      unfold shE
      rcases vb.edge r' h1 x' h2 with q | ⟨q1, q2, q3, _⟩
      · rw [if_neg (by omega)]
        exact .inl q
      · rw [if_pos q1]
        exact .inr ⟨by simp only; omega, by simp only; omega, q3⟩
end
theorem bes_left {a b : S_api_Machine} {s i : Nat} (hs : s < a.Rows.length) : E (bes a b) s i = E a s i := by
  unfold E bes
  simp only
  rw [List.getElem?_append_left hs]
theorem bes_right {a b : S_api_Machine} (vb : VM b) {s i : Nat} (hs : s < b.Rows.length) (hi : i < kk b) : E (bes a b) (a.Rows.length + s) i = shE a.Rows.length (E b s i) := by
  obtain ⟨r, h1, h2, h3⟩ := vb.rowAt hs
  unfold E bes
  simp only
  rw [List.getElem?_append_right (by omega), Nat.add_sub_cancel_left, List.getElem?_map, h1]
  simp only [Option.map_some, Option.getD_some]
  rw [List.getElem?_map]
  have h3 := h3 i hi
  rw [h3]
  rfl
theorem shE_out (n : Nat) (x : S_api_Edge) : (shE n x).Out = x.Out := by unfold shE; split <;> rfl
theorem beside_eq {a b : S_api_Machine} (va : VM a) (vb : VM b) : ref10_Beside a b = some (bes a b) := by
  have la := va.len64; have lb := vb.len64; have k16 := vb.kk_le; have hk := vb.kk_eq
  have l8 : loop (fun s => ref10_Beside_L8 a s.1 s.2) (([] : List (List S_api_Edge)), 0) = some a.Rows := by
    have := loop_seq (step := fun s => ref10_Beside_L8 a s.1 s.2) (fun i : Nat => (a.Rows.take i, (i : Int))) a.Rows.length (t := a.Rows) (by omega) ?_ ?_
    · exact this
    · intro i hi
      have hx : a.Rows[i]? = some a.Rows[i] := List.getElem?_eq_getElem hi
      have hd : decide ((i : Int) < ((a.Rows.length : Nat) : Int)) = true := by simpa using hi
      have hw : w64 ((i : Int) + 1) = ((i + 1 : Nat) : Int) := by rw [w64_in (by omega) (by omega)]; rfl
      simp only [ref10_Beside_L8, hd, cond_true]
      rw [idx_nat, bdT hx, gdT (by simp; omega), hw, List.take_add_one, hx]
      rfl
    · simp only [ref10_Beside_L8, Int.lt_irrefl, decide_false, cond_false, List.take_length]
  have l6 : ∀ s : Nat, s < b.Rows.length → loop (fun q => ref10_Beside_L6 a b (s : Int) q.1 q.2) (([] : List S_api_Edge), 0) = some ((List.range (kk b)).map fun i => shE a.Rows.length (E b s i)) := by
    intro s hs
    have := loop_seq (step := fun q => ref10_Beside_L6 a b (s : Int) q.1 q.2) (fun i : Nat => ((List.range i).map fun i => shE a.Rows.length (E b s i), (i : Int))) (kk b) (t := (List.range (kk b)).map fun i => shE a.Rows.length (E b s i)) (by omega) ?_ ?_
    · exact this
    · intro i hi
      have hd : decide ((i : Int) < b.Inputs) = true := by rw [← hk]; simpa using hi
      have hw : w64 ((i : Int) + 1) = ((i + 1 : Nat) : Int) := by rw [w64_in (by omega) (by omega)]; rfl
      simp only [ref10_Beside_L6, hd, cond_true]
      rw [vb.edge_eq hs hi]
      have hed := vb.edgeAt hs hi
      unfold ref10_Beside_J7
      have gl : ∀ e : S_api_Edge, ((List.range i).map fun i => shE a.Rows.length (E b s i)).length + ([e] : List S_api_Edge).length ≤ 4294967296 := fun e => by simp; omega
      by_cases ht : (E b s i).To ≥ 0
      · have hw2 : w64 ((E b s i).To + ((a.Rows.length : Nat) : Int)) = (E b s i).To + (a.Rows.length : Int) := w64_in (by omega) (by omega)
        rw [decide_eq_true ht, cond_true, gdT (gl _), hw, hw2, List.range_succ, List.map_append]
        simp only [List.map_cons, List.map_nil, shE, if_pos ht]
      · rw [decide_eq_false ht, cond_false, gdT (gl _), hw, List.range_succ, List.map_append]
        simp only [List.map_cons, List.map_nil, shE, if_neg ht]
    · simp only [ref10_Beside_L6, hk, Int.lt_irrefl, decide_false, cond_false]
  have rowE : ∀ s : Nat, s < b.Rows.length → ((List.range (kk b)).map fun i => shE a.Rows.length (E b s i)) = (b.Rows.map (List.map (shE a.Rows.length)))[s]?.getD [] := by
    intro s hs
    obtain ⟨r, h1, h2, h3⟩ := vb.rowAt hs
    rw [List.getElem?_map, h1]
    simp only [Option.map_some, Option.getD_some]
    refine List.ext_getElem (by simp [h2]) fun n g1 g2 => ?_
    simp only [List.getElem_map, List.getElem_range]
    have := h3 n (by simpa using g1)
    rw [List.getElem?_eq_getElem (by simpa using g2)] at this
    rw [Option.some.inj this]
  have l3 : loop (fun s => ref10_Beside_L3 a b s.1 s.2) (a.Rows, 0) = some (a.Rows ++ b.Rows.map (List.map (shE a.Rows.length))) := by
    have := loop_seq (step := fun s => ref10_Beside_L3 a b s.1 s.2) (fun i : Nat => (a.Rows ++ (b.Rows.map (List.map (shE a.Rows.length))).take i, (i : Int))) b.Rows.length (t := a.Rows ++ b.Rows.map (List.map (shE a.Rows.length))) (by omega) ?_ ?_
    · simpa using this
    · intro i hi
      have hd : decide ((i : Int) < ((b.Rows.length : Nat) : Int)) = true := by simpa using hi
      have hw : w64 ((i : Int) + 1) = ((i + 1 : Nat) : Int) := by rw [w64_in (by omega) (by omega)]; rfl
      simp only [ref10_Beside_L3, hd, cond_true]
      rw [bdT (l6 i hi)]
      unfold ref10_Beside_J5 ref10_Beside_J4
      rw [gdT (by simp; omega), hw, rowE i hi, List.take_add_one]
      obtain ⟨x, hx⟩ : ∃ x, (b.Rows.map (List.map (shE a.Rows.length)))[i]? = some x := ⟨_, List.getElem?_eq_getElem (by simpa using hi)⟩
      rw [hx]
      simp only [Option.getD_some, Option.toList_some, List.append_assoc]
    · simp only [ref10_Beside_L3, Int.lt_irrefl, decide_false, cond_false]
      rw [List.take_of_length_le (by simp)]
  unfold ref10_Beside ref10_Beside_J1 ref10_Beside_J2
  rw [bdT l8, bdT l3]
  rfl
def phi (a : S_api_Machine) (p : Nat × Nat) : Nat × Nat := (p.1, a.Rows.length + p.2)
def InP (a b : S_api_Machine) (p : Nat × Nat) : Prop := p.1 < a.Rows.length ∧ p.2 < b.Rows.length
section
variable {a b : S_api_Machine} (va : VM a) (vb : VM b) (hab : a.Inputs = b.Inputs)
include va vb hab
theorem inP_nx (p : Nat × Nat) (i : Nat) (q : Nat × Nat) (hp : InP a b p) (hi : i < kk a) (hq : nxP a b p i = some q) : InP a b q := by
  unfold nxP at hq
  split at hq
  · rename_i hc
    cases hq
    have h1 := va.edgeAt hp.1 hi
    have h2 := vb.edgeAt hp.2 (by rw [← kk_same hab]; exact hi)
    refine ⟨?_, ?_⟩ <;> simp only <;> omega
  · cases hq
theorem bes_bad (p : Nat × Nat) (i : Nat) (hp : InP a b p) (hi : i < kk a) : badP (bes a b) (bes a b) (phi a p) i = badP a b p i := by
  have := va.in1
  unfold badP phi
  simp only
  rw [bes_left hp.1, bes_right vb hp.2 (by rw [← kk_same hab]; exact hi), shE_out]
theorem bes_nx (p : Nat × Nat) (i : Nat) (hp : InP a b p) (hi : i < kk a) : nxP (bes a b) (bes a b) (phi a p) i = (nxP a b p i).map (phi a) := by
  have := va.in1
  unfold nxP phi
  simp only
  rw [bes_left hp.1, bes_right vb hp.2 (by rw [← kk_same hab]; exact hi)]
  by_cases h2 : (E b p.2 i).To ≥ 0
  · by_cases h1 : (E a p.1 i).To ≥ 0
    · rw [if_pos ⟨h1, by unfold shE; rw [if_pos h2]; simp only; omega⟩, if_pos ⟨h1, h2⟩]
      unfold shE
      rw [if_pos h2]
      exact congrArg some (Prod.ext rfl (by simp only; omega))
    · rw [if_neg (by omega), if_neg (by omega)]
      rfl
  · rw [if_neg (by unfold shE; rw [if_neg h2]; omega), if_neg (by omega)]
    rfl
theorem mk_bes (n : Nat) (p : Nat × Nat) (hp : InP a b p) : Mk (kk a) (badP (bes a b) (bes a b)) (nxP (bes a b) (bes a b)) n (phi a p) ↔ Mk (kk a) (badP a b) (nxP a b) n p :=
  mk_along (phi a) (InP a b) (inP_nx va vb hab) (bes_bad va vb hab) (bes_nx va vb hab) n p hp
theorem greedy_bes (n : Nat) (p : Nat × Nat) (w : List Nat) (hp : InP a b p) : Greedy (kk a) (badP (bes a b) (bes a b)) (nxP (bes a b) (bes a b)) n (phi a p) w → Greedy (kk a) (badP a b) (nxP a b) n p w :=
  greedy_along (phi a) (InP a b) (inP_nx va vb hab) (bes_bad va vb hab) (bes_nx va vb hab) n p w hp
def RefR (a b : S_api_Machine) (r : List Int × Bool) : Prop :=
  (∃ n w, Mk (kk a) (badP a b) (nxP a b) (n + 1) (0, 0) ∧ ¬ Mk (kk a) (badP a b) (nxP a b) n (0, 0) ∧ Greedy (kk a) (badP a b) (nxP a b) (n + 1) (0, 0) w ∧ n + 1 < a.Rows.length + b.Rows.length ∧ r = (w.map Int.ofNat, true)) ∨
  ((∀ n, ¬ Mk (kk a) (badP a b) (nxP a b) n (0, 0)) ∧ r = ([], false))
end
theorem tel_iff {m : S_api_Machine} {n : Nat} {p : Nat × Nat} {i : Nat} : telP m (mrk m n) p i = true ↔ (badP m m p i = true ∨ ∃ q, nxP m m p i = some q ∧ Mk (kk m) (badP m m) (nxP m m) n q) := by
  unfold telP
  rw [Bool.or_eq_true]
  constructor
  · rintro (h | h)
    · exact .inl h
    · cases hq : nxP m m p i with
      | none => rw [hq] at h; cases h
      | some q => rw [hq] at h; exact .inr ⟨q, rfl, (mkb_iff _ _ _ n q).1 h⟩
  · rintro (h | ⟨q, hq, h⟩)
    · exact .inl h
    · refine .inr ?_
      rw [hq]
      exact (mkb_iff _ _ _ n q).2 h
theorem pick_ret {m : S_api_Machine} (h : WM m) {k : Nat} {p : Nat × Nat} (h1 : p.1 < m.Rows.length) (h2 : p.2 < m.Rows.length) (n w : Int) (ws : List Int) (hw : ws.length ≤ 1000) (hn : n = (k : Int) + 1) (hk1 : k ≤ 1000) (hex : Mk (kk m) (badP m m) (nxP m m) (k + 1) p) (hno : ¬ Mk (kk m) (badP m m) (nxP m m) k p) :
    Ret (loop (fun s => ref10_Differ_L4 m (p.1 : Int) (p.2 : Int) n ws (tab m.Rows.length (mrk m k)) s) 0) fun r => ∃ i, i < kk m ∧ telP m (mrk m k) p i = true ∧ (∀ j, j < i → telP m (mrk m k) p j = false) ∧ r = ((E m p.1 i).To, (E m p.2 i).To, (k : Int), ws ++ [(i : Int)]) := by
  have hk := h.kk_eq
  have k16 := h.kk_le
  obtain ⟨i0, hi0, ht0⟩ : ∃ i, i < kk m ∧ telP m (mrk m k) p i = true := by
    rcases hex with g | ⟨i, hi, g⟩
    · exact (hno g).elim
    · exact ⟨i, hi, tel_iff.2 g⟩
  refine ret_loop (fun s => ∃ i : Nat, s = (i : Int) ∧ i ≤ kk m ∧ ∀ j, j < i → telP m (mrk m k) p j = false) (fun s => 100 - s.toNat) ⟨0, rfl, Nat.zero_le _, fun j hj => by omega⟩ (by simp) ?_
  rintro i' ⟨i, hi', hik, hall⟩
  subst hi'
  unfold ref10_Differ_L4 ref10_Differ_J5
  rw [ret_bif]
  refine ⟨fun hlt => ?_, fun hge => ?_⟩
  · have hlt : i < kk m := by rw [← hk] at hlt; simpa using hlt
    have hw1 : w64 ((i : Int) + 1) = ((i + 1 : Nat) : Int) := by rw [w64_in (by omega) (by omega)]; rfl
    have hn1 : w64 (n - 1) = (k : Int) := by rw [w64_in (by omega) (by omega)]; omega
    rw [h.edge_eq h1 hlt, h.edge_eq h2 hlt, hw1, hn1]
    have e1 := h.edgeAt h1 hlt
    have e2 := h.edgeAt h2 hlt
    have gl : ws.length + ([(i : Int)] : List Int).length ≤ 4294967296 := by simp; omega
    have found : telP m (mrk m k) p i = true → Ret (some (.done ((E m p.1 i).To, (E m p.2 i).To, (k : Int), ws ++ [(i : Int)])) : Option (LR Int (Int × Int × Int × List Int))) (LRP (fun s' => (∃ j : Nat, s' = (j : Int) ∧ j ≤ kk m ∧ ∀ l, l < j → telP m (mrk m k) p l = false) ∧ 100 - s'.toNat < 100 - (i : Int).toNat) (fun r => ∃ i, i < kk m ∧ telP m (mrk m k) p i = true ∧ (∀ j, j < i → telP m (mrk m k) p j = false) ∧ r = ((E m p.1 i).To, (E m p.2 i).To, (k : Int), ws ++ [(i : Int)]))) :=
      fun ht => ret_some.2 ⟨i, hlt, ht, hall, rfl⟩
    have on : telP m (mrk m k) p i = false → Ret (some (.next ((i + 1 : Nat) : Int)) : Option (LR Int (Int × Int × Int × List Int))) (LRP (fun s' => (∃ j : Nat, s' = (j : Int) ∧ j ≤ kk m ∧ ∀ l, l < j → telP m (mrk m k) p l = false) ∧ 100 - s'.toNat < 100 - (i : Int).toNat) (fun r => ∃ i, i < kk m ∧ telP m (mrk m k) p i = true ∧ (∀ j, j < i → telP m (mrk m k) p j = false) ∧ r = ((E m p.1 i).To, (E m p.2 i).To, (k : Int), ws ++ [(i : Int)]))) := by
      intro ht
      refine ret_some.2 ⟨⟨i + 1, rfl, hlt, fun j hj => ?_⟩, by omega⟩
      by_cases e : j = i
      · subst e; exact ht
      · exact hall j (by omega)
    rw [ret_bif]
    refine ⟨fun hb => ?_, fun hb => ?_⟩
    · rw [gdT gl]
      exact found (by unfold telP badP; rw [hb, Bool.true_or])
    · rw [ret_bif]
      refine ⟨fun t1 => ?_, fun t1 => ?_⟩
      · have t1 : (E m p.1 i).To ≥ 0 := of_decide_eq_true t1
        rw [ret_bif]
        refine ⟨fun t2 => ?_, fun t2 => ?_⟩
        · have t2 : (E m p.2 i).To ≥ 0 := of_decide_eq_true t2
          have hnx : nxP m m p i = some ((E m p.1 i).To.toNat, (E m p.2 i).To.toNat) := by unfold nxP; rw [if_pos ⟨t1, t2⟩]
          have hin := h.nx_in h1 h2 hlt hnx
          have c1 : (E m p.1 i).To = (((E m p.1 i).To.toNat : Nat) : Int) := by omega
          have c2 : (E m p.2 i).To = (((E m p.2 i).To.toNat : Nat) : Int) := by omega
          have ht1 : telP m (mrk m k) p i = mrk m k (E m p.1 i).To.toNat (E m p.2 i).To.toNat := by
            unfold telP badP
            rw [hnx, hb, Bool.false_or]
          have := tab_at (mrk m k) hin.1 hin.2 (g := fun v => bif v then gd (ws.length + ([(i : Int)] : List Int).length ≤ 4294967296) (some (LR.done ((E m p.1 i).To, (E m p.2 i).To, (k : Int), ws ++ [(i : Int)])) : Option (LR Int (Int × Int × Int × List Int))) else some (LR.next ((i + 1 : Nat) : Int)))
          rw [← c1, ← c2] at this
          refine (congrArg (fun o => Ret o _) this).mpr ?_
          rw [ret_bif]
          refine ⟨fun g => ?_, fun g => on (by rw [ht1]; exact g)⟩
          rw [gdT gl]
          exact found (by rw [ht1]; exact g)
        · have t2 : ¬ (E m p.2 i).To ≥ 0 := of_decide_eq_false t2
          exact on (by unfold telP badP nxP; rw [hb, if_neg (by omega)]; rfl)
      · have t1 : ¬ (E m p.1 i).To ≥ 0 := of_decide_eq_false t1
        exact on (by unfold telP badP nxP; rw [hb, if_neg (by omega)]; rfl)
  · have : i = kk m := by rw [← hk] at hge; simp at hge; omega
    have := hall i0 (by omega)
    rw [ht0] at this
    cases this
section
variable {a b : S_api_Machine} (va : VM a) (vb : VM b) (hab : a.Inputs = b.Inputs)
include va vb hab
theorem refd_ret : Ret (ref10_Differ a b) (RefR a b) := by
  have hm := bes_wm va vb hab
  have hN := bes_len (a := a) (b := b)
  have la := va.len64; have lb := vb.len64; have la1 := va.len1; have lb1 := vb.len1
  have hp0 : InP a b (0, 0) := ⟨va.len1, vb.len1⟩
  have hkb : kk (bes a b) = kk a := rfl
  have z1 : 0 < (bes a b).Rows.length := by omega
  have z2 : a.Rows.length < (bes a b).Rows.length := by omega
  unfold ref10_Differ
  rw [bdT (beside_eq va vb), ret_bind]
  have l6 : Ret (loop (fun s => ref10_Differ_L6 a (bes a b) s) 0) fun r => ∃ n : Nat, r = (n : Int) ∧ n ≤ (bes a b).Rows.length ∧ (∀ j, j < n → mrk (bes a b) j 0 a.Rows.length = false) ∧ (n < (bes a b).Rows.length → mrk (bes a b) n 0 a.Rows.length = true) := by
    refine ret_loop (fun s => ∃ n : Nat, s = (n : Int) ∧ n ≤ (bes a b).Rows.length ∧ ∀ j, j < n → mrk (bes a b) j 0 a.Rows.length = false) (fun s => 1000 - s.toNat) ⟨0, rfl, Nat.zero_le _, fun j hj => by omega⟩ (by simp) ?_
    rintro n' ⟨n, hn, hnl, hall⟩
    subst hn
    unfold ref10_Differ_L6
    rw [ret_bif]
    refine ⟨fun hlt => ?_, fun hge => ?_⟩
    · have hlt : n < (bes a b).Rows.length := by simpa using hlt
      have hw : w64 ((n : Int) + 1) = ((n + 1 : Nat) : Int) := by rw [w64_in (by omega) (by omega)]; rfl
      rw [bdT (marked_eq hm n (by omega))]
      have := tab_at (mrk (bes a b) n) z1 z2 (g := fun v => bif !v then (some (LR.next (w64 ((n : Int) + 1))) : Option (LR Int Int)) else some (LR.done (n : Int)))
      refine (congrArg (fun o => Ret o _) this).mpr ?_
      rw [ret_bif]
      refine ⟨fun g => ?_, fun g => ?_⟩
      · have g : mrk (bes a b) n 0 a.Rows.length = false := by simpa using g
        rw [ret_some, hw]
        refine ⟨⟨n + 1, rfl, hlt, fun j hj => ?_⟩, by omega⟩
        by_cases e : j = n
        · subst e; exact g
        · exact hall j (by omega)
      · have g : mrk (bes a b) n 0 a.Rows.length = true := by simpa using g
        rw [ret_some]
        exact ⟨n, rfl, hnl, hall, fun _ => g⟩
    · have : n = (bes a b).Rows.length := by simp at hge; omega
      rw [ret_some]
      exact ⟨n, rfl, hnl, hall, fun h => by omega⟩
  refine l6.mono ?_
  rintro n' ⟨n, hn, hnl, hall, hat⟩
  subst hn
  unfold ref10_Differ_J1 ref10_Differ_J2
  rw [ret_bif]
  refine ⟨fun he => ?_, fun hne => ?_⟩
  · have he : n = (bes a b).Rows.length := by simp at he; omega
    rw [ret_some]
    refine .inr ⟨fun j hj => ?_, rfl⟩
    have h1 := (mk_bes va vb hab j (0, 0) hp0).2 hj
    have h2 := mk_bound hm (s := 0) (t := a.Rows.length) z1 z2 h1
    have h3 := hall ((bes a b).Rows.length - 1) (by omega)
    have h4 := (mkb_iff _ _ _ _ _).2 h2
    unfold mrk at h3
    rw [h3] at h4
    cases h4
  · have hne : n ≠ (bes a b).Rows.length := by intro e; rw [e] at hne; simp at hne
    have hat := hat (by omega)
    cases n with
    | zero => simp [mrk, mkb] at hat
    | succ n =>
      have hmk : Mk (kk a) (badP (bes a b) (bes a b)) (nxP (bes a b) (bes a b)) (n + 1) (phi a (0, 0)) := (mkb_iff _ _ _ _ _).1 hat
      have hno : ¬ Mk (kk a) (badP (bes a b) (bes a b)) (nxP (bes a b) (bes a b)) n (phi a (0, 0)) := by
        intro c
        have h4 := (mkb_iff _ _ _ _ _).2 c
        have h3 := hall n (by omega)
        unfold mrk at h3
        have h3' : mkb (kk a) (badP (bes a b) (bes a b)) (nxP (bes a b) (bes a b)) n (phi a (0, 0)) = false := h3
        rw [h3'] at h4
        cases h4
      rw [ret_bind]
      refine (ret_loop (R := fun r => ∃ w, Greedy (kk a) (badP (bes a b) (bes a b)) (nxP (bes a b) (bes a b)) (n + 1) (phi a (0, 0)) w ∧ r = w.map Int.ofNat) (fun s => ∃ (wn : List Nat), s.2.2.2 = wn.map Int.ofNat ∧ wn.length ≤ 200 ∧ ((s.2.2.1 = 0 ∧ Greedy (kk a) (badP (bes a b) (bes a b)) (nxP (bes a b) (bes a b)) (n + 1) (phi a (0, 0)) wn) ∨
        ∃ (k : Nat) (p : Nat × Nat), s.2.2.1 = (k : Int) + 1 ∧ k ≤ n ∧ wn.length + k = n ∧ s.1 = (p.1 : Int) ∧ s.2.1 = (p.2 : Int) ∧ p.1 < (bes a b).Rows.length ∧ p.2 < (bes a b).Rows.length ∧ Mk (kk a) (badP (bes a b) (bes a b)) (nxP (bes a b) (bes a b)) (k + 1) p ∧ ¬ Mk (kk a) (badP (bes a b) (bes a b)) (nxP (bes a b) (bes a b)) k p ∧
          ∀ u, Greedy (kk a) (badP (bes a b) (bes a b)) (nxP (bes a b) (bes a b)) (k + 1) p u → Greedy (kk a) (badP (bes a b) (bes a b)) (nxP (bes a b) (bes a b)) (n + 1) (phi a (0, 0)) (wn ++ u))) (fun s => s.2.2.1.toNat) ⟨[], rfl, by simp, .inr ⟨n, phi a (0, 0), by simp, Nat.le_refl _, by simp, rfl, by simp [phi], by simp [phi]; omega, by simp [phi]; omega, hmk, hno, fun u h => h⟩⟩ ?_ ?_).mono ?_
      · simp only; omega
      · rintro ⟨s, t, c, w⟩ ⟨wn, hw, hwl, hcase⟩
        simp only at hw hcase
        subst hw
        unfold ref10_Differ_L3
        rcases hcase with ⟨hc, hg⟩ | ⟨k, p, hc, hkn, hwk, hs, ht, hp1, hp2, hk1, hk2, hgr⟩
        · subst hc
          rw [ret_bif]
          refine ⟨fun h => by have h := of_decide_eq_true h; simp only at h; omega, fun _ => ?_⟩
          rw [ret_some]
          exact ⟨wn, hg, rfl⟩
        · subst hs ht
          rw [ret_bif]
          refine ⟨fun _ => ?_, fun h => ?_⟩
          · have hn1 : w64 (c - 1) = (k : Int) := by rw [w64_in (by omega) (by omega)]; omega
            rw [hn1, bdT (marked_eq hm k (by omega)), ret_bind]
            refine (pick_ret hm hp1 hp2 c 0 _ (by simp; omega) hc (by omega) hk1 hk2).mono ?_
            rintro r ⟨i, hi, htel, hleast, rfl⟩
            rw [ret_some]
            have htel' := tel_iff.1 htel
            have hleast' : ∀ j, j < i → ¬ (badP (bes a b) (bes a b) p j = true ∨ ∃ q, nxP (bes a b) (bes a b) p j = some q ∧ Mk (kk a) (badP (bes a b) (bes a b)) (nxP (bes a b) (bes a b)) k q) := by
              intro j hj g
              have := hleast j hj
              rw [tel_iff.2 g] at this
              cases this
            refine ⟨⟨wn ++ [i], by simp, by simp; omega, ?_⟩, by simp only; omega⟩
            cases k with
            | zero =>
              refine .inl ⟨rfl, hgr [i] ⟨i, [], rfl, hi, htel', hleast', fun h => absurd h (Nat.lt_irrefl _), fun _ => rfl⟩⟩
            | succ k =>
              have hbad : badP (bes a b) (bes a b) p i ≠ true := fun g => hk2 (Mk.mono (n := 1) (.inr ⟨i, hi, .inl g⟩) (by omega))
              obtain ⟨q, hq, hqm⟩ : ∃ q, nxP (bes a b) (bes a b) p i = some q ∧ Mk (kk a) (badP (bes a b) (bes a b)) (nxP (bes a b) (bes a b)) (k + 1) q := by
                rcases htel' with g | g
                · exact (hbad g).elim
                · exact g
              have hin := hm.nx_in hp1 hp2 hi hq
              have hqv : (E (bes a b) p.1 i).To = (q.1 : Int) ∧ (E (bes a b) p.2 i).To = (q.2 : Int) := by
                unfold nxP at hq
                split at hq
                · cases hq
                  simp only
                  omega
                · cases hq
              refine .inr ⟨k, q, by simp, by omega, by simp; omega, hqv.1, hqv.2, hin.1, hin.2, hqm, fun g => hk2 (.inr ⟨i, hi, .inr ⟨q, hq, g⟩⟩), fun u hu => ?_⟩
              have := hgr (i :: u) ⟨i, u, rfl, hi, htel', hleast', fun _ => ⟨q, hq, hu⟩, fun h => by omega⟩
              simpa using this
          · have h := of_decide_eq_false h
            simp only at h
            omega
      · rintro r ⟨w, hg, rfl⟩
        rw [ret_some]
        exact .inl ⟨n, w, (mk_bes va vb hab _ _ hp0).1 hmk, fun g => hno ((mk_bes va vb hab _ _ hp0).2 g), greedy_bes va vb hab _ _ _ hp0 hg, by omega, rfl⟩
end
end Go.Own

namespace Go.Own
set_option linter.unusedVariables false
set_option linter.unusedSimpArgs false
theorem same_word {a b : S_api_Machine} {w w' : List Int} {is there : Bool} (h1 : DiffS a b w is) (h2 : RefR a b (w', there)) :
    w = w' ∧ is = there ∧ (is = true → ∃ u, TellR (kk a) (badP a b) (nxP a b) (0, 0) u ∧ w = u.reverse.map Int.ofNat ∧ u.length < a.Rows.length + b.Rows.length) := by
  rcases h1 with ⟨u, t1, t2, rfl, rfl⟩ | ⟨t1, rfl, rfl⟩
  · rcases h2 with ⟨n, v, m1, m2, g, hl, e⟩ | ⟨m1, e⟩
    · have hs := search_mark t1 t2 m1 m2 g
      have hlen := (greedy_least m1 m2 g).2.1
      cases e
      refine ⟨by rw [hs], rfl, fun _ => ⟨u, t1, rfl, ?_⟩⟩
      have : u.reverse.length = v.length := by rw [hs]
      rw [List.length_reverse] at this
      omega
    · exact (m1 _ (tell_mk (tell_fwd t1))).elim
  · rcases h2 with ⟨n, v, m1, m2, g, hl, e⟩ | ⟨m1, e⟩
    · obtain ⟨w, hw, _⟩ := Mk.tell m1
      exact (t1 _ (tell_rev hw)).elim
    · cases e
      exact ⟨rfl, rfl, fun h => by cases h⟩
end Go.Own

namespace Go.Own
set_option linter.unusedVariables false
set_option linter.unusedSimpArgs false
set_option maxRecDepth 100000 in
theorem lives10 : law10_lives = some true := by kernel_rfl
theorem Within_ok {a b : S_api_Machine} (h : bothS a b = 0) {w : List Int} {is : Bool} (hw : equals_Differ a b = some (w, is, 0)) (k : Int) : equals_Within a b k = if k < 0 then some (false, 1) else some (!is || decide ((w.length : Int) > k), 0) := by
  unfold equals_Within
  rw [bdT hw]
  simp only [bne_self_eq_false, cond_false, Bool.cond_eq_ite, decide_eq_true_eq]
  by_cases h0 : k < 0
  · simp [h0]
  · cases is <;> simp [h0]
end Go.Own

namespace Go.Own
set_option linter.unusedVariables false
set_option linter.unusedSimpArgs false
theorem within_true (x : S_law10_D) (hx : DOk x) (k : Int) : law10_EqualsWithin x k = some true := by
  obtain ⟨⟨a, b⟩, ed, va, vb, hab, la, lb⟩ := d_of hx
  simp only at va vb hab la lb
  have h0 : bothS a b = 0 := both_of va vb hab
  obtain ⟨⟨w, is, e⟩, ew, he, hd⟩ := Differ_ret h0
  simp only at he hd
  subst he
  obtain ⟨⟨w', there⟩, er, hr⟩ := refd_ret va vb hab
  obtain ⟨hww, his, hlen⟩ := same_word hd hr
  subst hww his
  unfold law10_EqualsWithin
  rw [bdT ed]
  simp only
  rw [Within_ok h0 ew, Within_ok h0 ew]
  have hs : w64 (w64 (((a.Rows.length : Nat) : Int) + ((b.Rows.length : Nat) : Int)) - 1) = (a.Rows.length : Int) + (b.Rows.length : Int) - 1 := by
    have := va.len1
    rw [w64_in (x := ((a.Rows.length : Nat) : Int) + ((b.Rows.length : Nat) : Int)) (by omega) (by omega), w64_in (by omega) (by omega)]
  rw [hs]
  have hn : ¬ ((a.Rows.length : Int) + (b.Rows.length : Int) - 1 < 0) := by have := va.len1; omega
  rw [if_neg hn]
  by_cases hk : k < 0
  · simp [hk, lives10]
  · rw [if_neg hk, decide_eq_false hk]
    simp only [Option.bind_some, cond_false, er, beq_self_eq_true, cond_true]
    cases is with
    | false => simp [lives10]
    | true =>
      obtain ⟨u, _, hu, hl⟩ := hlen rfl
      have : ((w.length : Nat) : Int) ≤ (a.Rows.length : Int) + (b.Rows.length : Int) - 1 := by rw [hu]; simp; omega
      have hd : decide (((w.length : Nat) : Int) > (a.Rows.length : Int) + (b.Rows.length : Int) - 1) = false := by simp; omega
      simp [lives10, hd]
end Go.Own

namespace Go.Own
def Ok5 (a : Int) : Prop := (0) ≤ a ∧ a ≤ 255
def Ok4 (_ : Bool) : Prop := True
def Ok102 (a : Int) : Prop := (0) ≤ a ∧ a ≤ 65535
def Ok22 (l : List Int) : Prop := ∀ a ∈ l, Ok102 a
def Ok24 (a : S_law04_M) : Prop := Ok5 a.States ∧ Ok5 a.Inputs ∧ Ok5 a.Outputs ∧ Ok4 a.Partial ∧ Ok22 a.Edges
def Ok65 (a : Arr2 Int) : Prop := Ok5 a.e0 ∧ Ok5 a.e1
def Ok3 (a : Int) : Prop := (-9223372036854775808) ≤ a ∧ a ≤ 9223372036854775807
def Ok67 (a : S_api_Edge) : Prop := Ok3 a.To ∧ Ok3 a.Out
def Ok69 (a : S_law10_D) : Prop := Ok24 a.M ∧ Ok24 a.X ∧ Ok4 a.Alike ∧ Ok65 a.Swap ∧ Ok65 a.Place ∧ Ok67 a.To
end Go.Own

namespace Go.Own
theorem law_true {x : S_law10_D} {k : Int} (hx : Ok69 x) (_ : Ok3 k) : law10_EqualsWithin x k = some true := by
  obtain ⟨hm, hx2, _, hs, hp, _⟩ := hx
  exact within_true x ⟨⟨hm.1.1, hm.2.1.1, hm.2.2.1.1, fun v hv => hm.2.2.2.2 v hv⟩, ⟨hx2.1.1, hx2.2.1.1, hx2.2.2.1.1, fun v hv => hx2.2.2.2.2 v hv⟩, hs.1, hs.2, hp.1, hp.2⟩ k
end Go.Own

namespace Go.Own
def allS (w : World) : Still := fun b o => cellAt w.heap b o
theorem cell_at {w : World} {a : Addr} {v : Value} (h : w.cell? a = some v) : a.spot = none ∧ cellAt w.heap a.block a.off = some v := by
  unfold World.cell? at h
  unfold cellAt
  split at h
  · rename_i c ty fr he
    rw [he]
    split at h
    · cases h
    · rename_i hs
      exact ⟨by simpa using hs, h⟩
  · cases h
section
variable {H : Type} {enc : TypeId × Value → H} {P : Program} {w : World} {base : Nat} {spare : Nat → Bool} {held : Bool}
theorem cells_lie {a : Addr} {n : Nat} {cs : List Value} (h : w.cells? base a n = some cs) (hn : 0 < n) : a.spot = none ∧ cs.length = n ∧ Lies (allS w) a.block a.off cs := by
  obtain ⟨_, h2, h3⟩ := World.cells?_some h
  have h0 : a.spot = none := by
    have h4 := h3 0 hn
    cases hc : cs[0]? with
    | none => rw [List.getElem?_eq_none_iff] at hc; omega
    | some v =>
      rw [hc] at h4
      have := (cell_at h4).1
      simpa [Addr.add] using this
  refine ⟨h0, h2, fun j v hj => ?_⟩
  have hlt := (List.getElem?_eq_some_iff.1 hj).1
  have h4 := h3 j (by omega)
  rw [hj] at h4
  have q := (cell_at h4).2
  unfold Addr.add at q
  split at q
  · rename_i e; subst e; exact q
  · exact q
theorem reps_snoc {S : Still} : ∀ {bs : List A} {cs : List Value} {a : A} {c : List Value}, Reps S bs cs → Rep S a c → Reps S (bs ++ [a]) (cs ++ c)
  | [], cs, a, c, h1, h2 => by
    simp only [Reps] at h1
    subst h1
    simp only [List.nil_append, Reps]
    exact ⟨c, [], by simp, h2, rfl⟩
  | x :: bs, cs, a, c, h1, h2 => by
    simp only [Reps] at h1
    obtain ⟨c1, c2, rfl, r1, r2⟩ := h1
    simp only [List.cons_append, Reps]
    exact ⟨c1, c2 ++ c, by simp, r1, reps_snoc r2 h2⟩
theorem lies_app {S : Still} {b o : Nat} {c1 c2 : List Value} (h1 : Lies S b o c1) (h2 : Lies S b (o + c1.length) c2) : Lies S b o (c1 ++ c2) := by
  intro j v hj
  rcases Nat.lt_or_ge j c1.length with q | q
  · rw [List.getElem?_append_left q] at hj
    exact h1 j v hj
  · rw [List.getElem?_append_right q] at hj
    have := h2 _ _ hj
    rwa [show o + c1.length + (j - c1.length) = o + j by omega] at this
theorem slice_rep {α : Type} {t e sz : Nat} (f : α → A) (ok : α → Prop) (ht : P.underlying t = some (.slice e)) (hsz : P.cellsOf e = sz) (h0 : 0 < sz) (hf : ∀ a, (f a).size = sz)
    (hel : ∀ n cs x, DataW.trod enc P w base spare held n e cs = some x → ∃ a, ok a ∧ Rep (allS w) (f a) cs)
    {fuel : Nat} {cs : List Value} {x : DataW H × List MemPlace} (h : DataW.trod enc P w base spare held fuel t cs = some x) : ∃ l : List α, (∀ a ∈ l, ok a) ∧ Rep (allS w) (.sl sz false (l.map f)) cs := by
  rcases DataW.trod_slice ht h with ⟨rfl, _⟩ | ⟨a, len, cap, elems, rest, n, _, rfl, _, _, hlc, _, hlen, hall, _, _⟩
  · refine ⟨[], by simp, ?_⟩
    simp only [Rep, List.map_nil, List.length_nil]
    exact ⟨none, 0, rfl, by simp, Nat.le_refl _, by simp, .inl trivial⟩
  · have key : ∀ k, k ≤ len → ∃ (l : List α) (cells : List Value), l.length = k ∧ (∀ a ∈ l, ok a) ∧ Reps (allS w) (l.map f) cells ∧ cells.length = k * sz ∧ (0 < k → a.spot = none) ∧ Lies (allS w) a.block a.off cells := by
      intro k
      induction k with
      | zero => intro _; exact ⟨[], [], rfl, by simp, by simp [Reps], by simp, by simp, fun j v h => by simp at h⟩
      | succ k ih =>
        intro hk
        obtain ⟨l, cells, q1, q2, q3, q4, q5, q6⟩ := ih (by omega)
        have hk' := hall k (by omega)
        have hsome : elems[k]? = some elems[k] := List.getElem?_eq_getElem (by omega)
        rw [hsome, Option.bind_eq_some_iff, hsz] at hk'
        obtain ⟨c, hc, htr⟩ := hk'
        obtain ⟨y, hy, hr⟩ := hel _ _ _ htr
        obtain ⟨g1, g2, g3⟩ := cells_lie hc h0
        refine ⟨l ++ [y], cells ++ c, by simp [q1], ?_, ?_, ?_, ?_, ?_⟩
        · intro z hz
          rcases List.mem_append.1 hz with q | q
          · exact q2 z q
          · simp only [List.mem_cons, List.not_mem_nil, or_false] at q; subst q; exact hy
        · rw [List.map_append]; exact reps_snoc q3 hr
        · rw [List.length_append, q4, g2, Nat.succ_mul]
        · intro _
          rcases Nat.eq_zero_or_pos k with rfl | hk0
          · simpa [Addr.add] using g1
          · exact q5 hk0
        · refine lies_app q6 ?_
          rw [q4]
          unfold Addr.add at g3
          split at g3
          · rename_i e0
            rw [e0, Nat.add_zero]
            exact g3
          · exact g3
    obtain ⟨l, cells, q1, q2, q3, q4, q5, q6⟩ := key len (Nat.le_refl _)
    refine ⟨l, q2, ?_⟩
    simp only [Rep, List.length_map]
    refine ⟨some a, cap, by rw [q1], by simp, by omega, ?_, ?_⟩
    · intro y hy
      obtain ⟨z, _, rfl⟩ := List.mem_map.1 hy
      exact hf z
    · rcases Nat.eq_zero_or_pos len with rfl | hl
      · left; rw [List.length_eq_zero_iff.1 q1]; rfl
      · right
        refine ⟨a.block, a.off, cells, ?_, q3, q6⟩
        have := q5 hl
        obtain ⟨b, o, s⟩ := a
        simp only at this
        subst this
        rfl
theorem int_rep {t : Nat} {k : IntKind} {lo hi : Int} (ht : P.underlying t = some (.int k)) (hlo : k.min = lo) (hhi : k.max = hi) {fuel : Nat} {cs : List Value} {x : DataW H × List MemPlace} (h : DataW.trod enc P w base spare held fuel t cs = some x) :
    ∃ n : Int, (lo ≤ n ∧ n ≤ hi) ∧ cs = [.int k n] ∧ Rep (allS w) (.atom (.int k n)) cs := by
  obtain ⟨n, rfl, _, hw⟩ := DataW.trod_int ht h
  simp only [Lit.wf, Bool.and_eq_true, decide_eq_true_eq, hlo, hhi] at hw
  exact ⟨n, hw, rfl, by simp only [Rep]; exact ⟨trivial, rfl⟩⟩
theorem bool_rep {t : Nat} (ht : P.underlying t = some .bool) {fuel : Nat} {cs : List Value} {x : DataW H × List MemPlace} (h : DataW.trod enc P w base spare held fuel t cs = some x) :
    ∃ b : Bool, Rep (allS w) (.atom (.bool b)) cs := by
  obtain ⟨b, rfl, _⟩ := DataW.trod_bool ht h
  exact ⟨b, by simp only [Rep]; exact ⟨trivial, rfl⟩⟩
theorem struct_fields {t : Nat} {fs : List Field} (ht : P.underlying t = some (.struct ⟨fs⟩)) {fuel : Nat} {cs : List Value} {x : DataW H × List MemPlace} (h : DataW.trod enc P w base spare held fuel t cs = some x) :
    cs.length = P.cellsOf t ∧ ∀ (i : Nat) (f : Field), fs[i]? = some f → ∃ n y, DataW.trod enc P w base spare held n f.type ((cs.drop f.offset).take (P.cellsOf f.type)) = some y := by
  obtain ⟨xs, n, _, _, hl, hxl, hall⟩ := DataW.trod_struct ht h
  refine ⟨hl, fun i f hf => ?_⟩
  have hlt := (List.getElem?_eq_some_iff.1 hf).1
  have := hall i f (by simpa using hf)
  rw [List.getElem?_eq_getElem (by rw [hxl]; simpa using hlt)] at this
  exact ⟨n, _, this⟩
end
theorem reps_take {S : Still} {a : A} {bs : List A} {cs : List Value} {n : Nat} (h1 : Rep S a (cs.take n)) (h2 : Reps S bs (cs.drop n)) : Reps S (a :: bs) cs := by
  simp only [Reps]
  exact ⟨cs.take n, cs.drop n, (List.take_append_drop n cs).symm, h1, h2⟩
end Go.Own

namespace Go.Own
set_option linter.unusedVariables false
section
open Go Go.ChangeShapes Go.WideShapes Go.ChangeAt Go.RowKit
theorem post_kept {P : Program} {H : Type} {enc : TypeId × Value → H} {f : Func} {s : ChangeSpec} {apart fresh handsOn again : Bool} {W W' : World} {args : Array Value} {v : Value} {ds : List (DataW H)} {pa : List MemPlace}
    (hvar : s.vars = []) (hvars2 : (s.fn H (ds ++ [])).vars = []) (hW : DataW.Whole enc P f.params.toList s.vars apart W args.toList ds [] (pa ++ [])) (hb : Below W.heap.size W W')
    (hres : ∀ (b : Nat) (sp : Nat → Bool) (hd : Bool), DataW.TrodAll enc P W' b sp hd f.resultTypes.toList (v.resultList f.resultTypes.size) (s.fn H (ds ++ [])).results [])
    (hargs : ∀ sp : Nat → Bool, (∀ p ∈ pa ++ [], sp p.block = true) → DataW.TrodAll enc P W' 0 sp true f.params.toList args.toList (s.fn H (ds ++ [])).args pa)
    (hok : ∀ (j : Nat) (t : TypeId) (r : Value), f.resultTypes[j]? = some t → (v.resultList f.resultTypes.size)[j]? = some r → Value.okWide P W' .any 0 t r) :
    s.post enc P f apart fresh handsOn again W args v W' := by
  have hlt : ∀ p ∈ pa ++ [], p.block < W.heap.size := fun p hp => by simpa using hW.lt p hp
  have hvr : ∀ sp : Nat → Bool, DataW.TrodVars enc P W' sp s.vars (s.fn H (ds ++ [])).vars [] := fun sp => by rw [hvar, hvars2]; rfl
  refine ⟨ds, [], pa ++ [], [], pa, [], hW, hres _ _ _, hargs _ (fun p hp => by simpa using hlt p hp), hvr _, World.keptBut_mono (fun _ q => q.elim) (hb.frame fun _ => False), fun _ => ?_⟩
  obtain ⟨_, _, _, _, _, hz, hn⟩ := hW
  refine ⟨hok, _, _, ([] ++ pa) ++ [], ⟨[] ++ pa, [], trodAll_append (hargs _ (fun _ _ => rfl)) (hres _ _ _), hvr _, rfl, ?_, ?_⟩, ?_⟩
  · intro b off hp
    have hp' : MemPlace.cell b off ∈ pa ++ [] := by simpa using hp
    rw [hb.frozen (p := ⟨b, off, none⟩) (hlt _ hp')]
    exact hz b off hp'
  · intro ha
    simpa using hn ha
  · intro p hp _
    simpa using hp
end
theorem spF_call {P : Program} {k : Nat} {α ρ : Type} {enc : α → List A} {encR : ρ → A} {F : α → Option ρ} {gives : List Bool} {inj : ∀ x y, enc x = enc y → x = y} (h : (spF k enc encR F gives inj).Ok P) {x : α} {r : ρ} (hr : F x = some r) : CallOk P k (enc x) (encR r) := by
  have := h x ⟨r, hr⟩
  simpa only [spF, hr] using this
section
variable {P : Program} {w : World} {r : Reach} {base t : Nat} {v : Value}
theorem val_plain (h : ∀ cs, v ≠ .agg cs) : v = v.cells.toList.headD undef := by
  cases v <;> first | rfl | exact (h _ rfl).elim
theorem val_int {k : IntKind} (hu : P.underlying t = some (.int k)) (h : Value.okWide P w r base t v) : v = v.cells.toList.headD undef := by
  refine val_plain fun cs e => ?_
  subst e
  unfold Value.okWide at h
  rw [hu] at h
  simp only [Cell.okWide, hu, Cell.ok] at h
theorem val_struct {fs : Array Field} (hu : P.underlying t = some (.struct fs)) (h : Value.okWide P w r base t v) : v = .agg v.cells.toList.toArray := by
  unfold Value.okWide at h
  rw [hu] at h
  obtain ⟨cs, rfl, _⟩ := h
  rfl
theorem rep1_int {k : IntKind} {S : Still} {a : A} (hu : P.underlying t = some (.int k)) (hr : Rep S a v.cells.toList) (h : Value.okWide P w r base t v) (ha : a.isAgg = false) : Rep1 S a v := ⟨_, hr, by cases a <;> first | exact val_int hu h | cases ha⟩
theorem rep1_struct {fs : Array Field} {S : Still} {a : A} (hu : P.underlying t = some (.struct fs)) (hr : Rep S a v.cells.toList) (h : Value.okWide P w r base t v) (ha : a.isAgg = true) : Rep1 S a v := ⟨_, hr, by cases a <;> first | exact val_struct hu h | cases ha⟩
theorem has_true {S : Still} {h : Array Obj} {v : Value} {F : List Nat} (q : Has S h (.atom (.bool true)) v F) : v = .bool true := by
  rcases q with ⟨q, _⟩ | ⟨cs, q, _, rfl⟩
  · rw [(repV_atom.1 q).1]
  · simp only [Conc, Rep] at q
    obtain ⟨⟨rfl, _⟩, _⟩ := q
    rfl
end
end Go.Own
