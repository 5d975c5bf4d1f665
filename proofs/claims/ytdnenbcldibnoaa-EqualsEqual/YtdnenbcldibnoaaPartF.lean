/- -/
import Derived.Test.YtdnenbcldibnoaaPartE
set_option linter.unusedVariables false
set_option linter.unusedSimpArgs false
namespace Go.Own
open Go.Proofs
set_option linter.unusedVariables false
set_option maxRecDepth 100000
set_option maxHeartbeats 8000000
def X0 : XH Try.prog := xB TTab_ok
theorem mt_130 : MapT Try.prog 130 95 4 (okAgg [.i64, .i64]) (.atom (.bool false)) := mapT_agg Try.underlying130 _ Try.underlying95 (Go.Ex.i95_ok.eqn rfl) (ti95_ok.eqn rfl) rfl ⟨.bool false, fun w => zero_run (f := Try.t4) (by kernel_rfl) rfl w, fun S => rep1_atom.2 ⟨rfl, rfl⟩⟩ rfl
theorem fd_67_0 : FieldT Try.prog 67 0 3 0 := fieldT_of Try.underlying67 _ rfl rfl rfl
theorem so_78 : SortT Try.prog 78 2 := sortT_of TTab_ok (t := 95) Try.so78 rfl rfl (by kernel_rfl)
noncomputable def bd_law04_M_Of : Code := (Try.f11.body).getD .skip
noncomputable def sp_law04_M_Of : Spec := spF (α := S_law04_M) (ρ := S_api_Machine) 11 (fun x => [F19_ x]) (fun r => F22_ r) (fun x => law04_M_Of x) [] (by
 rintro a0 b0 h
 simp only [List.cons.injEq, and_true] at h
 have e0 := EncI.inj (f := F19_) _ _ h
 subst e0
 rfl)
abbrev ST_law04_M_Of_J1 (x_ : S_law04_M) (m_Rows : List (List S_api_Edge)) : List (Nat × T) := [(2, .own (.box (.agg [I 0, I 0, eOs 1 true F13_ []]))), (4, .own (.box (.agg [I (w64 (1 + (w64 (Int.tmod x_.Inputs 3)))), I (w64 (1 + (w64 (Int.tmod x_.Outputs 3)))), eOs 1 false F14_ m_Rows])))]
abbrev ST_law04_M_Of_J3 (x_ : S_law04_M) (s_ : Int) (m_Rows2 : List (List S_api_Edge)) : List (Nat × T) := [(1, .own (.box (F19_ x_))), (2, .own (.box (.agg [I 0, I 0, eOs 1 true F13_ []]))), (3, .d (I (w64 (1 + (w64 (Int.tmod x_.States 6)))))), (4, .own (.box (.agg [I (w64 (1 + (w64 (Int.tmod x_.Inputs 3)))), I (w64 (1 + (w64 (Int.tmod x_.Outputs 3)))), eOs 1 false F14_ m_Rows2]))), (5, .d (I s_))]
abbrev ST_law04_M_Of_J4 (x_ : S_law04_M) (m_Rows1 : List (List S_api_Edge)) (s_ : Int) (row : List S_api_Edge) : List (Nat × T) := [(1, .own (.box (F19_ x_))), (2, .own (.box (.agg [I 0, I 0, eOs 1 true F13_ []]))), (3, .d (I (w64 (1 + (w64 (Int.tmod x_.States 6)))))), (4, .own (.box (.agg [I (w64 (1 + (w64 (Int.tmod x_.Inputs 3)))), I (w64 (1 + (w64 (Int.tmod x_.Outputs 3)))), eOs 1 false F14_ m_Rows1]))), (5, .d (I s_)), (6, .own (eOs 2 false F9_ row))]
abbrev ST_law04_M_Of_J6 (x_ : S_law04_M) (m_Rows1 : List (List S_api_Edge)) (s_ : Int) (i_ : Int) (row2 : List S_api_Edge) : List (Nat × T) := [(1, .own (.box (F19_ x_))), (2, .own (.box (.agg [I 0, I 0, eOs 1 true F13_ []]))), (3, .d (I (w64 (1 + (w64 (Int.tmod x_.States 6)))))), (4, .own (.box (.agg [I (w64 (1 + (w64 (Int.tmod x_.Inputs 3)))), I (w64 (1 + (w64 (Int.tmod x_.Outputs 3)))), eOs 1 false F14_ m_Rows1]))), (5, .d (I s_)), (6, .own (eOs 2 false F9_ row2)), (7, .d (I i_))]
abbrev ST_law04_M_Of_J7 (x_ : S_law04_M) (m_Rows1 : List (List S_api_Edge)) (s_ : Int) (row1 : List S_api_Edge) (i_ : Int) (v_ : Int) : List (Nat × T) := [(1, .own (.box (F19_ x_))), (2, .own (.box (.agg [I 0, I 0, eOs 1 true F13_ []]))), (3, .d (I (w64 (1 + (w64 (Int.tmod x_.States 6)))))), (4, .own (.box (.agg [I (w64 (1 + (w64 (Int.tmod x_.Inputs 3)))), I (w64 (1 + (w64 (Int.tmod x_.Outputs 3)))), eOs 1 false F14_ m_Rows1]))), (5, .d (I s_)), (6, .own (eOs 2 false F9_ row1)), (7, .d (I i_)), (8, .d (I v_))]
abbrev ST_law04_M_Of_L5 (x_ : S_law04_M) (m_Rows1 : List (List S_api_Edge)) (s_ : Int) (row1 : List S_api_Edge) (i_ : Int) : List (Nat × T) := [(1, .own (.box (F19_ x_))), (2, .own (.box (.agg [I 0, I 0, eOs 1 true F13_ []]))), (3, .d (I (w64 (1 + (w64 (Int.tmod x_.States 6)))))), (4, .own (.box (.agg [I (w64 (1 + (w64 (Int.tmod x_.Inputs 3)))), I (w64 (1 + (w64 (Int.tmod x_.Outputs 3)))), eOs 1 false F14_ m_Rows1]))), (5, .d (I s_)), (6, .own (eOs 2 false F9_ row1)), (7, .d (I i_))]
abbrev ST_law04_M_Of_L2 (x_ : S_law04_M) (m_Rows1 : List (List S_api_Edge)) (s_ : Int) : List (Nat × T) := [(1, .own (.box (F19_ x_))), (2, .own (.box (.agg [I 0, I 0, eOs 1 true F13_ []]))), (3, .d (I (w64 (1 + (w64 (Int.tmod x_.States 6)))))), (4, .own (.box (.agg [I (w64 (1 + (w64 (Int.tmod x_.Inputs 3)))), I (w64 (1 + (w64 (Int.tmod x_.Outputs 3)))), eOs 1 false F14_ m_Rows1]))), (5, .d (I s_))]
theorem w_law04_M_Of {ctr : Ctr} (hC : CtrOk Try.prog ctr) (hm : Try.prog.follows .mixedOrders = true) : sp_law04_M_Of.Ok Try.prog := by
 refine spF_ok ?_
 rintro x_ r0 hf0
 try unfold law04_M_Of at hf0
 refine callOk_h (tt := TTab) (keep := false) (rs := [(2, some 34)]) (n := ⟨87, []⟩) (body := bd_law04_M_Of) TTab_ok Try.func11 rfl (by kernel_rfl) rfl rfl (by show (1 : Nat) ≤ 87; decide) fun E hE => ?_
 obtain ⟨g0, hf0⟩ := gdE hf0
 obtain ⟨g1, hf0⟩ := gdE hf0
 obtain ⟨g2, hf0⟩ := gdE hf0
 refine awpAt X0 TTab_ok hC hm [1,2,3,4] 4000 [.cut 3] (sub [1,1,1] bd_law04_M_Of) (frs [1,1,1] [] bd_law04_M_Of []) [(1, .own (.box (F19_ x_))), (2, .own (.box (.agg [I 0, I 0, eOs 1 true F13_ []]))), (3, .d (I (w64 (1 + (w64 (Int.tmod x_.States 6)))))), (4, .own (.box (.agg [I (w64 (1 + (w64 (Int.tmod x_.Inputs 3)))), I (w64 (1 + (w64 (Int.tmod x_.Outputs 3)))), eOs 1 true F13_ []])))] [ob g0, ob g1, ob g2] (by kernel_rfl) fun st0 h0 => ?_
 refine awpJoin' (X := List (List S_api_Edge)) (x := (sub [1,1,1,2] bd_law04_M_Of)) (y := (sub [1,1,1,1] bd_law04_M_Of)) (by kernel_rfl) [2,4] [1,2,3,4] _ h0 (fun z => law04_M_Of_J1 x_ z = some r0) (fun z => ST_law04_M_Of_J1 x_ z) ?_ fun J1 hJ1 => ?_
 ·rintro m_Rows hf0
  unfold law04_M_Of_J1 at hf0
  have o0 := shM F14_ F13_ m_Rows
  obtain rfl := someE hf0
  exact awpEnd X0 TTab_ok hC hm hE 4000 (hs := [.l (m_Rows.map F13_)]) (x := (.agg [I (w64 (1 + (w64 (Int.tmod x_.Inputs 3)))), I (w64 (1 + (w64 (Int.tmod x_.Outputs 3)))), eSl 1 false F13_ m_Rows])) [ob o0] (by kernel_rfl) (LeV.refl _)
 ·obtain ⟨t2, ht2, hf0⟩ := bindE hf0
  refine awpAt X0 TTab_ok hC hm [1,2,3,4,5] 4000 [] (sub [1,1,1,2,1,0] bd_law04_M_Of) (frs [1,1,1,2,1,0] [J1] bd_law04_M_Of []) [(1, .own (.box (F19_ x_))), (2, .own (.box (.agg [I 0, I 0, eOs 1 true F13_ []]))), (3, .d (I (w64 (1 + (w64 (Int.tmod x_.States 6)))))), (4, .own (.box (.agg [I (w64 (1 + (w64 (Int.tmod x_.Inputs 3)))), I (w64 (1 + (w64 (Int.tmod x_.Outputs 3)))), eOs 1 true F14_ []]))), (5, .d (I 0))] [] (by kernel_rfl) fun st0 h0 => ?_
  refine awpLoop' (X := (List (List S_api_Edge) × Int) × Nat) (c' := (sub [1,1,1,2,1,0,0] bd_law04_M_Of)) (by kernel_rfl) [1,2,3,4,5] (fun x => loopN (fun s => law04_M_Of_L2 x_ s.1 s.2) x.2 x.1 = some t2) (fun x => x.2) (fun x => ST_law04_M_Of_L2 x_ x.1.1 x.1.2) ((([] : List (List S_api_Edge)), 0), fuel) _ h0 inferInstance ht2 ?_
  rintro ⟨⟨m_Rows1, s_⟩, n2⟩ hn2 J2 hJ2
  obtain ⟨m2, lr1, rfl, hf1, hl1⟩ := loopE hn2
  try unfold law04_M_Of_L2 at hf1
  rcases bifE hf1 with ⟨c0, hf1⟩ | ⟨c0, hf1⟩
  ·refine awpAt X0 TTab_ok hC hm [1,2,3,4,5] 4000 [bT, .cut 0] (sub [1,1,1,2,1,0,0,1] bd_law04_M_Of) (frs [1,1,1,2,1,0,0,1] [J1, J2] bd_law04_M_Of []) [(1, .own (.box (F19_ x_))), (2, .own (.box (.agg [I 0, I 0, eOs 1 true F13_ []]))), (3, .d (I (w64 (1 + (w64 (Int.tmod x_.States 6)))))), (4, .own (.box (.agg [I (w64 (1 + (w64 (Int.tmod x_.Inputs 3)))), I (w64 (1 + (w64 (Int.tmod x_.Outputs 3)))), eOs 1 false F14_ m_Rows1]))), (5, .d (I s_))] [ob c0] (by kernel_rfl) fun st0 h0 => ?_
   refine awpJoin' (X := List (List S_api_Edge)) (x := (sub [1,1,1,2,1,0,0,1,2] bd_law04_M_Of)) (y := (sub [1,1,1,2,1,0,0,1,1] bd_law04_M_Of)) (by kernel_rfl) [1,2,3,4,5] [1,2,3,4,5] _ h0 (fun z => law04_M_Of_J3 s_ z = some lr1) (fun z => ST_law04_M_Of_J3 x_ s_ z) ?_ fun J3 hJ3 => ?_
   ·rintro m_Rows2 hf1
    unfold law04_M_Of_J3 at hf1
    obtain rfl := someE hf1
    exact awpBack X0 TTab_ok hC hm [1,2,3,4,5] 4000 [] J2 [(1, .own (.box (F19_ x_))), (2, .own (.box (.agg [I 0, I 0, eOs 1 true F13_ []]))), (3, .d (I (w64 (1 + (w64 (Int.tmod x_.States 6)))))), (4, .own (.box (.agg [I (w64 (1 + (w64 (Int.tmod x_.Inputs 3)))), I (w64 (1 + (w64 (Int.tmod x_.Outputs 3)))), eOs 1 false F14_ m_Rows2]))), (5, .d (I (w64 (s_ + 1))))] [] (by kernel_rfl) fun st0 h0 => hJ2 st0 _ ((m_Rows2, w64 (s_ + 1)), m2) hl1 (Nat.lt_succ_self m2) h0 inferInstance
   ·refine awpAt X0 TTab_ok hC hm [1,2,3,4,5,6] 4000 [.cut 1] (sub [1,1,1,2,1,0,0,1,2,0,1] bd_law04_M_Of) (frs [1,1,1,2,1,0,0,1,2,0,1] [J1, J2, J3] bd_law04_M_Of []) [(1, .own (.box (F19_ x_))), (2, .own (.box (.agg [I 0, I 0, eOs 1 true F13_ []]))), (3, .d (I (w64 (1 + (w64 (Int.tmod x_.States 6)))))), (4, .own (.box (.agg [I (w64 (1 + (w64 (Int.tmod x_.Inputs 3)))), I (w64 (1 + (w64 (Int.tmod x_.Outputs 3)))), eOs 1 false F14_ m_Rows1]))), (5, .d (I s_)), (6, .own (eOs 2 true F9_ []))] [] (by kernel_rfl) fun st0 h0 => ?_
    refine awpJoin' (X := List S_api_Edge) (x := (sub [1,1,1,2,1,0,0,1,2,0,1,2] bd_law04_M_Of)) (y := (sub [1,1,1,2,1,0,0,1,2,0,1,1] bd_law04_M_Of)) (by kernel_rfl) [1,2,3,4,5,6] [1,2,3,4,5,6] _ h0 (fun z => law04_M_Of_J4 m_Rows1 s_ z = some lr1) (fun z => ST_law04_M_Of_J4 x_ m_Rows1 s_ z) ?_ fun J4 hJ4 => ?_
    ·rintro row hf1
     unfold law04_M_Of_J4 at hf1
     have o1 := oC F14_ row []
     obtain ⟨g3, hf1⟩ := gdE hf1
     have o2 := aL F14_ F14_ g3
     have o3 := aM F14_ m_Rows1 ([row] : List (List S_api_Edge))
     exact awpBack X0 TTab_ok hC hm [1,2,3,4,5] 4000 [bF, .l ((m_Rows1 ++ ([row] : List (List S_api_Edge))).map F14_)] J3 [(1, .own (.box (F19_ x_))), (2, .own (.box (.agg [I 0, I 0, eOs 1 true F13_ []]))), (3, .d (I (w64 (1 + (w64 (Int.tmod x_.States 6)))))), (4, .own (.box (.agg [I (w64 (1 + (w64 (Int.tmod x_.Inputs 3)))), I (w64 (1 + (w64 (Int.tmod x_.Outputs 3)))), eOs 1 false F14_ (m_Rows1 ++ ([row] : List (List S_api_Edge)))]))), (5, .d (I s_))] [ob o1, ob o2, ob o3] (by kernel_rfl) fun st0 h0 => hJ3 st0 _ (m_Rows1 ++ ([row] : List (List S_api_Edge))) hf1 h0 inferInstance
    ·obtain ⟨t5, ht5, hf1⟩ := bindE hf1
     refine awpAt X0 TTab_ok hC hm [1,2,3,4,5,6,7] 4000 [] (sub [1,1,1,2,1,0,0,1,2,0,1,2,1,0] bd_law04_M_Of) (frs [1,1,1,2,1,0,0,1,2,0,1,2,1,0] [J1, J2, J3, J4] bd_law04_M_Of []) [(1, .own (.box (F19_ x_))), (2, .own (.box (.agg [I 0, I 0, eOs 1 true F13_ []]))), (3, .d (I (w64 (1 + (w64 (Int.tmod x_.States 6)))))), (4, .own (.box (.agg [I (w64 (1 + (w64 (Int.tmod x_.Inputs 3)))), I (w64 (1 + (w64 (Int.tmod x_.Outputs 3)))), eOs 1 false F14_ m_Rows1]))), (5, .d (I s_)), (6, .own (eOs 2 true F9_ [])), (7, .d (I 0))] [] (by kernel_rfl) fun st0 h0 => ?_
     refine awpLoop' (X := (List S_api_Edge × Int) × Nat) (c' := (sub [1,1,1,2,1,0,0,1,2,0,1,2,1,0,0] bd_law04_M_Of)) (by kernel_rfl) [1,2,3,4,5,6,7] (fun x => loopN (fun s => law04_M_Of_L5 x_ s_ s.1 s.2) x.2 x.1 = some t5) (fun x => x.2) (fun x => ST_law04_M_Of_L5 x_ m_Rows1 s_ x.1.1 x.1.2) ((([] : List S_api_Edge), 0), fuel) _ h0 inferInstance ht5 ?_
     rintro ⟨⟨row1, i_⟩, n5⟩ hn5 J5 hJ5
     obtain ⟨m5, lr2, rfl, hf2, hl2⟩ := loopE hn5
     try unfold law04_M_Of_L5 at hf2
     rcases bifE hf2 with ⟨c1, hf2⟩ | ⟨c1, hf2⟩
     ·refine awpAt X0 TTab_ok hC hm [1,2,3,4,5,6,7] 4000 [bT, .cut 0] (sub [1,1,1,2,1,0,0,1,2,0,1,2,1,0,0,1] bd_law04_M_Of) (frs [1,1,1,2,1,0,0,1,2,0,1,2,1,0,0,1] [J1, J2, J3, J4, J5] bd_law04_M_Of []) [(1, .own (.box (F19_ x_))), (2, .own (.box (.agg [I 0, I 0, eOs 1 true F13_ []]))), (3, .d (I (w64 (1 + (w64 (Int.tmod x_.States 6)))))), (4, .own (.box (.agg [I (w64 (1 + (w64 (Int.tmod x_.Inputs 3)))), I (w64 (1 + (w64 (Int.tmod x_.Outputs 3)))), eOs 1 false F14_ m_Rows1]))), (5, .d (I s_)), (6, .own (eOs 2 false F9_ row1)), (7, .d (I i_))] [ob c1] (by kernel_rfl) fun st0 h0 => ?_
      refine awpJoin' (X := List S_api_Edge) (x := (sub [1,1,1,2,1,0,0,1,2,0,1,2,1,0,0,1,2] bd_law04_M_Of)) (y := (sub [1,1,1,2,1,0,0,1,2,0,1,2,1,0,0,1,1] bd_law04_M_Of)) (by kernel_rfl) [1,2,3,4,5,6,7] [1,2,3,4,5,6,7] _ h0 (fun z => law04_M_Of_J6 i_ z = some lr2) (fun z => ST_law04_M_Of_J6 x_ m_Rows1 s_ i_ z) ?_ fun J6 hJ6 => ?_
      ·rintro row2 hf2
       unfold law04_M_Of_J6 at hf2
       obtain rfl := someE hf2
       exact awpBack X0 TTab_ok hC hm [1,2,3,4,5,6,7] 4000 [] J5 [(1, .own (.box (F19_ x_))), (2, .own (.box (.agg [I 0, I 0, eOs 1 true F13_ []]))), (3, .d (I (w64 (1 + (w64 (Int.tmod x_.States 6)))))), (4, .own (.box (.agg [I (w64 (1 + (w64 (Int.tmod x_.Inputs 3)))), I (w64 (1 + (w64 (Int.tmod x_.Outputs 3)))), eOs 1 false F14_ m_Rows1]))), (5, .d (I s_)), (6, .own (eOs 2 false F9_ row2)), (7, .d (I (w64 (i_ + 1))))] [] (by kernel_rfl) fun st0 h0 => hJ5 st0 _ ((row2, w64 (i_ + 1)), m5) hl2 (Nat.lt_succ_self m5) h0 inferInstance
      ·refine awpAt X0 TTab_ok hC hm [1,2,3,4,5,6,7,8] 4000 [.cut 1] (sub [1,1,1,2,1,0,0,1,2,0,1,2,1,0,0,1,2,0,1] bd_law04_M_Of) (frs [1,1,1,2,1,0,0,1,2,0,1,2,1,0,0,1,2,0,1] [J1, J2, J3, J4, J5, J6] bd_law04_M_Of []) [(1, .own (.box (F19_ x_))), (2, .own (.box (.agg [I 0, I 0, eOs 1 true F13_ []]))), (3, .d (I (w64 (1 + (w64 (Int.tmod x_.States 6)))))), (4, .own (.box (.agg [I (w64 (1 + (w64 (Int.tmod x_.Inputs 3)))), I (w64 (1 + (w64 (Int.tmod x_.Outputs 3)))), eOs 1 false F14_ m_Rows1]))), (5, .d (I s_)), (6, .own (eOs 2 false F9_ row1)), (7, .d (I i_)), (8, .d (I 0))] [] (by kernel_rfl) fun st0 h0 => ?_
       refine awpJoin' (X := Int) (x := (sub [1,1,1,2,1,0,0,1,2,0,1,2,1,0,0,1,2,0,1,2] bd_law04_M_Of)) (y := (sub [1,1,1,2,1,0,0,1,2,0,1,2,1,0,0,1,2,0,1,1] bd_law04_M_Of)) (by kernel_rfl) [1,2,3,4,5,6,7,8] [1,2,3,4,5,6,7,8] _ h0 (fun z => law04_M_Of_J7 x_ row1 i_ z = some lr2) (fun z => ST_law04_M_Of_J7 x_ m_Rows1 s_ row1 i_ z) ?_ fun J7 hJ7 => ?_
       ·rintro v_ hf2
        unfold law04_M_Of_J7 at hf2
        rcases bifE hf2 with ⟨c2, hf2⟩ | ⟨c2, hf2⟩
        ·obtain ⟨g4, hf2⟩ := gdE hf2
         rcases bifE hf2 with ⟨c3, hf2⟩ | ⟨c3, hf2⟩
         ·have o4 := dM F9_ ([(S_api_Edge.mk (-1) (-1))] : List S_api_Edge)
          have o5 := dM F9_ ([(S_api_Edge.mk (-1) (-1))] : List S_api_Edge)
          obtain ⟨g5, hf2⟩ := gdE hf2
          have o6 := aL F9_ F9_ g5
          have o7 := aM F9_ row1 ([(S_api_Edge.mk (-1) (-1))] : List S_api_Edge)
          exact awpBack X0 TTab_ok hC hm [1,2,3,4,5,6,7] 4000 (rpN 6 bT [.l ((row1 ++ ([(S_api_Edge.mk (-1) (-1))] : List S_api_Edge)).map F9_)]) J6 [(1, .own (.box (F19_ x_))), (2, .own (.box (.agg [I 0, I 0, eOs 1 true F13_ []]))), (3, .d (I (w64 (1 + (w64 (Int.tmod x_.States 6)))))), (4, .own (.box (.agg [I (w64 (1 + (w64 (Int.tmod x_.Inputs 3)))), I (w64 (1 + (w64 (Int.tmod x_.Outputs 3)))), eOs 1 false F14_ m_Rows1]))), (5, .d (I s_)), (6, .own (eOs 2 false F9_ (row1 ++ ([(S_api_Edge.mk (-1) (-1))] : List S_api_Edge)))), (7, .d (I i_))] [ob c2, ob c2, ob g4, ob c2, ob c2, ob c3, ob o4, ob o5, ob o6, ob o7] (by kernel_rfl) fun st0 h0 => hJ6 st0 _ (row1 ++ ([(S_api_Edge.mk (-1) (-1))] : List S_api_Edge)) hf2 h0 inferInstance
         ·obtain ⟨g6, hf2⟩ := gdE hf2
          obtain ⟨g7, hf2⟩ := gdE hf2
          obtain ⟨g8, hf2⟩ := gdE hf2
          obtain ⟨g9, hf2⟩ := gdE hf2
          obtain ⟨g10, hf2⟩ := gdE hf2
          have o8 := dM F9_ ([(S_api_Edge.mk (Int.tmod (w64 (Int.tdiv v_ 4)) (w64 (1 + (w64 (Int.tmod x_.States 6))))) (Int.tmod (w64 (Int.tdiv (w64 (Int.tdiv v_ 4)) (w64 (1 + (w64 (Int.tmod x_.States 6)))))) (w64 (1 + (w64 (Int.tmod x_.Outputs 3))))))] : List S_api_Edge)
          have o9 := dM F9_ ([(S_api_Edge.mk (Int.tmod (w64 (Int.tdiv v_ 4)) (w64 (1 + (w64 (Int.tmod x_.States 6))))) (Int.tmod (w64 (Int.tdiv (w64 (Int.tdiv v_ 4)) (w64 (1 + (w64 (Int.tmod x_.States 6)))))) (w64 (1 + (w64 (Int.tmod x_.Outputs 3))))))] : List S_api_Edge)
          obtain ⟨g11, hf2⟩ := gdE hf2
          have o10 := aL F9_ F9_ g11
          have o11 := aM F9_ row1 ([(S_api_Edge.mk (Int.tmod (w64 (Int.tdiv v_ 4)) (w64 (1 + (w64 (Int.tmod x_.States 6))))) (Int.tmod (w64 (Int.tdiv (w64 (Int.tdiv v_ 4)) (w64 (1 + (w64 (Int.tmod x_.States 6)))))) (w64 (1 + (w64 (Int.tmod x_.Outputs 3))))))] : List S_api_Edge)
          exact awpBack X0 TTab_ok hC hm [1,2,3,4,5,6,7] 4000 (rpN 4 bT [bF, bT, .l ((row1 ++ ([(S_api_Edge.mk (Int.tmod (w64 (Int.tdiv v_ 4)) (w64 (1 + (w64 (Int.tmod x_.States 6))))) (Int.tmod (w64 (Int.tdiv (w64 (Int.tdiv v_ 4)) (w64 (1 + (w64 (Int.tmod x_.States 6)))))) (w64 (1 + (w64 (Int.tmod x_.Outputs 3))))))] : List S_api_Edge)).map F9_)]) J6 [(1, .own (.box (F19_ x_))), (2, .own (.box (.agg [I 0, I 0, eOs 1 true F13_ []]))), (3, .d (I (w64 (1 + (w64 (Int.tmod x_.States 6)))))), (4, .own (.box (.agg [I (w64 (1 + (w64 (Int.tmod x_.Inputs 3)))), I (w64 (1 + (w64 (Int.tmod x_.Outputs 3)))), eOs 1 false F14_ m_Rows1]))), (5, .d (I s_)), (6, .own (eOs 2 false F9_ (row1 ++ ([(S_api_Edge.mk (Int.tmod (w64 (Int.tdiv v_ 4)) (w64 (1 + (w64 (Int.tmod x_.States 6))))) (Int.tmod (w64 (Int.tdiv (w64 (Int.tdiv v_ 4)) (w64 (1 + (w64 (Int.tmod x_.States 6)))))) (w64 (1 + (w64 (Int.tmod x_.Outputs 3))))))] : List S_api_Edge)))), (7, .d (I i_))] [ob c2, ob c2, ob g4, ob c2, ob c2, ob c3, ob g6, ob g7, ob g8, ob g9, ob g10, ob o8, ob o9, ob o10, ob o11] (by kernel_rfl) fun st0 h0 => hJ6 st0 _ (row1 ++ ([(S_api_Edge.mk (Int.tmod (w64 (Int.tdiv v_ 4)) (w64 (1 + (w64 (Int.tmod x_.States 6))))) (Int.tmod (w64 (Int.tdiv (w64 (Int.tdiv v_ 4)) (w64 (1 + (w64 (Int.tmod x_.States 6)))))) (w64 (1 + (w64 (Int.tmod x_.Outputs 3))))))] : List S_api_Edge)) hf2 h0 inferInstance
        ·obtain ⟨g12, hf2⟩ := gdE hf2
         obtain ⟨g13, hf2⟩ := gdE hf2
         obtain ⟨g14, hf2⟩ := gdE hf2
         obtain ⟨g15, hf2⟩ := gdE hf2
         obtain ⟨g16, hf2⟩ := gdE hf2
         have o12 := dM F9_ ([(S_api_Edge.mk (Int.tmod (w64 (Int.tdiv v_ 4)) (w64 (1 + (w64 (Int.tmod x_.States 6))))) (Int.tmod (w64 (Int.tdiv (w64 (Int.tdiv v_ 4)) (w64 (1 + (w64 (Int.tmod x_.States 6)))))) (w64 (1 + (w64 (Int.tmod x_.Outputs 3))))))] : List S_api_Edge)
         have o13 := dM F9_ ([(S_api_Edge.mk (Int.tmod (w64 (Int.tdiv v_ 4)) (w64 (1 + (w64 (Int.tmod x_.States 6))))) (Int.tmod (w64 (Int.tdiv (w64 (Int.tdiv v_ 4)) (w64 (1 + (w64 (Int.tmod x_.States 6)))))) (w64 (1 + (w64 (Int.tmod x_.Outputs 3))))))] : List S_api_Edge)
         obtain ⟨g17, hf2⟩ := gdE hf2
         have o14 := aL F9_ F9_ g17
         have o15 := aM F9_ row1 ([(S_api_Edge.mk (Int.tmod (w64 (Int.tdiv v_ 4)) (w64 (1 + (w64 (Int.tmod x_.States 6))))) (Int.tmod (w64 (Int.tdiv (w64 (Int.tdiv v_ 4)) (w64 (1 + (w64 (Int.tmod x_.States 6)))))) (w64 (1 + (w64 (Int.tmod x_.Outputs 3))))))] : List S_api_Edge)
         exact awpBack X0 TTab_ok hC hm [1,2,3,4,5,6,7] 4000 (rpN 5 bF [bT, .l ((row1 ++ ([(S_api_Edge.mk (Int.tmod (w64 (Int.tdiv v_ 4)) (w64 (1 + (w64 (Int.tmod x_.States 6))))) (Int.tmod (w64 (Int.tdiv (w64 (Int.tdiv v_ 4)) (w64 (1 + (w64 (Int.tmod x_.States 6)))))) (w64 (1 + (w64 (Int.tmod x_.Outputs 3))))))] : List S_api_Edge)).map F9_)]) J6 [(1, .own (.box (F19_ x_))), (2, .own (.box (.agg [I 0, I 0, eOs 1 true F13_ []]))), (3, .d (I (w64 (1 + (w64 (Int.tmod x_.States 6)))))), (4, .own (.box (.agg [I (w64 (1 + (w64 (Int.tmod x_.Inputs 3)))), I (w64 (1 + (w64 (Int.tmod x_.Outputs 3)))), eOs 1 false F14_ m_Rows1]))), (5, .d (I s_)), (6, .own (eOs 2 false F9_ (row1 ++ ([(S_api_Edge.mk (Int.tmod (w64 (Int.tdiv v_ 4)) (w64 (1 + (w64 (Int.tmod x_.States 6))))) (Int.tmod (w64 (Int.tdiv (w64 (Int.tdiv v_ 4)) (w64 (1 + (w64 (Int.tmod x_.States 6)))))) (w64 (1 + (w64 (Int.tmod x_.Outputs 3))))))] : List S_api_Edge)))), (7, .d (I i_))] (rpN 4 (ob c2) [oF, ob g12, ob g13, ob g14, ob g15, ob g16, ob o12, ob o13, ob o14, ob o15]) (by kernel_rfl) fun st0 h0 => hJ6 st0 _ (row1 ++ ([(S_api_Edge.mk (Int.tmod (w64 (Int.tdiv v_ 4)) (w64 (1 + (w64 (Int.tmod x_.States 6))))) (Int.tmod (w64 (Int.tdiv (w64 (Int.tdiv v_ 4)) (w64 (1 + (w64 (Int.tmod x_.States 6)))))) (w64 (1 + (w64 (Int.tmod x_.Outputs 3))))))] : List S_api_Edge)) hf2 h0 inferInstance
       ·rcases bifE hf2 with ⟨c4, hf2⟩ | ⟨c4, hf2⟩
        ·obtain ⟨Edge_e, h0, hf2⟩ := bindE hf2
         exact awpBack X0 TTab_ok hC hm [1,2,3,4,5,6,7,8] 4000 [aLn x_.Edges.length, bT, .a ((eI .u16) Edge_e)] J7 [(1, .own (.box (F19_ x_))), (2, .own (.box (.agg [I 0, I 0, eOs 1 true F13_ []]))), (3, .d (I (w64 (1 + (w64 (Int.tmod x_.States 6)))))), (4, .own (.box (.agg [I (w64 (1 + (w64 (Int.tmod x_.Inputs 3)))), I (w64 (1 + (w64 (Int.tmod x_.Outputs 3)))), eOs 1 false F14_ m_Rows1]))), (5, .d (I s_)), (6, .own (eOs 2 false F9_ row1)), (7, .d (I i_)), (8, .d (I (w64 (Edge_e))))] [ob (lnM (eI .u16) x_.Edges), ob c4, ob (i0 h0), ob (iM (eI .u16) h0)] (by kernel_rfl) fun st0 h0 => hJ7 st0 _ (w64 (Edge_e)) hf2 h0 inferInstance
        ·exact awpBack X0 TTab_ok hC hm [1,2,3,4,5,6,7,8] 4000 [aLn x_.Edges.length, bF] J7 [(1, .own (.box (F19_ x_))), (2, .own (.box (.agg [I 0, I 0, eOs 1 true F13_ []]))), (3, .d (I (w64 (1 + (w64 (Int.tmod x_.States 6)))))), (4, .own (.box (.agg [I (w64 (1 + (w64 (Int.tmod x_.Inputs 3)))), I (w64 (1 + (w64 (Int.tmod x_.Outputs 3)))), eOs 1 false F14_ m_Rows1]))), (5, .d (I s_)), (6, .own (eOs 2 false F9_ row1)), (7, .d (I i_)), (8, .d (I 0))] [ob (lnM (eI .u16) x_.Edges), ob c4] (by kernel_rfl) fun st0 h0 => hJ7 st0 _ 0 hf2 h0 inferInstance
     ·obtain rfl := someE hf2
      obtain rfl := hl2
      exact awpBack X0 TTab_ok hC hm [1,2,3,4,5,6] 4000 [bF] J4 [(1, .own (.box (F19_ x_))), (2, .own (.box (.agg [I 0, I 0, eOs 1 true F13_ []]))), (3, .d (I (w64 (1 + (w64 (Int.tmod x_.States 6)))))), (4, .own (.box (.agg [I (w64 (1 + (w64 (Int.tmod x_.Inputs 3)))), I (w64 (1 + (w64 (Int.tmod x_.Outputs 3)))), eOs 1 false F14_ m_Rows1]))), (5, .d (I s_)), (6, .own (eOs 2 false F9_ row1))] [ob c1] (by kernel_rfl) fun st0 h0 => hJ4 st0 _ row1 hf1 h0 inferInstance
  ·obtain rfl := someE hf1
   obtain rfl := hl1
   exact awpBack X0 TTab_ok hC hm [2,4] 4000 [bF] J1 [(2, .own (.box (.agg [I 0, I 0, eOs 1 true F13_ []]))), (4, .own (.box (.agg [I (w64 (1 + (w64 (Int.tmod x_.Inputs 3)))), I (w64 (1 + (w64 (Int.tmod x_.Outputs 3)))), eOs 1 false F14_ m_Rows1])))] [ob c0] (by kernel_rfl) fun st0 h0 => hJ1 st0 _ m_Rows1 hf0 h0 inferInstance
noncomputable def bd_ref04_Copy : Code := (Try.f69.body).getD .skip
noncomputable def sp_ref04_Copy : Spec := spF (α := S_api_Machine) (ρ := S_api_Machine) 69 (fun x => [F22_ x]) (fun r => F23_ r) (fun x => ref04_Copy x) [] (by
 rintro a0 b0 h
 simp only [List.cons.injEq, and_true] at h
 have e0 := EncI.inj (f := F22_) _ _ h
 subst e0
 rfl)
abbrev ST_ref04_Copy_J1 (m_ : S_api_Machine) (out_Rows : List (List S_api_Edge)) : List (Nat × T) := [(2, .own (.box (.agg [I 0, I 0, eOs 1 true F13_ []]))), (3, .own (.box (.agg [I m_.Inputs, I m_.Outputs, eOs 1 false F14_ out_Rows])))]
abbrev ST_ref04_Copy_L2 (m_ : S_api_Machine) (out_Rows1 : List (List S_api_Edge)) (s_ : Int) : List (Nat × T) := [(1, .own (.box (F22_ m_))), (2, .own (.box (.agg [I 0, I 0, eOs 1 true F13_ []]))), (3, .own (.box (.agg [I m_.Inputs, I m_.Outputs, eOs 1 false F14_ out_Rows1]))), (4, .d (I s_))]
theorem w_ref04_Copy {ctr : Ctr} (hC : CtrOk Try.prog ctr) (hm : Try.prog.follows .mixedOrders = true) : sp_ref04_Copy.Ok Try.prog := by
 refine spF_ok ?_
 rintro m_ r0 hf0
 try unfold ref04_Copy at hf0
 refine callOk_p (tt := TTab) (rs := [(true, 2, some 34)]) (n := ⟨30, []⟩) (body := bd_ref04_Copy) TTab_ok Try.func69 rfl (by kernel_rfl) rfl rfl (by show (1 : Nat) ≤ 30; decide) fun E hE => ?_
 refine awpAt X0 TTab_ok hC hm [1,2,3] 4000 [.cut 2] (sub [1,1] bd_ref04_Copy) (frs [1,1] [] bd_ref04_Copy []) [(1, .own (.box (F22_ m_))), (2, .own (.box (.agg [I 0, I 0, eOs 1 true F13_ []]))), (3, .own (.box (.agg [I m_.Inputs, I m_.Outputs, eOs 1 true F13_ []])))] [] (by kernel_rfl) fun st0 h0 => ?_
 refine awpJoin' (X := List (List S_api_Edge)) (x := (sub [1,1,2] bd_ref04_Copy)) (y := (sub [1,1,1] bd_ref04_Copy)) (by kernel_rfl) [2,3] [1,2,3] _ h0 (fun z => ref04_Copy_J1 m_ z = some r0) (fun z => ST_ref04_Copy_J1 m_ z) ?_ fun J1 hJ1 => ?_
 ·rintro out_Rows hf0
  unfold ref04_Copy_J1 at hf0
  obtain rfl := someE hf0
  exact awpEndP X0 TTab_ok hC hm hE 4000 (hs := []) (x := (.agg [I m_.Inputs, I m_.Outputs, eOs 1 false F14_ out_Rows])) [] (by kernel_rfl) (LeV.refl _)
 ·obtain ⟨t2, ht2, hf0⟩ := bindE hf0
  refine awpAt X0 TTab_ok hC hm [1,2,3,4] 4000 [] (sub [1,1,2,1,0] bd_ref04_Copy) (frs [1,1,2,1,0] [J1] bd_ref04_Copy []) [(1, .own (.box (F22_ m_))), (2, .own (.box (.agg [I 0, I 0, eOs 1 true F13_ []]))), (3, .own (.box (.agg [I m_.Inputs, I m_.Outputs, eOs 1 true F14_ []]))), (4, .d (I 0))] [] (by kernel_rfl) fun st0 h0 => ?_
  refine awpLoop' (X := (List (List S_api_Edge) × Int) × Nat) (c' := (sub [1,1,2,1,0,0] bd_ref04_Copy)) (by kernel_rfl) [1,2,3,4] (fun x => loopN (fun s => ref04_Copy_L2 m_ s.1 s.2) x.2 x.1 = some t2) (fun x => x.2) (fun x => ST_ref04_Copy_L2 m_ x.1.1 x.1.2) ((([] : List (List S_api_Edge)), 0), fuel) _ h0 inferInstance ht2 ?_
  rintro ⟨⟨out_Rows1, s_⟩, n2⟩ hn2 J2 hJ2
  obtain ⟨m2, lr1, rfl, hf1, hl1⟩ := loopE hn2
  try unfold ref04_Copy_L2 at hf1
  have o0 := lnM F13_ m_.Rows
  rcases bifE hf1 with ⟨c0, hf1⟩ | ⟨c0, hf1⟩
  ·obtain ⟨Row_e, h0, hf1⟩ := bindE hf1
   have o1 := iM F13_ h0
   have o2 := dM F9_ Row_e
   obtain ⟨g0, hf1⟩ := gdE hf1
   have o3 := aL F9_ F9_ g0
   have o4 := aM0 F9_ Row_e
   have o5 := oC F14_ Row_e []
   obtain ⟨g1, hf1⟩ := gdE hf1
   have o6 := aL F14_ F14_ g1
   have o7 := aM F14_ out_Rows1 ([Row_e] : List (List S_api_Edge))
   obtain rfl := someE hf1
   exact awpBack X0 TTab_ok hC hm [1,2,3,4] 4000 [aLn m_.Rows.length, bT, .a (F13_ Row_e), .l (Row_e.map F9_), bF, .l ((out_Rows1 ++ ([Row_e] : List (List S_api_Edge))).map F14_)] J2 [(1, .own (.box (F22_ m_))), (2, .own (.box (.agg [I 0, I 0, eOs 1 true F13_ []]))), (3, .own (.box (.agg [I m_.Inputs, I m_.Outputs, eOs 1 false F14_ (out_Rows1 ++ ([Row_e] : List (List S_api_Edge)))]))), (4, .d (I (w64 (s_ + 1))))] [ob o0, ob c0, ob (i0 h0), ob o1, ob o2, ob o3, ob o4, ob o5, ob o6, ob o7] (by kernel_rfl) fun st0 h0 => hJ2 st0 _ (((out_Rows1 ++ ([Row_e] : List (List S_api_Edge))), w64 (s_ + 1)), m2) hl1 (Nat.lt_succ_self m2) h0 inferInstance
  ·obtain rfl := someE hf1
   obtain rfl := hl1
   exact awpBack X0 TTab_ok hC hm [2,3] 4000 [aLn m_.Rows.length, bF] J1 [(2, .own (.box (.agg [I 0, I 0, eOs 1 true F13_ []]))), (3, .own (.box (.agg [I m_.Inputs, I m_.Outputs, eOs 1 false F14_ out_Rows1])))] [ob o0, ob c0] (by kernel_rfl) fun st0 h0 => hJ1 st0 _ out_Rows1 hf0 h0 inferInstance
noncomputable def bd_ref04_Check : Code := (Try.f47.body).getD .skip
noncomputable def sp_ref04_Check : Spec := spF (α := S_api_Machine) (ρ := Int) 47 (fun x => [F22_ x]) (fun r => (eI .i64) r) (fun x => ref04_Check x) [] (by
 rintro a0 b0 h
 simp only [List.cons.injEq, and_true] at h
 have e0 := EncI.inj (f := F22_) _ _ h
 subst e0
 rfl)
abbrev ST_ref04_Check_J1 : List (Nat × T) := []
abbrev ST_ref04_Check_J3 (m_ : S_api_Machine) (s_ : Int) : List (Nat × T) := [(1, .own (.box (F22_ m_))), (3, .d (I s_))]
abbrev ST_ref04_Check_J5 (m_ : S_api_Machine) (s_ : Int) (i_ : Int) : List (Nat × T) := [(1, .own (.box (F22_ m_))), (3, .d (I s_)), (4, .d (I i_))]
abbrev ST_ref04_Check_J6 (m_ : S_api_Machine) (s_ : Int) (i_ : Int) (Row_e_e : S_api_Edge) : List (Nat × T) := [(1, .own (.box (F22_ m_))), (3, .d (I s_)), (4, .d (I i_)), (5, .own (.box (F9_ Row_e_e)))]
abbrev ST_ref04_Check_L4 (m_ : S_api_Machine) (s_ : Int) (i_ : Int) : List (Nat × T) := [(1, .own (.box (F22_ m_))), (3, .d (I s_)), (4, .d (I i_))]
abbrev ST_ref04_Check_L2 (m_ : S_api_Machine) (s_ : Int) : List (Nat × T) := [(1, .own (.box (F22_ m_))), (3, .d (I s_))]
theorem w_ref04_Check {ctr : Ctr} (hC : CtrOk Try.prog ctr) (hm : Try.prog.follows .mixedOrders = true) : sp_ref04_Check.Ok Try.prog := by
 refine spF_ok ?_
 rintro m_ r0 hf0
 try unfold ref04_Check at hf0
 refine callOk_h (tt := TTab) (keep := true) (rs := [(2, none)]) (n := ⟨95, []⟩) (body := bd_ref04_Check) TTab_ok Try.func47 rfl (by kernel_rfl) rfl rfl (by show (1 : Nat) ≤ 95; decide) fun E hE => ?_
 rcases bifE hf0 with ⟨c0, hf0⟩ | ⟨c0, hf0⟩
 ·obtain rfl := someE hf0
  exact awpEnd X0 TTab_ok hC hm hE 4000 (hs := (rpN 10 bT [])) (x := (I 3)) (rpN 4 (ob c0) (rpN 6 oT [])) (by kernel_rfl) (LeV.refl _)
 ·rcases bifE hf0 with ⟨c1, hf0⟩ | ⟨c1, hf0⟩
  ·obtain rfl := someE hf0
   exact awpEnd X0 TTab_ok hC hm hE 4000 (hs := (rpN 4 bF (rpN 6 bT []))) (x := (I 3)) (rpN 4 (ob c0) (rpN 5 (ob c1) [oT])) (by kernel_rfl) (LeV.refl _)
  ·have o0 := lnM F13_ m_.Rows
   rcases bifE hf0 with ⟨c2, hf0⟩ | ⟨c2, hf0⟩
   ·obtain rfl := someE hf0
    exact awpEnd X0 TTab_ok hC hm hE 4000 (hs := (rpN 7 bF [aLn m_.Rows.length, bF, bF, bT])) (x := (I 3)) (rpN 4 (ob c0) [ob c1, ob c1, ob c1, ob o0, ob c1, ob c1, ob c2]) (by kernel_rfl) (LeV.refl _)
   ·rcases bifE hf0 with ⟨c3, hf0⟩ | ⟨c3, hf0⟩
    ·obtain rfl := someE hf0
     exact awpEnd X0 TTab_ok hC hm hE 4000 (hs := (rpN 7 bF (aLn m_.Rows.length :: bF :: bF :: bF :: (rpN 10 bT [])))) (x := (I 1)) (rpN 4 (ob c0) (ob c1 :: ob c1 :: ob c1 :: ob o0 :: ob c1 :: ob c1 :: ob c2 :: (rpN 4 (ob c3) (rpN 6 oT [])))) (by kernel_rfl) (LeV.refl _)
    ·rcases bifE hf0 with ⟨c4, hf0⟩ | ⟨c4, hf0⟩
     ·obtain rfl := someE hf0
      exact awpEnd X0 TTab_ok hC hm hE 4000 (hs := (rpN 7 bF (aLn m_.Rows.length :: (rpN 7 bF (rpN 6 bT []))))) (x := (I 1)) (rpN 4 (ob c0) (ob c1 :: ob c1 :: ob c1 :: ob o0 :: ob c1 :: ob c1 :: ob c2 :: (rpN 4 (ob c3) (rpN 5 (ob c4) [oT])))) (by kernel_rfl) (LeV.refl _)
     ·have o1 := lnM F13_ m_.Rows
      rcases bifE hf0 with ⟨c5, hf0⟩ | ⟨c5, hf0⟩
      ·obtain rfl := someE hf0
       exact awpEnd X0 TTab_ok hC hm hE 4000 (hs := (rpN 7 bF (aLn m_.Rows.length :: (rpN 10 bF [aLn m_.Rows.length, bF, bF, bT])))) (x := (I 1)) (rpN 4 (ob c0) (ob c1 :: ob c1 :: ob c1 :: ob o0 :: ob c1 :: ob c1 :: ob c2 :: (rpN 4 (ob c3) [ob c4, ob c4, ob c4, ob o1, ob c4, ob c4, ob c5]))) (by kernel_rfl) (LeV.refl _)
      ·refine awpAt X0 TTab_ok hC hm [1] 4000 (rpN 7 bF (aLn m_.Rows.length :: (rpN 10 bF [aLn m_.Rows.length, bF, bF, bF, .cut 0]))) (sub [1,1,1] bd_ref04_Check) (frs [1,1,1] [] bd_ref04_Check []) [(1, .own (.box (F22_ m_)))] (rpN 4 (ob c0) (ob c1 :: ob c1 :: ob c1 :: ob o0 :: ob c1 :: ob c1 :: ob c2 :: (rpN 4 (ob c3) [ob c4, ob c4, ob c4, ob o1, ob c4, ob c4, ob c5]))) (by kernel_rfl) fun st0 h0 => ?_
       refine awpJoin' (X := Unit) (x := (sub [1,1,1,2] bd_ref04_Check)) (y := (sub [1,1,1,1] bd_ref04_Check)) (by kernel_rfl) [] [1] _ h0 (fun z => ref04_Check_J1 = some r0) (fun z => ST_ref04_Check_J1) ?_ fun J1 hJ1 => ?_
       ·rintro ⟨⟩ hf0
        unfold ref04_Check_J1 at hf0
        obtain rfl := someE hf0
        exact awpEnd X0 TTab_ok hC hm hE 4000 (hs := []) (x := (I 0)) [] (by kernel_rfl) (LeV.refl _)
       ·obtain ⟨t2, ht2, hf0⟩ := bindE hf0
        refine awpAt X0 TTab_ok hC hm [1,3] 4000 [] (sub [1,1,1,2,1,0] bd_ref04_Check) (frs [1,1,1,2,1,0] [J1] bd_ref04_Check []) [(1, .own (.box (F22_ m_))), (3, .d (I 0))] [] (by kernel_rfl) fun st0 h0 => ?_
        refine awpLoop' (X := Int × Nat) (c' := (sub [1,1,1,2,1,0,0] bd_ref04_Check)) (by kernel_rfl) [1,3] (fun x => loopN (fun s => ref04_Check_L2 m_ s) x.2 x.1 = some t2) (fun x => x.2) (fun x => ST_ref04_Check_L2 m_ x.1) (0, fuel) _ h0 inferInstance ht2 ?_
        rintro ⟨s_, n2⟩ hn2 J2 hJ2
        obtain ⟨m2, lr1, rfl, hf1, hl1⟩ := loopE hn2
        try unfold ref04_Check_L2 at hf1
        have o2 := lnM F13_ m_.Rows
        rcases bifE hf1 with ⟨c6, hf1⟩ | ⟨c6, hf1⟩
        ·refine awpAt X0 TTab_ok hC hm [1,3] 4000 [aLn m_.Rows.length, bT, .cut 0] (sub [1,1,1,2,1,0,0,1] bd_ref04_Check) (frs [1,1,1,2,1,0,0,1] [J1, J2] bd_ref04_Check []) [(1, .own (.box (F22_ m_))), (3, .d (I s_))] [ob o2, ob c6] (by kernel_rfl) fun st0 h0 => ?_
         refine awpJoin' (X := Unit) (x := (sub [1,1,1,2,1,0,0,1,2] bd_ref04_Check)) (y := (sub [1,1,1,2,1,0,0,1,1] bd_ref04_Check)) (by kernel_rfl) [1,3] [1,3] _ h0 (fun z => ref04_Check_J3 s_ = some lr1) (fun z => ST_ref04_Check_J3 m_ s_) ?_ fun J3 hJ3 => ?_
         ·rintro ⟨⟩ hf1
          unfold ref04_Check_J3 at hf1
          obtain rfl := someE hf1
          exact awpBack X0 TTab_ok hC hm [1,3] 4000 [] J2 [(1, .own (.box (F22_ m_))), (3, .d (I (w64 (s_ + 1))))] [] (by kernel_rfl) fun st0 h0 => hJ2 st0 _ (w64 (s_ + 1), m2) hl1 (Nat.lt_succ_self m2) h0 inferInstance
         ·obtain ⟨Row_e, h0, hf1⟩ := bindE hf1
          have o3 := iM F13_ h0
          have o4 := lnM F9_ Row_e
          rcases bifE hf1 with ⟨c7, hf1⟩ | ⟨c7, hf1⟩
          ·obtain rfl := someE hf1
           obtain rfl := hl1
           obtain rfl := someE hf0
           exact awpEnd X0 TTab_ok hC hm hE 4000 (hs := [.a (F13_ Row_e), aLn Row_e.length, bT]) (x := (I 1)) [ob (i0 h0), ob o3, ob o4, ob c7] (by kernel_rfl) (LeV.refl _)
          ·obtain ⟨t4, ht4, hf1⟩ := bindE hf1
           refine awpAt X0 TTab_ok hC hm [1,3,4] 4000 [.a (F13_ Row_e), aLn Row_e.length, bF] (sub [1,1,1,2,1,0,0,1,2,0,1,1,0] bd_ref04_Check) (frs [1,1,1,2,1,0,0,1,2,0,1,1,0] [J1, J2, J3] bd_ref04_Check []) [(1, .own (.box (F22_ m_))), (3, .d (I s_)), (4, .d (I 0))] [ob (i0 h0), ob o3, ob o4, ob c7] (by kernel_rfl) fun st0 h0 => ?_
           refine awpLoop' (X := Int × Nat) (c' := (sub [1,1,1,2,1,0,0,1,2,0,1,1,0,0] bd_ref04_Check)) (by kernel_rfl) [1,3,4] (fun x => loopN (fun s => ref04_Check_L4 m_ s_ s) x.2 x.1 = some t4) (fun x => x.2) (fun x => ST_ref04_Check_L4 m_ s_ x.1) (0, fuel) _ h0 inferInstance ht4 ?_
           rintro ⟨i_, n4⟩ hn4 J4 hJ4
           obtain ⟨m4, lr2, rfl, hf2, hl2⟩ := loopE hn4
           try unfold ref04_Check_L4 at hf2
           rcases bifE hf2 with ⟨c8, hf2⟩ | ⟨c8, hf2⟩
           ·refine awpAt X0 TTab_ok hC hm [1,3,4] 4000 [bT, .cut 0] (sub [1,1,1,2,1,0,0,1,2,0,1,1,0,0,1] bd_ref04_Check) (frs [1,1,1,2,1,0,0,1,2,0,1,1,0,0,1] [J1, J2, J3, J4] bd_ref04_Check []) [(1, .own (.box (F22_ m_))), (3, .d (I s_)), (4, .d (I i_))] [ob c8] (by kernel_rfl) fun st0 h0 => ?_
            refine awpJoin' (X := Unit) (x := (sub [1,1,1,2,1,0,0,1,2,0,1,1,0,0,1,2] bd_ref04_Check)) (y := (sub [1,1,1,2,1,0,0,1,2,0,1,1,0,0,1,1] bd_ref04_Check)) (by kernel_rfl) [1,3,4] [1,3,4] _ h0 (fun z => ref04_Check_J5 i_ = some lr2) (fun z => ST_ref04_Check_J5 m_ s_ i_) ?_ fun J5 hJ5 => ?_
            ·rintro ⟨⟩ hf2
             unfold ref04_Check_J5 at hf2
             obtain rfl := someE hf2
             exact awpBack X0 TTab_ok hC hm [1,3,4] 4000 [] J4 [(1, .own (.box (F22_ m_))), (3, .d (I s_)), (4, .d (I (w64 (i_ + 1))))] [] (by kernel_rfl) fun st0 h0 => hJ4 st0 _ (w64 (i_ + 1), m4) hl2 (Nat.lt_succ_self m4) h0 inferInstance
            ·obtain ⟨Row_e1, h1, hf2⟩ := bindE hf2
             have o5 := iM F13_ h1
             obtain ⟨Row_e_e, h2, hf2⟩ := bindE hf2
             have o6 := iM F9_ h2
             refine awpAt X0 TTab_ok hC hm [1,3,4,5] 4000 [.a (F13_ Row_e1), .a (F9_ Row_e_e), .cut 0] (sub [1,1,1,2,1,0,0,1,2,0,1,1,0,0,1,2,0,1] bd_ref04_Check) (frs [1,1,1,2,1,0,0,1,2,0,1,1,0,0,1,2,0,1] [J1, J2, J3, J4, J5] bd_ref04_Check []) [(1, .own (.box (F22_ m_))), (3, .d (I s_)), (4, .d (I i_)), (5, .own (.box (F9_ Row_e_e)))] [ob (i0 h1), ob o5, ob (i0 h2), ob o6] (by kernel_rfl) fun st0 h0 => ?_
             refine awpJoin' (X := Unit) (x := (sub [1,1,1,2,1,0,0,1,2,0,1,1,0,0,1,2,0,1,2] bd_ref04_Check)) (y := (sub [1,1,1,2,1,0,0,1,2,0,1,1,0,0,1,2,0,1,1] bd_ref04_Check)) (by kernel_rfl) [1,3,4,5] [1,3,4,5] _ h0 (fun z => ref04_Check_J6 m_ i_ Row_e_e = some lr2) (fun z => ST_ref04_Check_J6 m_ s_ i_ Row_e_e) ?_ fun J6 hJ6 => ?_
             ·rintro ⟨⟩ hf2
              unfold ref04_Check_J6 at hf2
              rcases bifE hf2 with ⟨c9, hf2⟩ | ⟨c9, hf2⟩
              ·obtain rfl := someE hf2
               obtain rfl := hl2
               obtain rfl := someE hf1
               obtain rfl := hl1
               obtain rfl := someE hf0
               exact awpEnd X0 TTab_ok hC hm hE 4000 (hs := (rpN 18 bT [])) (x := (I 1)) (rpN 7 (ob c9) (rpN 11 oT [])) (by kernel_rfl) (LeV.refl _)
              ·have o7 := lnM F13_ m_.Rows
               rcases bifE hf2 with ⟨c10, hf2⟩ | ⟨c10, hf2⟩
               ·obtain rfl := someE hf2
                obtain rfl := hl2
                obtain rfl := someE hf1
                obtain rfl := hl1
                obtain rfl := someE hf0
                exact awpEnd X0 TTab_ok hC hm hE 4000 (hs := (rpN 5 bF (aLn m_.Rows.length :: bF :: bF :: (rpN 11 bT [])))) (x := (I 1)) (rpN 5 (ob c9) (ob o7 :: ob c9 :: ob c9 :: (rpN 4 (ob c10) (rpN 7 oT [])))) (by kernel_rfl) (LeV.refl _)
               ·rcases bifE hf2 with ⟨c11, hf2⟩ | ⟨c11, hf2⟩
                ·obtain rfl := someE hf2
                 obtain rfl := hl2
                 obtain rfl := someE hf1
                 obtain rfl := hl1
                 obtain rfl := someE hf0
                 exact awpEnd X0 TTab_ok hC hm hE 4000 (hs := (rpN 5 bF (aLn m_.Rows.length :: (rpN 6 bF (rpN 7 bT []))))) (x := (I 1)) (rpN 5 (ob c9) (ob o7 :: ob c9 :: ob c9 :: (rpN 4 (ob c10) (rpN 6 (ob c11) [oT])))) (by kernel_rfl) (LeV.refl _)
                ·rcases bifE hf2 with ⟨c12, hf2⟩ | ⟨c12, hf2⟩
                 ·obtain rfl := someE hf2
                  obtain rfl := hl2
                  obtain rfl := someE hf1
                  obtain rfl := hl1
                  obtain rfl := someE hf0
                  exact awpEnd X0 TTab_ok hC hm hE 4000 (hs := (rpN 5 bF (aLn m_.Rows.length :: (rpN 12 bF [bT])))) (x := (I 1)) (rpN 5 (ob c9) (ob o7 :: ob c9 :: ob c9 :: (rpN 4 (ob c10) (rpN 6 (ob c11) [ob c12])))) (by kernel_rfl) (LeV.refl _)
                 ·exact awpBack X0 TTab_ok hC hm [1,3,4] 4000 (rpN 5 bF (aLn m_.Rows.length :: (rpN 13 bF []))) J5 [(1, .own (.box (F22_ m_))), (3, .d (I s_)), (4, .d (I i_))] (rpN 5 (ob c9) (ob o7 :: ob c9 :: ob c9 :: (rpN 4 (ob c10) (rpN 6 (ob c11) [ob c12])))) (by kernel_rfl) fun st0 h0 => hJ5 st0 _ () hf2 h0 inferInstance
             ·rcases bifE hf2 with ⟨c13, hf2⟩ | ⟨c13, hf2⟩
              ·rcases bifE hf2 with ⟨c14, hf2⟩ | ⟨c14, hf2⟩
               ·exact awpBack X0 TTab_ok hC hm [1,3,4] 4000 (rpN 5 bT []) J5 [(1, .own (.box (F22_ m_))), (3, .d (I s_)), (4, .d (I i_))] (rpN 4 (ob c13) [ob c14]) (by kernel_rfl) fun st0 h0 => hJ5 st0 _ () hf2 h0 inferInstance
               ·exact awpBack X0 TTab_ok hC hm [1,3,4,5] 4000 (rpN 4 bT [bF]) J6 [(1, .own (.box (F22_ m_))), (3, .d (I s_)), (4, .d (I i_)), (5, .own (.box (F9_ Row_e_e)))] (rpN 4 (ob c13) [ob c14]) (by kernel_rfl) fun st0 h0 => hJ6 st0 _ () hf2 h0 inferInstance
              ·exact awpBack X0 TTab_ok hC hm [1,3,4,5] 4000 (rpN 5 bF []) J6 [(1, .own (.box (F22_ m_))), (3, .d (I s_)), (4, .d (I i_)), (5, .own (.box (F9_ Row_e_e)))] (rpN 4 (ob c13) [oF]) (by kernel_rfl) fun st0 h0 => hJ6 st0 _ () hf2 h0 inferInstance
           ·obtain rfl := someE hf2
            obtain rfl := hl2
            exact awpBack X0 TTab_ok hC hm [1,3] 4000 [bF] J3 [(1, .own (.box (F22_ m_))), (3, .d (I s_))] [ob c8] (by kernel_rfl) fun st0 h0 => hJ3 st0 _ () hf1 h0 inferInstance
        ·obtain rfl := someE hf1
         obtain rfl := hl1
         exact awpBack X0 TTab_ok hC hm [] 4000 [aLn m_.Rows.length, bF] J1 [] [ob o2, ob c6] (by kernel_rfl) fun st0 h0 => hJ1 st0 _ () hf0 h0 inferInstance
noncomputable def bd_law10_D_Of : Code := (Try.f30.body).getD .skip
noncomputable def sp_law10_D_Of : Spec := spF (α := S_law10_D) (ρ := S_api_Machine × S_api_Machine) 30 (fun x => [F26_ x]) (fun r => .tup [F22_ r.1, F22_ r.2]) (fun x => law10_D_Of x) [] (by
 rintro a0 b0 h
 simp only [List.cons.injEq, and_true] at h
 have e0 := EncI.inj (f := F26_) _ _ h
 subst e0
 rfl)
abbrev ST_law10_D_Of_J3 (x_ : S_law10_D) (r_ : S_api_Machine) (r_2 : S_api_Machine) (b_Rows : List (List S_api_Edge)) : List (Nat × T) := [(1, .own (.box (.agg [F19_ x_.M, F19_ x_.X, B x_.Alike, (eArr2 (eI .u8)) x_.Swap, (eArr2 (eI .u8)) x_.Place, F9_ x_.To]))), (2, .own (.box (.agg [I 0, I 0, eOs 1 true F13_ []]))), (3, .own (.box (.agg [I 0, I 0, eOs 1 true F13_ []]))), (4, .own (.box (F22_ r_))), (5, .d (I ((r_.Rows.length : Nat) : Int))), (10, .own (.box (.agg [I r_2.Inputs, I r_2.Outputs, eOs 1 false F14_ b_Rows])))]
abbrev ST_law10_D_Of_J5 (x_ : S_law10_D) (r_ : S_api_Machine) (to1 : List Int) (r_2 : S_api_Machine) (s_ : Int) (b_Rows2 : List (List S_api_Edge)) : List (Nat × T) := [(1, .own (.box (.agg [F19_ x_.M, F19_ x_.X, B x_.Alike, (eArr2 (eI .u8)) x_.Swap, (eArr2 (eI .u8)) x_.Place, F9_ x_.To]))), (2, .own (.box (.agg [I 0, I 0, eOs 1 true F13_ []]))), (3, .own (.box (.agg [I 0, I 0, eOs 1 true F13_ []]))), (4, .own (.box (F22_ r_))), (5, .d (I ((r_.Rows.length : Nat) : Int))), (6, .own (eOs 1 false (eI .i64) to1)), (10, .own (.box (.agg [I r_2.Inputs, I r_2.Outputs, eOs 1 false F14_ b_Rows2]))), (11, .d (I s_))]
abbrev ST_law10_D_Of_J7 (x_ : S_law10_D) (r_ : S_api_Machine) (to1 : List Int) (r_2 : S_api_Machine) (s_ : Int) (b_Rows3 : List (List S_api_Edge)) (i_ : Int) (Row_e_e1 : S_api_Edge) (e_To : Int) : List (Nat × T) := [(1, .own (.box (.agg [F19_ x_.M, F19_ x_.X, B x_.Alike, (eArr2 (eI .u8)) x_.Swap, (eArr2 (eI .u8)) x_.Place, F9_ x_.To]))), (2, .own (.box (.agg [I 0, I 0, eOs 1 true F13_ []]))), (3, .own (.box (.agg [I 0, I 0, eOs 1 true F13_ []]))), (4, .own (.box (F22_ r_))), (5, .d (I ((r_.Rows.length : Nat) : Int))), (6, .own (eOs 1 false (eI .i64) to1)), (10, .own (.box (.agg [I r_2.Inputs, I r_2.Outputs, eOs 1 false F14_ b_Rows3]))), (11, .d (I s_)), (12, .d (I i_)), (13, .own (.box (.agg [I e_To, I Row_e_e1.Out])))]
abbrev ST_law10_D_Of_L6 (x_ : S_law10_D) (r_ : S_api_Machine) (to1 : List Int) (r_2 : S_api_Machine) (s_ : Int) (b_Rows3 : List (List S_api_Edge)) (i_ : Int) : List (Nat × T) := [(1, .own (.box (.agg [F19_ x_.M, F19_ x_.X, B x_.Alike, (eArr2 (eI .u8)) x_.Swap, (eArr2 (eI .u8)) x_.Place, F9_ x_.To]))), (2, .own (.box (.agg [I 0, I 0, eOs 1 true F13_ []]))), (3, .own (.box (.agg [I 0, I 0, eOs 1 true F13_ []]))), (4, .own (.box (F22_ r_))), (5, .d (I ((r_.Rows.length : Nat) : Int))), (6, .own (eOs 1 false (eI .i64) to1)), (10, .own (.box (.agg [I r_2.Inputs, I r_2.Outputs, eOs 1 false F14_ b_Rows3]))), (11, .d (I s_)), (12, .d (I i_))]
abbrev ST_law10_D_Of_L4 (x_ : S_law10_D) (r_ : S_api_Machine) (to1 : List Int) (r_2 : S_api_Machine) (b_Rows1 : List (List S_api_Edge)) (s_ : Int) : List (Nat × T) := [(1, .own (.box (.agg [F19_ x_.M, F19_ x_.X, B x_.Alike, (eArr2 (eI .u8)) x_.Swap, (eArr2 (eI .u8)) x_.Place, F9_ x_.To]))), (2, .own (.box (.agg [I 0, I 0, eOs 1 true F13_ []]))), (3, .own (.box (.agg [I 0, I 0, eOs 1 true F13_ []]))), (4, .own (.box (F22_ r_))), (5, .d (I ((r_.Rows.length : Nat) : Int))), (6, .own (eOs 1 false (eI .i64) to1)), (10, .own (.box (.agg [I r_2.Inputs, I r_2.Outputs, eOs 1 false F14_ b_Rows1]))), (11, .d (I s_))]
abbrev ST_law10_D_Of_J2 (x_ : S_law10_D) (r_ : S_api_Machine) (to1 : List Int) : List (Nat × T) := [(1, .own (.box (.agg [F19_ x_.M, F19_ x_.X, B x_.Alike, (eArr2 (eI .u8)) x_.Swap, (eArr2 (eI .u8)) x_.Place, F9_ x_.To]))), (2, .own (.box (.agg [I 0, I 0, eOs 1 true F13_ []]))), (3, .own (.box (.agg [I 0, I 0, eOs 1 true F13_ []]))), (4, .own (.box (F22_ r_))), (5, .d (I ((r_.Rows.length : Nat) : Int))), (6, .own (eOs 1 false (eI .i64) to1))]
abbrev ST_law10_D_Of_J1 (x_ : S_law10_D) (r_ : S_api_Machine) (to : List Int) : List (Nat × T) := [(1, .own (.box (.agg [F19_ x_.M, F19_ x_.X, B x_.Alike, (eArr2 (eI .u8)) x_.Swap, (eArr2 (eI .u8)) x_.Place, F9_ x_.To]))), (2, .own (.box (.agg [I 0, I 0, eOs 1 true F13_ []]))), (3, .own (.box (.agg [I 0, I 0, eOs 1 true F13_ []]))), (4, .own (.box (F22_ r_))), (5, .d (I ((r_.Rows.length : Nat) : Int))), (6, .own (eOs 1 false (eI .i64) to))]
abbrev ST_law10_D_Of_L8 (x_ : S_law10_D) (r_ : S_api_Machine) (to2 : List Int) (s_1 : Int) : List (Nat × T) := [(1, .own (.box (.agg [F19_ x_.M, F19_ x_.X, B x_.Alike, (eArr2 (eI .u8)) x_.Swap, (eArr2 (eI .u8)) x_.Place, F9_ x_.To]))), (2, .own (.box (.agg [I 0, I 0, eOs 1 true F13_ []]))), (3, .own (.box (.agg [I 0, I 0, eOs 1 true F13_ []]))), (4, .own (.box (F22_ r_))), (5, .d (I ((r_.Rows.length : Nat) : Int))), (6, .own (eOs 1 false (eI .i64) to2)), (7, .d (I s_1))]
theorem w_law10_D_Of {ctr : Ctr} (hC : CtrOk Try.prog ctr) (hm : Try.prog.follows .mixedOrders = true) (h_law04_M_Of : ctr.Has sp_law04_M_Of) (h_ref04_Copy : ctr.Has sp_ref04_Copy) (h_ref04_Check : ctr.Has sp_ref04_Check) : sp_law10_D_Of.Ok Try.prog := by
 refine spF_ok ?_
 rintro x_ r0 hf0
 try unfold law10_D_Of at hf0
 refine callOk_h (tt := TTab) (keep := false) (rs := [(2, some 34), (3, some 34)]) (n := ⟨144, []⟩) (body := bd_law10_D_Of) TTab_ok Try.func30 rfl (by kernel_rfl) rfl rfl (by show (1 : Nat) ≤ 144; decide) fun E hE => ?_
 obtain ⟨r_, h0, hf0⟩ := bindE hf0
 have o0 := hasF h_law04_M_Of (x := x_.M) h0 (loC F19_ x_.M <| loN)
 have o1 := lnM F13_ r_.Rows
 rcases bifE hf0 with ⟨c0, hf0⟩ | ⟨c0, hf0⟩
 ·obtain ⟨r_1, h1, hf0⟩ := bindE hf0
  have o2 := hasF h_law04_M_Of (x := (S_law04_M.mk x_.X.States x_.M.Inputs x_.X.Outputs x_.X.Partial x_.X.Edges)) h1 (loC F19_ (S_law04_M.mk x_.X.States x_.M.Inputs x_.X.Outputs x_.X.Partial x_.X.Edges) <| loN)
  obtain rfl := someE hf0
  exact awpEnd X0 TTab_ok hC hm hE 4000 (hs := [.g [], .a (F22_ r_), aLn r_.Rows.length, bT, .g [], .a (F22_ r_1)]) (x := (.tup [.agg [I r_.Inputs, I r_.Outputs, eSl 1 false F13_ r_.Rows], .agg [I r_1.Inputs, I r_1.Outputs, eSl 1 false F13_ r_1.Rows]])) [ob (hasG h_law04_M_Of), ob o0, ob o1, ob c0, ob (hasG h_law04_M_Of), ob o2] (by kernel_rfl) (LeV.refl _)
 ·refine awpAt X0 TTab_ok hC hm [1,2,3,4,5,6] 4000 [.g [], .a (F22_ r_), aLn r_.Rows.length, bF, .cut 1] (sub [1,1,1,1,1] bd_law10_D_Of) (frs [1,1,1,1,1] [] bd_law10_D_Of []) [(1, .own (.box (.agg [F19_ x_.M, F19_ x_.X, B x_.Alike, (eArr2 (eI .u8)) x_.Swap, (eArr2 (eI .u8)) x_.Place, F9_ x_.To]))), (2, .own (.box (.agg [I 0, I 0, eOs 1 true F13_ []]))), (3, .own (.box (.agg [I 0, I 0, eOs 1 true F13_ []]))), (4, .own (.box (F22_ r_))), (5, .d (I ((r_.Rows.length : Nat) : Int))), (6, .own (eOs 1 true (eI .i64) []))] [ob (hasG h_law04_M_Of), ob o0, ob o1, ob c0] (by kernel_rfl) fun st0 h0 => ?_
  refine awpJoin' (X := List Int) (x := (sub [1,1,1,1,1,2] bd_law10_D_Of)) (y := (sub [1,1,1,1,1,1] bd_law10_D_Of)) (by kernel_rfl) [1,2,3,4,5,6] [1,2,3,4,5,6] _ h0 (fun z => law10_D_Of_J1 x_ r_ z = some r0) (fun z => ST_law10_D_Of_J1 x_ r_ z) ?_ fun J1 hJ1 => ?_
  ·rintro to hf0
   unfold law10_D_Of_J1 at hf0
   refine awpAt X0 TTab_ok hC hm [1,2,3,4,5,6] 4000 [.cut 0] (sub [1,1,1,1,1,1] bd_law10_D_Of) (frs [1,1,1,1,1,1] [] bd_law10_D_Of []) [(1, .own (.box (.agg [F19_ x_.M, F19_ x_.X, B x_.Alike, (eArr2 (eI .u8)) x_.Swap, (eArr2 (eI .u8)) x_.Place, F9_ x_.To]))), (2, .own (.box (.agg [I 0, I 0, eOs 1 true F13_ []]))), (3, .own (.box (.agg [I 0, I 0, eOs 1 true F13_ []]))), (4, .own (.box (F22_ r_))), (5, .d (I ((r_.Rows.length : Nat) : Int))), (6, .own (eOs 1 false (eI .i64) to))] [] (by kernel_rfl) fun st0 h0 => awpOf h0 ?_
   refine awpPin1 (y := eOs 1 false (eI .i64) to) (by kernel_rfl) 6 (by kernel_rfl) (by kernel_rfl) fun pv6 hv6 => ?_
   refine awpAt X0 TTab_ok hC hm [1,2,3,4,5,6] 4000 [.cut 0] (sub [1,1,1,1,1,1] bd_law10_D_Of) (frs [1,1,1,1,1,1] [] bd_law10_D_Of []) [(1, .own (.box (.agg [F19_ x_.M, F19_ x_.X, B x_.Alike, (eArr2 (eI .u8)) x_.Swap, (eArr2 (eI .u8)) x_.Place, F9_ x_.To]))), (2, .own (.box (.agg [I 0, I 0, eOs 1 true F13_ []]))), (3, .own (.box (.agg [I 0, I 0, eOs 1 true F13_ []]))), (4, .own (.box (F22_ r_))), (5, .d (I ((r_.Rows.length : Nat) : Int))), (6, .own (eOs 1 false (eI .i64) to))] [] (by kernel_rfl) fun st0 h0 => ?_
   refine awpJoin' (X := List Int) (x := (sub [1,1,1,1,1,1,2] bd_law10_D_Of)) (y := (sub [1,1,1,1,1,1,1] bd_law10_D_Of)) (by kernel_rfl) [1,2,3,4,5,6] [1,2,3,4,5,6] _ h0 (fun z => law10_D_Of_J2 x_ r_ z = some r0) (fun z => ST_law10_D_Of_J2 x_ r_ z) ?_ fun J2 hJ2 => ?_
   ·rintro to1 hf0
    unfold law10_D_Of_J2 at hf0
    obtain ⟨r_2, h2, hf0⟩ := bindE hf0
    have o3 := hasF h_ref04_Copy (x := r_) h2 (loC F22_ r_ <| loN)
    refine awpAt X0 TTab_ok hC hm [1,2,3,4,5,6,10] 4000 [.g [], .a (F23_ r_2), .cut 0] (sub [1,1,1,1,1,1,1,1] bd_law10_D_Of) (frs [1,1,1,1,1,1,1,1] [] bd_law10_D_Of []) [(1, .own (.box (.agg [F19_ x_.M, F19_ x_.X, B x_.Alike, (eArr2 (eI .u8)) x_.Swap, (eArr2 (eI .u8)) x_.Place, F9_ x_.To]))), (2, .own (.box (.agg [I 0, I 0, eOs 1 true F13_ []]))), (3, .own (.box (.agg [I 0, I 0, eOs 1 true F13_ []]))), (4, .own (.box (F22_ r_))), (5, .d (I ((r_.Rows.length : Nat) : Int))), (6, .own (eOs 1 false (eI .i64) to1)), (10, .own (.box (F23_ r_2)))] [ob (hasG h_ref04_Copy), ob o3] (by kernel_rfl) fun st0 h0 => ?_
    refine awpJoin' (X := List (List S_api_Edge)) (x := (sub [1,1,1,1,1,1,1,1,2] bd_law10_D_Of)) (y := (sub [1,1,1,1,1,1,1,1,1] bd_law10_D_Of)) (by kernel_rfl) [1,2,3,4,5,10] [1,2,3,4,5,6,10] _ h0 (fun z => law10_D_Of_J3 x_ r_ r_2 z = some r0) (fun z => ST_law10_D_Of_J3 x_ r_ r_2 z) ?_ fun J3 hJ3 => ?_
    ·rintro b_Rows hf0
     unfold law10_D_Of_J3 at hf0
     have o4 := shM F14_ F13_ b_Rows
     obtain ⟨r_3, h3, hf0⟩ := bindE hf0
     have o5 := hasF h_ref04_Copy (x := (S_api_Machine.mk r_2.Inputs r_2.Outputs b_Rows)) h3 (loC F22_ (S_api_Machine.mk r_2.Inputs r_2.Outputs b_Rows) <| loN)
     have o6 := shM F14_ F13_ b_Rows
     have o7 := (⟨rfl, by decide⟩ : true = true ∧ 0 < 2)
     obtain ⟨g0, hf0⟩ := gdE hf0
     obtain ⟨Row_e, h4, hf0⟩ := bindE hf0
     have o8 := iL F14_ h4
     have o9 := iM F14_ h4
     have o10 := (⟨rfl, by decide⟩ : true = true ∧ 1 < 2)
     obtain ⟨g1, hf0⟩ := gdE hf0
     have o11 := iM F14_ h4
     obtain ⟨Row_e_e, h5, hf0⟩ := bindE hf0
     have o12 := iL F9_ h5
     have o13 := iM F14_ h4
     have o14 := iM F9_ h5
     have o15 := iM F14_ h4
     have o16 := iM F9_ h5
     have o17 := sM F9_ Row_e (Int.tmod (w64 (x_.Place.e1)) r_.Inputs) x_.To
     have o18 := sM F14_ r_3.Rows (Int.tmod (w64 (x_.Place.e0)) ((r_.Rows.length : Nat) : Int)) (Row_e.set (Int.tmod (w64 (x_.Place.e1)) r_.Inputs).toNat x_.To)
     have o19 := shM F14_ F13_ (r_3.Rows.set (Int.tmod (w64 (x_.Place.e0)) ((r_.Rows.length : Nat) : Int)).toNat (Row_e.set (Int.tmod (w64 (x_.Place.e1)) r_.Inputs).toNat x_.To))
     obtain ⟨r_4, h6, hf0⟩ := bindE hf0
     have o20 := hasF h_ref04_Check (x := (S_api_Machine.mk r_3.Inputs r_3.Outputs (r_3.Rows.set (Int.tmod (w64 (x_.Place.e0)) ((r_.Rows.length : Nat) : Int)).toNat (Row_e.set (Int.tmod (w64 (x_.Place.e1)) r_.Inputs).toNat x_.To)))) h6 (loC F22_ (S_api_Machine.mk r_3.Inputs r_3.Outputs (r_3.Rows.set (Int.tmod (w64 (x_.Place.e0)) ((r_.Rows.length : Nat) : Int)).toNat (Row_e.set (Int.tmod (w64 (x_.Place.e1)) r_.Inputs).toNat x_.To))) <| loN)
     rcases bifE hf0 with ⟨c1, hf0⟩ | ⟨c1, hf0⟩
     ·have o21 := shM F14_ F13_ (r_3.Rows.set (Int.tmod (w64 (x_.Place.e0)) ((r_.Rows.length : Nat) : Int)).toNat (Row_e.set (Int.tmod (w64 (x_.Place.e1)) r_.Inputs).toNat x_.To))
      obtain rfl := someE hf0
      exact awpEnd X0 TTab_ok hC hm hE 4000 (hs := [.g [], .l (b_Rows.map F13_), .a (F23_ r_3), .l (b_Rows.map F13_), .a (F14_ Row_e), .a (F14_ Row_e), .a (F14_ Row_e), .a (F9_ Row_e_e), .a (F14_ Row_e), .a (F9_ Row_e_e), .l ((Row_e.set (Int.tmod (w64 (x_.Place.e1)) r_.Inputs).toNat x_.To).map F9_), .l ((r_3.Rows.set (Int.tmod (w64 (x_.Place.e0)) ((r_.Rows.length : Nat) : Int)).toNat (Row_e.set (Int.tmod (w64 (x_.Place.e1)) r_.Inputs).toNat x_.To)).map F14_), .g [], .l ((r_3.Rows.set (Int.tmod (w64 (x_.Place.e0)) ((r_.Rows.length : Nat) : Int)).toNat (Row_e.set (Int.tmod (w64 (x_.Place.e1)) r_.Inputs).toNat x_.To)).map F13_), .a ((eI .i64) r_4), bT, .l ((r_3.Rows.set (Int.tmod (w64 (x_.Place.e0)) ((r_.Rows.length : Nat) : Int)).toNat (Row_e.set (Int.tmod (w64 (x_.Place.e1)) r_.Inputs).toNat x_.To)).map F13_)]) (x := (.tup [.agg [I r_.Inputs, I r_.Outputs, eSl 1 false F13_ r_.Rows], .agg [I r_3.Inputs, I r_3.Outputs, eSl 1 false F13_ (r_3.Rows.set (Int.tmod (w64 (x_.Place.e0)) ((r_.Rows.length : Nat) : Int)).toNat (Row_e.set (Int.tmod (w64 (x_.Place.e1)) r_.Inputs).toNat x_.To))]])) [ob (hasG h_ref04_Copy), ob o4, ob o5, ob o6, ob o7, ob g0, ob o8, ob o9, ob o10, ob g1, ob o11, ob o12, ob o13, ob o14, ob o15, ob o16, ob o17, ob o18, ob (hasG h_ref04_Check), ob o19, ob o20, ob c1, ob o21] (by kernel_rfl) (LeV.refl _)
     ·obtain rfl := someE hf0
      exact awpEnd X0 TTab_ok hC hm hE 4000 (hs := [.g [], .l (b_Rows.map F13_), .a (F23_ r_3), .l (b_Rows.map F13_), .a (F14_ Row_e), .a (F14_ Row_e), .a (F14_ Row_e), .a (F9_ Row_e_e), .a (F14_ Row_e), .a (F9_ Row_e_e), .l ((Row_e.set (Int.tmod (w64 (x_.Place.e1)) r_.Inputs).toNat x_.To).map F9_), .l ((r_3.Rows.set (Int.tmod (w64 (x_.Place.e0)) ((r_.Rows.length : Nat) : Int)).toNat (Row_e.set (Int.tmod (w64 (x_.Place.e1)) r_.Inputs).toNat x_.To)).map F14_), .g [], .l ((r_3.Rows.set (Int.tmod (w64 (x_.Place.e0)) ((r_.Rows.length : Nat) : Int)).toNat (Row_e.set (Int.tmod (w64 (x_.Place.e1)) r_.Inputs).toNat x_.To)).map F13_), .a ((eI .i64) r_4), bF]) (x := (.tup [.agg [I r_.Inputs, I r_.Outputs, eSl 1 false F13_ r_.Rows], .agg [I r_2.Inputs, I r_2.Outputs, eSl 1 false F13_ b_Rows]])) [ob (hasG h_ref04_Copy), ob o4, ob o5, ob o6, ob o7, ob g0, ob o8, ob o9, ob o10, ob g1, ob o11, ob o12, ob o13, ob o14, ob o15, ob o16, ob o17, ob o18, ob (hasG h_ref04_Check), ob o19, ob o20, ob c1] (by kernel_rfl) (LeV.refl _)
    ·obtain ⟨t4, ht4, hf0⟩ := bindE hf0
     refine awpAt X0 TTab_ok hC hm [1,2,3,4,5,6,10,11] 4000 [] (sub [1,1,1,1,1,1,1,1,2,1,0] bd_law10_D_Of) (frs [1,1,1,1,1,1,1,1,2,1,0] [J3] bd_law10_D_Of []) [(1, .own (.box (.agg [F19_ x_.M, F19_ x_.X, B x_.Alike, (eArr2 (eI .u8)) x_.Swap, (eArr2 (eI .u8)) x_.Place, F9_ x_.To]))), (2, .own (.box (.agg [I 0, I 0, eOs 1 true F13_ []]))), (3, .own (.box (.agg [I 0, I 0, eOs 1 true F13_ []]))), (4, .own (.box (F22_ r_))), (5, .d (I ((r_.Rows.length : Nat) : Int))), (6, .own (eOs 1 false (eI .i64) to1)), (10, .own (.box (.agg [I r_2.Inputs, I r_2.Outputs, eOs 1 false F14_ r_2.Rows]))), (11, .d (I 0))] [] (by kernel_rfl) fun st0 h0 => ?_
     refine awpLoop' (X := (List (List S_api_Edge) × Int) × Nat) (c' := (sub [1,1,1,1,1,1,1,1,2,1,0,0] bd_law10_D_Of)) (by kernel_rfl) [1,2,3,4,5,6,10,11] (fun x => loopN (fun s => law10_D_Of_L4 r_ to1 s.1 s.2) x.2 x.1 = some t4) (fun x => x.2) (fun x => ST_law10_D_Of_L4 x_ r_ to1 r_2 x.1.1 x.1.2) ((r_2.Rows, 0), fuel) _ h0 inferInstance ht4 ?_
     rintro ⟨⟨b_Rows1, s_⟩, n4⟩ hn4 J4 hJ4
     obtain ⟨m4, lr1, rfl, hf1, hl1⟩ := loopE hn4
     try unfold law10_D_Of_L4 at hf1
     rcases bifE hf1 with ⟨c2, hf1⟩ | ⟨c2, hf1⟩
     ·refine awpAt X0 TTab_ok hC hm [1,2,3,4,5,6,10,11] 4000 [bT, .cut 0] (sub [1,1,1,1,1,1,1,1,2,1,0,0,1] bd_law10_D_Of) (frs [1,1,1,1,1,1,1,1,2,1,0,0,1] [J3, J4] bd_law10_D_Of []) [(1, .own (.box (.agg [F19_ x_.M, F19_ x_.X, B x_.Alike, (eArr2 (eI .u8)) x_.Swap, (eArr2 (eI .u8)) x_.Place, F9_ x_.To]))), (2, .own (.box (.agg [I 0, I 0, eOs 1 true F13_ []]))), (3, .own (.box (.agg [I 0, I 0, eOs 1 true F13_ []]))), (4, .own (.box (F22_ r_))), (5, .d (I ((r_.Rows.length : Nat) : Int))), (6, .own (eOs 1 false (eI .i64) to1)), (10, .own (.box (.agg [I r_2.Inputs, I r_2.Outputs, eOs 1 false F14_ b_Rows1]))), (11, .d (I s_))] [ob c2] (by kernel_rfl) fun st0 h0 => ?_
      refine awpJoin' (X := List (List S_api_Edge)) (x := (sub [1,1,1,1,1,1,1,1,2,1,0,0,1,2] bd_law10_D_Of)) (y := (sub [1,1,1,1,1,1,1,1,2,1,0,0,1,1] bd_law10_D_Of)) (by kernel_rfl) [1,2,3,4,5,6,10,11] [1,2,3,4,5,6,10,11] _ h0 (fun z => law10_D_Of_J5 s_ z = some lr1) (fun z => ST_law10_D_Of_J5 x_ r_ to1 r_2 s_ z) ?_ fun J5 hJ5 => ?_
      ·rintro b_Rows2 hf1
       unfold law10_D_Of_J5 at hf1
       obtain rfl := someE hf1
       exact awpBack X0 TTab_ok hC hm [1,2,3,4,5,6,10,11] 4000 [] J4 [(1, .own (.box (.agg [F19_ x_.M, F19_ x_.X, B x_.Alike, (eArr2 (eI .u8)) x_.Swap, (eArr2 (eI .u8)) x_.Place, F9_ x_.To]))), (2, .own (.box (.agg [I 0, I 0, eOs 1 true F13_ []]))), (3, .own (.box (.agg [I 0, I 0, eOs 1 true F13_ []]))), (4, .own (.box (F22_ r_))), (5, .d (I ((r_.Rows.length : Nat) : Int))), (6, .own (eOs 1 false (eI .i64) to1)), (10, .own (.box (.agg [I r_2.Inputs, I r_2.Outputs, eOs 1 false F14_ b_Rows2]))), (11, .d (I (w64 (s_ + 1))))] [] (by kernel_rfl) fun st0 h0 => hJ4 st0 _ ((b_Rows2, w64 (s_ + 1)), m4) hl1 (Nat.lt_succ_self m4) h0 inferInstance
      ·obtain ⟨t6, ht6, hf1⟩ := bindE hf1
       refine awpAt X0 TTab_ok hC hm [1,2,3,4,5,6,10,11,12] 4000 [] (sub [1,1,1,1,1,1,1,1,2,1,0,0,1,2,0,1,0] bd_law10_D_Of) (frs [1,1,1,1,1,1,1,1,2,1,0,0,1,2,0,1,0] [J3, J4, J5] bd_law10_D_Of []) [(1, .own (.box (.agg [F19_ x_.M, F19_ x_.X, B x_.Alike, (eArr2 (eI .u8)) x_.Swap, (eArr2 (eI .u8)) x_.Place, F9_ x_.To]))), (2, .own (.box (.agg [I 0, I 0, eOs 1 true F13_ []]))), (3, .own (.box (.agg [I 0, I 0, eOs 1 true F13_ []]))), (4, .own (.box (F22_ r_))), (5, .d (I ((r_.Rows.length : Nat) : Int))), (6, .own (eOs 1 false (eI .i64) to1)), (10, .own (.box (.agg [I r_2.Inputs, I r_2.Outputs, eOs 1 false F14_ b_Rows1]))), (11, .d (I s_)), (12, .d (I 0))] [] (by kernel_rfl) fun st0 h0 => ?_
       refine awpLoop' (X := (List (List S_api_Edge) × Int) × Nat) (c' := (sub [1,1,1,1,1,1,1,1,2,1,0,0,1,2,0,1,0,0] bd_law10_D_Of)) (by kernel_rfl) [1,2,3,4,5,6,10,11,12] (fun x => loopN (fun s => law10_D_Of_L6 r_ to1 s_ s.1 s.2) x.2 x.1 = some t6) (fun x => x.2) (fun x => ST_law10_D_Of_L6 x_ r_ to1 r_2 s_ x.1.1 x.1.2) ((b_Rows1,0), fuel) _ h0 inferInstance ht6 ?_
       rintro ⟨⟨b_Rows3, i_⟩, n6⟩ hn6 J6 hJ6
       obtain ⟨m6, lr2, rfl, hf2, hl2⟩ := loopE hn6
       try unfold law10_D_Of_L6 at hf2
       rcases bifE hf2 with ⟨c3, hf2⟩ | ⟨c3, hf2⟩
       ·obtain ⟨Row_e1, h7, hf2⟩ := bindE hf2
        have o22 := iM F13_ h7
        obtain ⟨Row_e_e1, h8, hf2⟩ := bindE hf2
        have o23 := iM F9_ h8
        refine awpAt X0 TTab_ok hC hm [1,2,3,4,5,6,10,11,12,13] 4000 [bT, .a (F13_ Row_e1), .a (F9_ Row_e_e1), .cut 0] (sub [1,1,1,1,1,1,1,1,2,1,0,0,1,2,0,1,0,0,1,0,0,1] bd_law10_D_Of) (frs [1,1,1,1,1,1,1,1,2,1,0,0,1,2,0,1,0,0,1,0,0,1] [J3, J4, J5, J6] bd_law10_D_Of []) [(1, .own (.box (.agg [F19_ x_.M, F19_ x_.X, B x_.Alike, (eArr2 (eI .u8)) x_.Swap, (eArr2 (eI .u8)) x_.Place, F9_ x_.To]))), (2, .own (.box (.agg [I 0, I 0, eOs 1 true F13_ []]))), (3, .own (.box (.agg [I 0, I 0, eOs 1 true F13_ []]))), (4, .own (.box (F22_ r_))), (5, .d (I ((r_.Rows.length : Nat) : Int))), (6, .own (eOs 1 false (eI .i64) to1)), (10, .own (.box (.agg [I r_2.Inputs, I r_2.Outputs, eOs 1 false F14_ b_Rows3]))), (11, .d (I s_)), (12, .d (I i_)), (13, .own (.box (F9_ Row_e_e1)))] [ob c3, ob (i0 h7), ob o22, ob (i0 h8), ob o23] (by kernel_rfl) fun st0 h0 => ?_
        refine awpJoin' (X := Int) (x := (sub [1,1,1,1,1,1,1,1,2,1,0,0,1,2,0,1,0,0,1,0,0,1,2] bd_law10_D_Of)) (y := (sub [1,1,1,1,1,1,1,1,2,1,0,0,1,2,0,1,0,0,1,0,0,1,1] bd_law10_D_Of)) (by kernel_rfl) [1,2,3,4,5,6,10,11,12,13] [1,2,3,4,5,6,10,11,12,13] _ h0 (fun z => law10_D_Of_J7 to1 s_ b_Rows3 i_ Row_e_e1 z = some lr2) (fun z => ST_law10_D_Of_J7 x_ r_ to1 r_2 s_ b_Rows3 i_ Row_e_e1 z) ?_ fun J7 hJ7 => ?_
        ·rintro e_To hf2
         unfold law10_D_Of_J7 at hf2
         obtain ⟨to_e, h9, hf2⟩ := bindE hf2
         obtain ⟨b_Row_e, h10, hf2⟩ := bindE hf2
         have o24 := iL F14_ h10
         have o25 := iM F14_ h10
         have o26 := iM F14_ h10
         obtain ⟨b_Row_e_e, h11, hf2⟩ := bindE hf2
         have o27 := iL F9_ h11
         have o28 := iM F14_ h10
         have o29 := iM F9_ h11
         have o30 := iM F14_ h10
         have o31 := iM F9_ h11
         have o32 := sM F9_ b_Row_e i_ (S_api_Edge.mk e_To Row_e_e1.Out)
         have o33 := sM F14_ b_Rows3 to_e (b_Row_e.set i_.toNat (S_api_Edge.mk e_To Row_e_e1.Out))
         obtain rfl := someE hf2
         exact awpBack X0 TTab_ok hC hm [1,2,3,4,5,6,10,11,12] 4000 [.a ((eI .i64) to_e), .a (F14_ b_Row_e), .a (F14_ b_Row_e), .a (F14_ b_Row_e), .a (F9_ b_Row_e_e), .a (F14_ b_Row_e), .a (F9_ b_Row_e_e), .l ((b_Row_e.set i_.toNat (S_api_Edge.mk e_To Row_e_e1.Out)).map F9_), .l ((b_Rows3.set to_e.toNat (b_Row_e.set i_.toNat (S_api_Edge.mk e_To Row_e_e1.Out))).map F14_)] J6 [(1, .own (.box (.agg [F19_ x_.M, F19_ x_.X, B x_.Alike, (eArr2 (eI .u8)) x_.Swap, (eArr2 (eI .u8)) x_.Place, F9_ x_.To]))), (2, .own (.box (.agg [I 0, I 0, eOs 1 true F13_ []]))), (3, .own (.box (.agg [I 0, I 0, eOs 1 true F13_ []]))), (4, .own (.box (F22_ r_))), (5, .d (I ((r_.Rows.length : Nat) : Int))), (6, .own (eOs 1 false (eI .i64) to1)), (10, .own (.box (.agg [I r_2.Inputs, I r_2.Outputs, eOs 1 false F14_ (b_Rows3.set to_e.toNat (b_Row_e.set i_.toNat (S_api_Edge.mk e_To Row_e_e1.Out)))]))), (11, .d (I s_)), (12, .d (I (w64 (i_ + 1))))] [ob (iL (eI .i64) h9), ob (iM (eI .i64) h9), ob o24, ob o25, ob o26, ob o27, ob o28, ob o29, ob o30, ob o31, ob o32, ob o33] (by kernel_rfl) fun st0 h0 => hJ6 st0 _ (((b_Rows3.set to_e.toNat (b_Row_e.set i_.toNat (S_api_Edge.mk e_To Row_e_e1.Out))), w64 (i_ + 1)), m6) hl2 (Nat.lt_succ_self m6) h0 inferInstance
        ·rcases bifE hf2 with ⟨c4, hf2⟩ | ⟨c4, hf2⟩
         ·obtain ⟨to_e1, h12, hf2⟩ := bindE hf2
          exact awpBack X0 TTab_ok hC hm [1,2,3,4,5,6,10,11,12,13] 4000 [bT, .a ((eI .i64) to_e1)] J7 [(1, .own (.box (.agg [F19_ x_.M, F19_ x_.X, B x_.Alike, (eArr2 (eI .u8)) x_.Swap, (eArr2 (eI .u8)) x_.Place, F9_ x_.To]))), (2, .own (.box (.agg [I 0, I 0, eOs 1 true F13_ []]))), (3, .own (.box (.agg [I 0, I 0, eOs 1 true F13_ []]))), (4, .own (.box (F22_ r_))), (5, .d (I ((r_.Rows.length : Nat) : Int))), (6, .own (eOs 1 false (eI .i64) to1)), (10, .own (.box (.agg [I r_2.Inputs, I r_2.Outputs, eOs 1 false F14_ b_Rows3]))), (11, .d (I s_)), (12, .d (I i_)), (13, .own (.box (.agg [I to_e1, I Row_e_e1.Out])))] [ob c4, ob (iL (eI .i64) h12), ob (iM (eI .i64) h12)] (by kernel_rfl) fun st0 h0 => hJ7 st0 _ to_e1 hf2 h0 inferInstance
         ·exact awpBack X0 TTab_ok hC hm [1,2,3,4,5,6,10,11,12,13] 4000 [bF] J7 [(1, .own (.box (.agg [F19_ x_.M, F19_ x_.X, B x_.Alike, (eArr2 (eI .u8)) x_.Swap, (eArr2 (eI .u8)) x_.Place, F9_ x_.To]))), (2, .own (.box (.agg [I 0, I 0, eOs 1 true F13_ []]))), (3, .own (.box (.agg [I 0, I 0, eOs 1 true F13_ []]))), (4, .own (.box (F22_ r_))), (5, .d (I ((r_.Rows.length : Nat) : Int))), (6, .own (eOs 1 false (eI .i64) to1)), (10, .own (.box (.agg [I r_2.Inputs, I r_2.Outputs, eOs 1 false F14_ b_Rows3]))), (11, .d (I s_)), (12, .d (I i_)), (13, .own (.box (.agg [I Row_e_e1.To, I Row_e_e1.Out])))] [ob c4] (by kernel_rfl) fun st0 h0 => hJ7 st0 _ Row_e_e1.To hf2 h0 inferInstance
       ·obtain rfl := someE hf2
        obtain rfl := hl2
        exact awpBack X0 TTab_ok hC hm [1,2,3,4,5,6,10,11] 4000 [bF] J5 [(1, .own (.box (.agg [F19_ x_.M, F19_ x_.X, B x_.Alike, (eArr2 (eI .u8)) x_.Swap, (eArr2 (eI .u8)) x_.Place, F9_ x_.To]))), (2, .own (.box (.agg [I 0, I 0, eOs 1 true F13_ []]))), (3, .own (.box (.agg [I 0, I 0, eOs 1 true F13_ []]))), (4, .own (.box (F22_ r_))), (5, .d (I ((r_.Rows.length : Nat) : Int))), (6, .own (eOs 1 false (eI .i64) to1)), (10, .own (.box (.agg [I r_2.Inputs, I r_2.Outputs, eOs 1 false F14_ b_Rows3]))), (11, .d (I s_))] [ob c3] (by kernel_rfl) fun st0 h0 => hJ5 st0 _ b_Rows3 hf1 h0 inferInstance
     ·obtain rfl := someE hf1
      obtain rfl := hl1
      exact awpBack X0 TTab_ok hC hm [1,2,3,4,5,10] 4000 [bF] J3 [(1, .own (.box (.agg [F19_ x_.M, F19_ x_.X, B x_.Alike, (eArr2 (eI .u8)) x_.Swap, (eArr2 (eI .u8)) x_.Place, F9_ x_.To]))), (2, .own (.box (.agg [I 0, I 0, eOs 1 true F13_ []]))), (3, .own (.box (.agg [I 0, I 0, eOs 1 true F13_ []]))), (4, .own (.box (F22_ r_))), (5, .d (I ((r_.Rows.length : Nat) : Int))), (10, .own (.box (.agg [I r_2.Inputs, I r_2.Outputs, eOs 1 false F14_ b_Rows1])))] [ob c2] (by kernel_rfl) fun st0 h0 => hJ3 st0 _ b_Rows1 hf0 h0 inferInstance
   ·rcases bifE hf0 with ⟨c5, hf0⟩ | ⟨c5, hf0⟩
    ·have o34 := (⟨rfl, by decide⟩ : true = true ∧ 0 < 2)
     obtain ⟨g2, hf0⟩ := gdE hf0
     have o35 := (⟨rfl, by decide⟩ : true = true ∧ 1 < 2)
     obtain ⟨g3, hf0⟩ := gdE hf0
     obtain ⟨to_e2, h13, hf0⟩ := bindE hf0
     obtain ⟨to_e3, h14, hf0⟩ := bindE hf0
     obtain ⟨to_e4, h15, hf0⟩ := bindE hf0
     have o36 := sM (eI .i64) to (w64 (1 + (Int.tmod (w64 (x_.Swap.e0)) (w64 (((r_.Rows.length : Nat) : Int) - 1))))) to_e2
     obtain ⟨u_e, h16, hf0⟩ := bindE hf0
     have o37 := sM (eI .i64) (to.set (w64 (1 + (Int.tmod (w64 (x_.Swap.e0)) (w64 (((r_.Rows.length : Nat) : Int) - 1))))).toNat to_e2) (w64 (1 + (Int.tmod (w64 (x_.Swap.e1)) (w64 (((r_.Rows.length : Nat) : Int) - 1))))) to_e3
     exact awpBack ((xIx TTab_ok 73 6 pv6).or ((xMv Try.prog 62 6 pv6 hv6).or X0)) TTab_ok hC hm [1,2,3,4,5,6] 4000 [bT, .a ((eI .i64) to_e2), .a ((eI .i64) to_e3), .a ((eI .i64) to_e4), .a ((eI .i64) to_e4), .l ((to.set (w64 (1 + (Int.tmod (w64 (x_.Swap.e0)) (w64 (((r_.Rows.length : Nat) : Int) - 1))))).toNat to_e2).map (eI .i64)), .a ((eI .i64) u_e), .a ((eI .i64) u_e), .l (((to.set (w64 (1 + (Int.tmod (w64 (x_.Swap.e0)) (w64 (((r_.Rows.length : Nat) : Int) - 1))))).toNat to_e2).set (w64 (1 + (Int.tmod (w64 (x_.Swap.e1)) (w64 (((r_.Rows.length : Nat) : Int) - 1))))).toNat to_e3).map (eI .i64))] J2 [(1, .own (.box (.agg [F19_ x_.M, F19_ x_.X, B x_.Alike, (eArr2 (eI .u8)) x_.Swap, (eArr2 (eI .u8)) x_.Place, F9_ x_.To]))), (2, .own (.box (.agg [I 0, I 0, eOs 1 true F13_ []]))), (3, .own (.box (.agg [I 0, I 0, eOs 1 true F13_ []]))), (4, .own (.box (F22_ r_))), (5, .d (I ((r_.Rows.length : Nat) : Int))), (6, .own (eOs 1 false (eI .i64) ((to.set (w64 (1 + (Int.tmod (w64 (x_.Swap.e0)) (w64 (((r_.Rows.length : Nat) : Int) - 1))))).toNat to_e2).set (w64 (1 + (Int.tmod (w64 (x_.Swap.e1)) (w64 (((r_.Rows.length : Nat) : Int) - 1))))).toNat to_e3)))] [ob c5, ob o34, ob g2, ob o35, ob g3, ob ((rfl : some pv6 = some pv6)), ob (iL (eI .i64) h13), ob (iM (eI .i64) h13), ob (iL (eI .i64) h14), ob (iM (eI .i64) h14), ob (iL (eI .i64) h15), ob (iM (eI .i64) h15), ob (iM (eI .i64) h15), ob o36, ob ((⟨rfl, rfl⟩ : T.d (.atom pv6) = T.d (.atom pv6) ∧ some pv6 = some pv6)), ob (iL (eI .i64) h16), ob (iM (eI .i64) h16), ob (iM (eI .i64) h16), ob o37] (by kernel_rfl) fun st0 h0 => hJ2 st0 _ ((to.set (w64 (1 + (Int.tmod (w64 (x_.Swap.e0)) (w64 (((r_.Rows.length : Nat) : Int) - 1))))).toNat to_e2).set (w64 (1 + (Int.tmod (w64 (x_.Swap.e1)) (w64 (((r_.Rows.length : Nat) : Int) - 1))))).toNat to_e3) hf0 h0 inferInstance
    ·exact awpBack X0 TTab_ok hC hm [1,2,3,4,5,6] 4000 [bF] J2 [(1, .own (.box (.agg [F19_ x_.M, F19_ x_.X, B x_.Alike, (eArr2 (eI .u8)) x_.Swap, (eArr2 (eI .u8)) x_.Place, F9_ x_.To]))), (2, .own (.box (.agg [I 0, I 0, eOs 1 true F13_ []]))), (3, .own (.box (.agg [I 0, I 0, eOs 1 true F13_ []]))), (4, .own (.box (F22_ r_))), (5, .d (I ((r_.Rows.length : Nat) : Int))), (6, .own (eOs 1 false (eI .i64) to))] [ob c5] (by kernel_rfl) fun st0 h0 => hJ2 st0 _ to hf0 h0 inferInstance
  ·obtain ⟨t8, ht8, hf0⟩ := bindE hf0
   refine awpAt X0 TTab_ok hC hm [1,2,3,4,5,6,7] 4000 [] (sub [1,1,1,1,1,2,1,0] bd_law10_D_Of) (frs [1,1,1,1,1,2,1,0] [J1] bd_law10_D_Of []) [(1, .own (.box (.agg [F19_ x_.M, F19_ x_.X, B x_.Alike, (eArr2 (eI .u8)) x_.Swap, (eArr2 (eI .u8)) x_.Place, F9_ x_.To]))), (2, .own (.box (.agg [I 0, I 0, eOs 1 true F13_ []]))), (3, .own (.box (.agg [I 0, I 0, eOs 1 true F13_ []]))), (4, .own (.box (F22_ r_))), (5, .d (I ((r_.Rows.length : Nat) : Int))), (6, .own (eOs 1 true (eI .i64) [])), (7, .d (I 0))] [] (by kernel_rfl) fun st0 h0 => ?_
   refine awpLoop' (X := (List Int × Int) × Nat) (c' := (sub [1,1,1,1,1,2,1,0,0] bd_law10_D_Of)) (by kernel_rfl) [1,2,3,4,5,6,7] (fun x => loopN (fun s => law10_D_Of_L8 r_ s.1 s.2) x.2 x.1 = some t8) (fun x => x.2) (fun x => ST_law10_D_Of_L8 x_ r_ x.1.1 x.1.2) ((([] : List Int), 0), fuel) _ h0 inferInstance ht8 ?_
   rintro ⟨⟨to2, s_1⟩, n8⟩ hn8 J8 hJ8
   obtain ⟨m8, lr1, rfl, hf1, hl1⟩ := loopE hn8
   try unfold law10_D_Of_L8 at hf1
   rcases bifE hf1 with ⟨c6, hf1⟩ | ⟨c6, hf1⟩
   ·obtain ⟨g4, hf1⟩ := gdE hf1
    have o38 := aM (eI .i64) to2 ([s_1] : List Int)
    obtain rfl := someE hf1
    exact awpBack X0 TTab_ok hC hm [1,2,3,4,5,6,7] 4000 [bT, bT, .l ((to2 ++ ([s_1] : List Int)).map (eI .i64))] J8 [(1, .own (.box (.agg [F19_ x_.M, F19_ x_.X, B x_.Alike, (eArr2 (eI .u8)) x_.Swap, (eArr2 (eI .u8)) x_.Place, F9_ x_.To]))), (2, .own (.box (.agg [I 0, I 0, eOs 1 true F13_ []]))), (3, .own (.box (.agg [I 0, I 0, eOs 1 true F13_ []]))), (4, .own (.box (F22_ r_))), (5, .d (I ((r_.Rows.length : Nat) : Int))), (6, .own (eOs 1 false (eI .i64) (to2 ++ ([s_1] : List Int)))), (7, .d (I (w64 (s_1 + 1))))] [ob c6, ob (dM (eI .i64) ([s_1] : List Int)), ob (dM (eI .i64) ([s_1] : List Int)), ob (aL (eI .i64) (eI .i64) g4), ob o38] (by kernel_rfl) fun st0 h0 => hJ8 st0 _ (((to2 ++ ([s_1] : List Int)), w64 (s_1 + 1)), m8) hl1 (Nat.lt_succ_self m8) h0 inferInstance
   ·obtain rfl := someE hf1
    obtain rfl := hl1
    exact awpBack X0 TTab_ok hC hm [1,2,3,4,5,6] 4000 [bF] J1 [(1, .own (.box (.agg [F19_ x_.M, F19_ x_.X, B x_.Alike, (eArr2 (eI .u8)) x_.Swap, (eArr2 (eI .u8)) x_.Place, F9_ x_.To]))), (2, .own (.box (.agg [I 0, I 0, eOs 1 true F13_ []]))), (3, .own (.box (.agg [I 0, I 0, eOs 1 true F13_ []]))), (4, .own (.box (F22_ r_))), (5, .d (I ((r_.Rows.length : Nat) : Int))), (6, .own (eOs 1 false (eI .i64) to2))] [ob c6] (by kernel_rfl) fun st0 h0 => hJ1 st0 _ to2 hf0 h0 inferInstance
noncomputable def bd_law01_W_Of : Code := (Try.f37.body).getD .skip
noncomputable def sp_law01_W_Of : Spec := spF (α := S_law01_W × Int) (ρ := List Int) 37 (fun x => [F10_ x.1, (eI .i64) x.2]) (fun r => F4_ r) (fun x => law01_W_Of x.1 x.2) [] (by
 rintro ⟨a0, a1⟩ ⟨b0, b1⟩ h
 simp only [List.cons.injEq, and_true] at h
 have e0 := EncI.inj (f := F10_) _ _ h.1
 have e1 := EncI.inj (f := (eI .i64)) _ _ h.2
 subst e0 e1
 rfl)
abbrev ST_law01_W_Of_J1 (out : List Int) : List (Nat × T) := [(5, .own (eOs 1 false (eI .i64) out))]
abbrev ST_law01_W_Of_L2 (x_ : S_law01_W) (inputs : Int) (out1 : List Int) (i_ : Int) : List (Nat × T) := [(1, .d (I inputs)), (2, .own (.box (.agg [eSl 1 false (eI .u8) x_.Symbols]))), (5, .own (eOs 1 false (eI .i64) out1)), (6, .d (I i_))]
theorem w_law01_W_Of {ctr : Ctr} (hC : CtrOk Try.prog ctr) (hm : Try.prog.follows .mixedOrders = true) : sp_law01_W_Of.Ok Try.prog := by
 refine spF_ok ?_
 rintro ⟨x_, inputs⟩ r0 hf0
 try unfold law01_W_Of at hf0
 refine callOk_h (tt := TTab) (keep := true) (rs := [(4, none)]) (n := ⟨30, []⟩) (body := bd_law01_W_Of) TTab_ok Try.func37 rfl (by kernel_rfl) rfl rfl (by show (2 : Nat) ≤ 30; decide) fun E hE => ?_
 refine awpAt X0 TTab_ok hC hm [1,2,5] 4000 [.cut 2] (sub [1,1] bd_law01_W_Of) (frs [1,1] [] bd_law01_W_Of []) [(1, .d (I inputs)), (2, .own (.box (.agg [eSl 1 false (eI .u8) x_.Symbols]))), (5, .own (eOs 1 true (eI .i64) []))] [] (by kernel_rfl) fun st0 h0 => ?_
 refine awpJoin' (X := List Int) (x := (sub [1,1,2] bd_law01_W_Of)) (y := (sub [1,1,1] bd_law01_W_Of)) (by kernel_rfl) [5] [1,2,5] _ h0 (fun z => law01_W_Of_J1 z = some r0) (fun z => ST_law01_W_Of_J1 z) ?_ fun J1 hJ1 => ?_
 ·rintro out hf0
  unfold law01_W_Of_J1 at hf0
  obtain rfl := someE hf0
  exact awpEnd X0 TTab_ok hC hm hE 4000 (hs := []) (x := (eOs 1 false (eI .i64) out)) [] (by kernel_rfl) (LeV.refl _)
 ·obtain ⟨t2, ht2, hf0⟩ := bindE hf0
  refine awpAt X0 TTab_ok hC hm [1,2,5,6] 4000 [] (sub [1,1,2,1,0] bd_law01_W_Of) (frs [1,1,2,1,0] [J1] bd_law01_W_Of []) [(1, .d (I inputs)), (2, .own (.box (.agg [eSl 1 false (eI .u8) x_.Symbols]))), (5, .own (eOs 1 true (eI .i64) [])), (6, .d (I 0))] [] (by kernel_rfl) fun st0 h0 => ?_
  refine awpLoop' (X := (List Int × Int) × Nat) (c' := (sub [1,1,2,1,0,0] bd_law01_W_Of)) (by kernel_rfl) [1,2,5,6] (fun x => loopN (fun s => law01_W_Of_L2 x_ inputs s.1 s.2) x.2 x.1 = some t2) (fun x => x.2) (fun x => ST_law01_W_Of_L2 x_ inputs x.1.1 x.1.2) ((([] : List Int), 0), fuel) _ h0 inferInstance ht2 ?_
  rintro ⟨⟨out1, i_⟩, n2⟩ hn2 J2 hJ2
  obtain ⟨m2, lr1, rfl, hf1, hl1⟩ := loopE hn2
  try unfold law01_W_Of_L2 at hf1
  rcases bifE hf1 with ⟨c0, hf1⟩ | ⟨c0, hf1⟩
  ·rcases bifE hf1 with ⟨c1, hf1⟩ | ⟨c1, hf1⟩
   ·obtain ⟨Symbol_e, h0, hf1⟩ := bindE hf1
    obtain ⟨g0, hf1⟩ := gdE hf1
    have o0 := dM (eI .i64) ([Int.tmod (w64 (Symbol_e)) inputs] : List Int)
    have o1 := dM (eI .i64) ([Int.tmod (w64 (Symbol_e)) inputs] : List Int)
    obtain ⟨g1, hf1⟩ := gdE hf1
    have o2 := aM (eI .i64) out1 ([Int.tmod (w64 (Symbol_e)) inputs] : List Int)
    obtain rfl := someE hf1
    exact awpBack X0 TTab_ok hC hm [1,2,5,6] 4000 (aLn x_.Symbols.length :: (rpN 4 bT [.a ((eI .u8) Symbol_e), bT, .l ((out1 ++ ([Int.tmod (w64 (Symbol_e)) inputs] : List Int)).map (eI .i64))])) J2 [(1, .d (I inputs)), (2, .own (.box (.agg [eSl 1 false (eI .u8) x_.Symbols]))), (5, .own (eOs 1 false (eI .i64) (out1 ++ ([Int.tmod (w64 (Symbol_e)) inputs] : List Int)))), (6, .d (I (w64 (i_ + 1))))] [ob (lnM (eI .u8) x_.Symbols), ob c0, ob c0, ob c0, ob c1, ob (i0 h0), ob (iM (eI .u8) h0), ob g0, ob o0, ob o1, ob (aL (eI .i64) (eI .i64) g1), ob o2] (by kernel_rfl) fun st0 h0 => hJ2 st0 _ (((out1 ++ ([Int.tmod (w64 (Symbol_e)) inputs] : List Int)), w64 (i_ + 1)), m2) hl1 (Nat.lt_succ_self m2) h0 inferInstance
   ·obtain rfl := someE hf1
    obtain rfl := hl1
    exact awpBack X0 TTab_ok hC hm [5] 4000 [aLn x_.Symbols.length, bT, bT, bT, bF] J1 [(5, .own (eOs 1 false (eI .i64) out1))] [ob (lnM (eI .u8) x_.Symbols), ob c0, ob c0, ob c0, ob c1] (by kernel_rfl) fun st0 h0 => hJ1 st0 _ out1 hf0 h0 inferInstance
  ·obtain rfl := someE hf1
   obtain rfl := hl1
   exact awpBack X0 TTab_ok hC hm [5] 4000 (aLn x_.Symbols.length :: (rpN 4 bF [])) J1 [(5, .own (eOs 1 false (eI .i64) out1))] [ob (lnM (eI .u8) x_.Symbols), ob c0, ob c0, ob c0, oF] (by kernel_rfl) fun st0 h0 => hJ1 st0 _ out1 hf0 h0 inferInstance
noncomputable def bd_machines_none : Code := (Try.f133.body).getD .skip
noncomputable def sp_machines_none : Spec := spF (α := Unit) (ρ := S_api_Edge) 133 (fun x => []) (fun r => F9_ r) (fun x => machines_none) [] (fun _ _ _ => rfl)
theorem w_machines_none {ctr : Ctr} (hC : CtrOk Try.prog ctr) (hm : Try.prog.follows .mixedOrders = true) : sp_machines_none.Ok Try.prog := by
 refine spF_ok ?_
 rintro ⟨⟩ r0 hf0
 try unfold machines_none at hf0
 refine callOk_h (tt := TTab) (keep := false) (rs := [(0, some 67)]) (n := ⟨2, []⟩) (body := bd_machines_none) TTab_ok Try.func133 rfl (by kernel_rfl) rfl rfl (by show (0 : Nat) ≤ 2; decide) fun E hE => ?_
 obtain rfl := someE hf0
 exact awpEnd X0 TTab_ok hC hm hE 4000 (hs := []) (x := (.agg [I (-1), I (-1)])) [] (by kernel_rfl) (LeV.refl _)
noncomputable def bd_machines_fits : Code := (Try.f107.body).getD .skip
noncomputable def sp_machines_fits : Spec := spF (α := S_api_Machine × S_api_Edge) (ρ := Bool) 107 (fun x => [F22_ x.1, F9_ x.2]) (fun r => eB r) (fun x => machines_fits x.1 x.2) [] (by
 rintro ⟨a0, a1⟩ ⟨b0, b1⟩ h
 simp only [List.cons.injEq, and_true] at h
 have e0 := EncI.inj (f := F22_) _ _ h.1
 have e1 := EncI.inj (f := F9_) _ _ h.2
 subst e0 e1
 rfl)
theorem w_machines_fits {ctr : Ctr} (hC : CtrOk Try.prog ctr) (hm : Try.prog.follows .mixedOrders = true) (h_machines_none : ctr.Has sp_machines_none) : sp_machines_fits.Ok Try.prog := by
 refine spF_ok ?_
 rintro ⟨m_, x_⟩ r0 hf0
 try unfold machines_fits at hf0
 refine callOk_h (tt := TTab) (keep := true) (rs := [(4, none)]) (n := ⟨33, []⟩) (body := bd_machines_fits) TTab_ok Try.func107 rfl (by kernel_rfl) rfl rfl (by show (2 : Nat) ≤ 33; decide) fun E hE => ?_
 obtain ⟨r_, h0, hf0⟩ := bindE hf0
 have o0 := hasF h_machines_none (x := ()) h0 (loN)
 rcases bifE hf0 with ⟨c0, hf0⟩ | ⟨c0, hf0⟩
 ·obtain rfl := someE hf0
  exact awpEnd X0 TTab_ok hC hm hE 4000 (hs := (.g [] :: .a (F9_ r_) :: (rpN 10 bT []))) (x := (B true)) (ob (hasG h_machines_none) :: ob o0 :: (rpN 10 (ob c0) [])) (by kernel_rfl) (LeV.refl _)
 ·rcases bifE hf0 with ⟨c1, hf0⟩ | ⟨c1, hf0⟩
  ·have o1 := lnM F13_ m_.Rows
   rcases bifE hf0 with ⟨c2, hf0⟩ | ⟨c2, hf0⟩
   ·rcases bifE hf0 with ⟨c3, hf0⟩ | ⟨c3, hf0⟩
    ·obtain rfl := someE hf0
     exact awpEnd X0 TTab_ok hC hm hE 4000 (hs := (.g [] :: .a (F9_ r_) :: (rpN 4 bF (rpN 5 bT (aLn m_.Rows.length :: bT :: bF :: bT :: bF :: bT :: bT :: bT :: bF :: bT :: bF :: (rpN 5 bT [bF, bT, bF])))))) (x := (B (decide (x_.Out < m_.Outputs)))) (ob (hasG h_machines_none) :: ob o0 :: (rpN 4 (ob c0) (rpN 5 (ob c1) (ob o1 :: ob c1 :: ob c0 :: ob c1 :: ob c0 :: ob c2 :: ob c2 :: ob c2 :: ob c0 :: ob c2 :: ob c0 :: (rpN 5 (ob c3) [ob c0, ob c3, ob c0]))))) (by kernel_rfl) (LeV.refl _)
    ·obtain rfl := someE hf0
     exact awpEnd X0 TTab_ok hC hm hE 4000 (hs := (.g [] :: .a (F9_ r_) :: (rpN 4 bF (rpN 5 bT (aLn m_.Rows.length :: bT :: bF :: bT :: bF :: bT :: bT :: bT :: bF :: bT :: (rpN 9 bF [])))))) (x := (B false)) (ob (hasG h_machines_none) :: ob o0 :: (rpN 4 (ob c0) (rpN 5 (ob c1) (ob o1 :: ob c1 :: ob c0 :: ob c1 :: ob c0 :: ob c2 :: ob c2 :: ob c2 :: ob c0 :: ob c2 :: ob c0 :: (rpN 5 (ob c3) [ob c0, ob c3, ob c0]))))) (by kernel_rfl) (LeV.refl _)
   ·obtain rfl := someE hf0
    exact awpEnd X0 TTab_ok hC hm hE 4000 (hs := (.g [] :: .a (F9_ r_) :: (rpN 4 bF (rpN 5 bT (aLn m_.Rows.length :: bT :: bF :: bT :: (rpN 15 bF [])))))) (x := (B false)) (ob (hasG h_machines_none) :: ob o0 :: (rpN 4 (ob c0) (rpN 5 (ob c1) (ob o1 :: ob c1 :: ob c0 :: ob c1 :: ob c0 :: ob c2 :: ob c2 :: ob c2 :: ob c0 :: ob c2 :: ob c0 :: (rpN 5 oF [ob c0, oF, ob c0]))))) (by kernel_rfl) (LeV.refl _)
  ·obtain rfl := someE hf0
   exact awpEnd X0 TTab_ok hC hm hE 4000 (hs := (.g [] :: .a (F9_ r_) :: (rpN 27 bF []))) (x := (B false)) (ob (hasG h_machines_none) :: ob o0 :: (rpN 4 (ob c0) (rpN 6 (ob c1) (ob c0 :: ob c1 :: ob c0 :: oF :: oF :: oF :: ob c0 :: oF :: ob c0 :: (rpN 5 oF [ob c0, oF, ob c0]))))) (by kernel_rfl) (LeV.refl _)
noncomputable def bd_machines_Check_1 : Code := (Try.f106.body).getD .skip
noncomputable def sp_machines_Check_1 : Spec := spF (α := S_api_Edge × S_api_Machine) (ρ := Bool) 106 (fun x => [F9_ x.1, F25_ x.2]) (fun r => eB r) (fun x => machines_Check_1 x.1 x.2) [] (by
 rintro ⟨a0, a1⟩ ⟨b0, b1⟩ h
 simp only [List.cons.injEq, and_true] at h
 have e0 := EncI.inj (f := F9_) _ _ h.1
 have e1 := EncI.inj (f := F25_) _ _ h.2
 subst e0 e1
 rfl)
theorem w_machines_Check_1 {ctr : Ctr} (hC : CtrOk Try.prog ctr) (hm : Try.prog.follows .mixedOrders = true) (h_machines_fits : ctr.Has sp_machines_fits) : sp_machines_Check_1.Ok Try.prog := by
 refine spF_ok ?_
 rintro ⟨x_, x1⟩ r0 hf0
 try unfold machines_Check_1 at hf0
 refine callOk_h (tt := TTab) (keep := true) (rs := [(3, none)]) (n := ⟨8, []⟩) (body := bd_machines_Check_1) TTab_ok Try.func106 rfl (by kernel_rfl) rfl rfl (by show (2 : Nat) ≤ 8; decide) fun E hE => ?_
 obtain ⟨r_, h0, hf0⟩ := bindE hf0
 have o0 := hasF h_machines_fits (x := (x1, x_)) h0 (loC F22_ x1 <| loC F9_ x_ <| loN)
 obtain rfl := someE hf0
 exact awpEnd X0 TTab_ok hC hm hE 4000 (hs := [.g [], .a (eB r_)]) (x := (B (!r_))) [ob (hasG h_machines_fits), ob o0] (by kernel_rfl) (LeV.refl _)
noncomputable def bd_slices_IndexFunc_api_Edge_api_Edge : Code := (Try.f132.body).getD .skip
noncomputable def sp_slices_IndexFunc_api_Edge_api_Edge : Spec := spF (α := List S_api_Edge × S_api_Machine) (ρ := Int) 132 (fun x => [F13_ x.1, (eFn1 106 F25_) x.2]) (fun r => (eI .i64) r) (fun x => slices_IndexFunc_api_Edge_api_Edge x.1 x.2) [] (by
 rintro ⟨a0, a1⟩ ⟨b0, b1⟩ h
 simp only [List.cons.injEq, and_true] at h
 have e0 := EncI.inj (f := F13_) _ _ h.1
 have e1 := EncI.inj (f := (eFn1 106 F25_)) _ _ h.2
 subst e0 e1
 rfl)
abbrev ST_slices_IndexFunc_api_Edge_api_Edge_J1 : List (Nat × T) := []
abbrev ST_slices_IndexFunc_api_Edge_api_Edge_L2 (s_ : List S_api_Edge) (f_ : S_api_Machine) (x8 : Int) : List (Nat × T) := [(0, .d (eSl 2 false F9_ s_)), (1, .d (.fn 106 [.sptr (.agg [I f_.Inputs, I f_.Outputs, eSl 1 false F13_ f_.Rows])])), (7, .d (I ((s_.length : Nat) : Int))), (8, .d (I x8))]
theorem w_slices_IndexFunc_api_Edge_api_Edge {ctr : Ctr} (hC : CtrOk Try.prog ctr) (hm : Try.prog.follows .mixedOrders = true) (h_machines_Check_1 : ctr.Has sp_machines_Check_1) : sp_slices_IndexFunc_api_Edge_api_Edge.Ok Try.prog := by
 refine spF_ok ?_
 rintro ⟨s_, f_⟩ r0 hf0
 try unfold slices_IndexFunc_api_Edge_api_Edge at hf0
 refine callOk_h (tt := TTab) (keep := true) (rs := [(4, none)]) (n := ⟨19, []⟩) (body := bd_slices_IndexFunc_api_Edge_api_Edge) TTab_ok Try.func132 rfl (by kernel_rfl) rfl rfl (by show (2 : Nat) ≤ 19; decide) fun E hE => ?_
 refine awpAt X0 TTab_ok hC hm [0,1] 4000 [.cut 1] (sub [1] bd_slices_IndexFunc_api_Edge_api_Edge) (frs [1] [] bd_slices_IndexFunc_api_Edge_api_Edge []) [(0, .d (eSl 2 false F9_ s_)), (1, .d (.fn 106 [.sptr (.agg [I f_.Inputs, I f_.Outputs, eSl 1 false F13_ f_.Rows])]))] [] (by kernel_rfl) fun st0 h0 => ?_
 refine awpJoin' (X := Unit) (x := (sub [1,2] bd_slices_IndexFunc_api_Edge_api_Edge)) (y := (sub [1,1] bd_slices_IndexFunc_api_Edge_api_Edge)) (by kernel_rfl) [] [0,1] _ h0 (fun z => slices_IndexFunc_api_Edge_api_Edge_J1 = some r0) (fun z => ST_slices_IndexFunc_api_Edge_api_Edge_J1) ?_ fun J1 hJ1 => ?_
 ·rintro ⟨⟩ hf0
  unfold slices_IndexFunc_api_Edge_api_Edge_J1 at hf0
  obtain rfl := someE hf0
  exact awpEnd X0 TTab_ok hC hm hE 4000 (hs := []) (x := (I (-1))) [] (by kernel_rfl) (LeV.refl _)
 ·have o0 := lnM F9_ s_
  obtain ⟨t2, ht2, hf0⟩ := bindE hf0
  refine awpAt X0 TTab_ok hC hm [0,1,7,8] 4000 [aLn s_.length] (sub [1,2,1,0] bd_slices_IndexFunc_api_Edge_api_Edge) (frs [1,2,1,0] [J1] bd_slices_IndexFunc_api_Edge_api_Edge []) [(0, .d (eSl 2 false F9_ s_)), (1, .d (.fn 106 [.sptr (.agg [I f_.Inputs, I f_.Outputs, eSl 1 false F13_ f_.Rows])])), (7, .d (I ((s_.length : Nat) : Int))), (8, .d (I 0))] [ob o0] (by kernel_rfl) fun st0 h0 => ?_
  refine awpLoop' (X := Int × Nat) (c' := (sub [1,2,1,0,0] bd_slices_IndexFunc_api_Edge_api_Edge)) (by kernel_rfl) [0,1,7,8] (fun x => loopN (fun s => slices_IndexFunc_api_Edge_api_Edge_L2 s_ f_ s) x.2 x.1 = some t2) (fun x => x.2) (fun x => ST_slices_IndexFunc_api_Edge_api_Edge_L2 s_ f_ x.1) (0, fuel) _ h0 inferInstance ht2 ?_
  rintro ⟨x8, n2⟩ hn2 J2 hJ2
  obtain ⟨m2, lr1, rfl, hf1, hl1⟩ := loopE hn2
  try unfold slices_IndexFunc_api_Edge_api_Edge_L2 at hf1
  rcases bifE hf1 with ⟨c0, hf1⟩ | ⟨c0, hf1⟩
  ·obtain ⟨s__e, h0, hf1⟩ := bindE hf1
   have o1 := iM F9_ h0
   obtain ⟨r_, h1, hf1⟩ := bindE hf1
   have o2 := hasF h_machines_Check_1 (x := (s__e, f_)) h1 (loC F9_ s__e <| loC F25_ f_ <| loN)
   rcases bifE hf1 with ⟨c1, hf1⟩ | ⟨c1, hf1⟩
   ·obtain rfl := someE hf1
    obtain rfl := hl1
    obtain rfl := someE hf0
    exact awpEnd X0 TTab_ok hC hm hE 4000 (hs := [bT, .a (F9_ s__e), .g [], .a (eB r_), bT]) (x := (I x8)) [ob c0, ob (i0 h0), ob o1, ob (hasG h_machines_Check_1), ob o2, ob c1] (by kernel_rfl) (LeV.refl _)
   ·obtain rfl := someE hf1
    exact awpBack X0 TTab_ok hC hm [0,1,7,8] 4000 [bT, .a (F9_ s__e), .g [], .a (eB r_), bF] J2 [(0, .d (eSl 2 false F9_ s_)), (1, .d (.fn 106 [.sptr (.agg [I f_.Inputs, I f_.Outputs, eSl 1 false F13_ f_.Rows])])), (7, .d (I ((s_.length : Nat) : Int))), (8, .d (I (w64 (x8 + 1))))] [ob c0, ob (i0 h0), ob o1, ob (hasG h_machines_Check_1), ob o2, ob c1] (by kernel_rfl) fun st0 h0 => hJ2 st0 _ (w64 (x8 + 1), m2) hl1 (Nat.lt_succ_self m2) h0 inferInstance
  ·obtain rfl := someE hf1
   obtain rfl := hl1
   exact awpBack X0 TTab_ok hC hm [] 4000 [bF] J1 [] [ob c0] (by kernel_rfl) fun st0 h0 => hJ1 st0 _ () hf0 h0 inferInstance
noncomputable def bd_slices_ContainsFunc_api_Edge_api_Edge : Code := (Try.f105.body).getD .skip
noncomputable def sp_slices_ContainsFunc_api_Edge_api_Edge : Spec := spF (α := List S_api_Edge × S_api_Machine) (ρ := Bool) 105 (fun x => [F13_ x.1, (eFn1 106 F25_) x.2]) (fun r => eB r) (fun x => slices_ContainsFunc_api_Edge_api_Edge x.1 x.2) [] (by
 rintro ⟨a0, a1⟩ ⟨b0, b1⟩ h
 simp only [List.cons.injEq, and_true] at h
 have e0 := EncI.inj (f := F13_) _ _ h.1
 have e1 := EncI.inj (f := (eFn1 106 F25_)) _ _ h.2
 subst e0 e1
 rfl)
theorem w_slices_ContainsFunc_api_Edge_api_Edge {ctr : Ctr} (hC : CtrOk Try.prog ctr) (hm : Try.prog.follows .mixedOrders = true) (h_slices_IndexFunc_api_Edge_api_Edge : ctr.Has sp_slices_IndexFunc_api_Edge_api_Edge) : sp_slices_ContainsFunc_api_Edge_api_Edge.Ok Try.prog := by
 refine spF_ok ?_
 rintro ⟨s_, f_⟩ r0 hf0
 try unfold slices_ContainsFunc_api_Edge_api_Edge at hf0
 refine callOk_h (tt := TTab) (keep := true) (rs := [(4, none)]) (n := ⟨9, []⟩) (body := bd_slices_ContainsFunc_api_Edge_api_Edge) TTab_ok Try.func105 rfl (by kernel_rfl) rfl rfl (by show (2 : Nat) ≤ 9; decide) fun E hE => ?_
 have o0 := hasG h_slices_IndexFunc_api_Edge_api_Edge
 obtain ⟨r_, h0, hf0⟩ := bindE hf0
 have o1 := hasF h_slices_IndexFunc_api_Edge_api_Edge (x := (s_, f_)) h0 (loC F13_ s_ <| loC (eFn1 106 F25_) f_ <| loN)
 obtain rfl := someE hf0
 exact awpEnd X0 TTab_ok hC hm hE 4000 (hs := [.g [], .a ((eI .i64) r_)]) (x := (B (decide (r_ ≥ 0)))) [ob o0, ob o1] (by kernel_rfl) (LeV.refl _)
noncomputable def bd_machines_Check : Code := (Try.f85.body).getD .skip
noncomputable def sp_machines_Check : Spec := spF (α := S_api_Machine) (ρ := Int) 85 (fun x => [F22_ x]) (fun r => (eI .i64) r) (fun x => machines_Check x) [] (by
 rintro a0 b0 h
 simp only [List.cons.injEq, and_true] at h
 have e0 := EncI.inj (f := F22_) _ _ h
 subst e0
 rfl)
abbrev ST_machines_Check_J1 : List (Nat × T) := []
abbrev ST_machines_Check_L2 (m_ : S_api_Machine) (x36 : Int) : List (Nat × T) := [(1, .d (.sptr (F22_ m_))), (34, .d (eSl 1 false F13_ m_.Rows)), (35, .d (I ((m_.Rows.length : Nat) : Int))), (36, .d (I x36))]
theorem w_machines_Check {ctr : Ctr} (hC : CtrOk Try.prog ctr) (hm : Try.prog.follows .mixedOrders = true) (h_slices_ContainsFunc_api_Edge_api_Edge : ctr.Has sp_slices_ContainsFunc_api_Edge_api_Edge) : sp_machines_Check.Ok Try.prog := by
 refine spF_ok ?_
 rintro m_ r0 hf0
 try unfold machines_Check at hf0
 refine callOk_h (tt := TTab) (keep := true) (rs := [(2, none)]) (n := ⟨51, []⟩) (body := bd_machines_Check) TTab_ok Try.func85 rfl (by kernel_rfl) rfl rfl (by show (1 : Nat) ≤ 51; decide) fun E hE => ?_
 rcases bifE hf0 with ⟨c0, hf0⟩ | ⟨c0, hf0⟩
 ·obtain rfl := someE hf0
  exact awpEnd X0 TTab_ok hC hm hE 4000 (hs := (rpN 10 bT [])) (x := (I 3)) (rpN 4 (ob c0) (rpN 6 oT [])) (by kernel_rfl) (LeV.refl _)
 ·rcases bifE hf0 with ⟨c1, hf0⟩ | ⟨c1, hf0⟩
  ·obtain rfl := someE hf0
   exact awpEnd X0 TTab_ok hC hm hE 4000 (hs := (rpN 4 bF (rpN 6 bT []))) (x := (I 3)) (rpN 4 (ob c0) (rpN 5 (ob c1) [oT])) (by kernel_rfl) (LeV.refl _)
  ·have o0 := lnM F13_ m_.Rows
   rcases bifE hf0 with ⟨c2, hf0⟩ | ⟨c2, hf0⟩
   ·obtain rfl := someE hf0
    exact awpEnd X0 TTab_ok hC hm hE 4000 (hs := (rpN 7 bF [aLn m_.Rows.length, bF, bF, bT])) (x := (I 3)) (rpN 4 (ob c0) [ob c1, ob c1, ob c1, ob o0, ob c1, ob c1, ob c2]) (by kernel_rfl) (LeV.refl _)
   ·rcases bifE hf0 with ⟨c3, hf0⟩ | ⟨c3, hf0⟩
    ·obtain rfl := someE hf0
     exact awpEnd X0 TTab_ok hC hm hE 4000 (hs := (rpN 7 bF (aLn m_.Rows.length :: bF :: bF :: bF :: (rpN 10 bT [])))) (x := (I 1)) (rpN 4 (ob c0) (ob c1 :: ob c1 :: ob c1 :: ob o0 :: ob c1 :: ob c1 :: ob c2 :: (rpN 4 (ob c3) (rpN 6 oT [])))) (by kernel_rfl) (LeV.refl _)
    ·rcases bifE hf0 with ⟨c4, hf0⟩ | ⟨c4, hf0⟩
     ·obtain rfl := someE hf0
      exact awpEnd X0 TTab_ok hC hm hE 4000 (hs := (rpN 7 bF (aLn m_.Rows.length :: (rpN 7 bF (rpN 6 bT []))))) (x := (I 1)) (rpN 4 (ob c0) (ob c1 :: ob c1 :: ob c1 :: ob o0 :: ob c1 :: ob c1 :: ob c2 :: (rpN 4 (ob c3) (rpN 5 (ob c4) [oT])))) (by kernel_rfl) (LeV.refl _)
     ·have o1 := lnM F13_ m_.Rows
      rcases bifE hf0 with ⟨c5, hf0⟩ | ⟨c5, hf0⟩
      ·obtain rfl := someE hf0
       exact awpEnd X0 TTab_ok hC hm hE 4000 (hs := (rpN 7 bF (aLn m_.Rows.length :: (rpN 10 bF [aLn m_.Rows.length, bF, bF, bT])))) (x := (I 1)) (rpN 4 (ob c0) (ob c1 :: ob c1 :: ob c1 :: ob o0 :: ob c1 :: ob c1 :: ob c2 :: (rpN 4 (ob c3) [ob c4, ob c4, ob c4, ob o1, ob c4, ob c4, ob c5]))) (by kernel_rfl) (LeV.refl _)
      ·refine awpAt X0 TTab_ok hC hm [1] 4000 (rpN 7 bF (aLn m_.Rows.length :: (rpN 10 bF [aLn m_.Rows.length, bF, bF, bF, .cut 0]))) (sub [1,1,1] bd_machines_Check) (frs [1,1,1] [] bd_machines_Check []) [(1, .own (.box (F22_ m_)))] (rpN 4 (ob c0) (ob c1 :: ob c1 :: ob c1 :: ob o0 :: ob c1 :: ob c1 :: ob c2 :: (rpN 4 (ob c3) [ob c4, ob c4, ob c4, ob o1, ob c4, ob c4, ob c5]))) (by kernel_rfl) fun st0 h0 => ?_
       refine awpJoin' (X := Unit) (x := (sub [1,1,1,2] bd_machines_Check)) (y := (sub [1,1,1,1] bd_machines_Check)) (by kernel_rfl) [] [1] _ h0 (fun z => machines_Check_J1 = some r0) (fun z => ST_machines_Check_J1) ?_ fun J1 hJ1 => ?_
       ·rintro ⟨⟩ hf0
        unfold machines_Check_J1 at hf0
        obtain rfl := someE hf0
        exact awpEnd X0 TTab_ok hC hm hE 4000 (hs := []) (x := (I 0)) [] (by kernel_rfl) (LeV.refl _)
       ·have o2 := lnM F13_ m_.Rows
        obtain ⟨t2, ht2, hf0⟩ := bindE hf0
        refine awpAt X0 TTab_ok hC hm [1,34,35,36] 4000 [aLn m_.Rows.length, .n 1 [1]] (sub [1,1,1,2,1,0] bd_machines_Check) (frs [1,1,1,2,1,0] [J1] bd_machines_Check []) [(1, .d (.sptr (F22_ m_))), (34, .d (eSl 1 false F13_ m_.Rows)), (35, .d (I ((m_.Rows.length : Nat) : Int))), (36, .d (I 0))] [ob o2] (by kernel_rfl) fun st0 h0 => ?_
        refine awpLoop' (X := Int × Nat) (c' := (sub [1,1,1,2,1,0,0] bd_machines_Check)) (by kernel_rfl) [1,34,35,36] (fun x => loopN (fun s => machines_Check_L2 m_ s) x.2 x.1 = some t2) (fun x => x.2) (fun x => ST_machines_Check_L2 m_ x.1) (0, fuel) _ h0 inferInstance ht2 ?_
        rintro ⟨x36, n2⟩ hn2 J2 hJ2
        obtain ⟨m2, lr1, rfl, hf1, hl1⟩ := loopE hn2
        try unfold machines_Check_L2 at hf1
        rcases bifE hf1 with ⟨c6, hf1⟩ | ⟨c6, hf1⟩
        ·obtain ⟨Row_e, h0, hf1⟩ := bindE hf1
         have o3 := iM F13_ h0
         have o4 := lnM F9_ Row_e
         rcases bifE hf1 with ⟨c7, hf1⟩ | ⟨c7, hf1⟩
         ·obtain rfl := someE hf1
          obtain rfl := hl1
          obtain rfl := someE hf0
          exact awpEnd X0 TTab_ok hC hm hE 4000 (hs := (bT :: .a (F13_ Row_e) :: aLn Row_e.length :: (rpN 5 bT []))) (x := (I 1)) (ob c6 :: ob (i0 h0) :: ob o3 :: ob o4 :: (rpN 4 (ob c7) [oT])) (by kernel_rfl) (LeV.refl _)
         ·have o5 := hasG h_slices_ContainsFunc_api_Edge_api_Edge
          obtain ⟨r_, h1, hf1⟩ := bindE hf1
          have o6 := hasF h_slices_ContainsFunc_api_Edge_api_Edge (x := (Row_e, m_)) h1 (loC F13_ Row_e <| loC (eFn1 106 F25_) m_ <| loN)
          rcases bifE hf1 with ⟨c8, hf1⟩ | ⟨c8, hf1⟩
          ·obtain rfl := someE hf1
           obtain rfl := hl1
           obtain rfl := someE hf0
           exact awpEnd X0 TTab_ok hC hm hE 4000 (hs := [bT, .a (F13_ Row_e), aLn Row_e.length, bF, bF, bF, .g [], .a (eB r_), bF, bT]) (x := (I 1)) [ob c6, ob (i0 h0), ob o3, ob o4, ob c7, ob c7, ob c7, ob o5, ob o6, ob c7, ob c8] (by kernel_rfl) (LeV.refl _)
          ·obtain rfl := someE hf1
           exact awpBack X0 TTab_ok hC hm [1,34,35,36] 4000 [bT, .a (F13_ Row_e), aLn Row_e.length, bF, bF, bF, .g [], .a (eB r_), bF, bF] J2 [(1, .d (.sptr (F22_ m_))), (34, .d (eSl 1 false F13_ m_.Rows)), (35, .d (I ((m_.Rows.length : Nat) : Int))), (36, .d (I (w64 (x36 + 1))))] [ob c6, ob (i0 h0), ob o3, ob o4, ob c7, ob c7, ob c7, ob o5, ob o6, ob c7, ob c8] (by kernel_rfl) fun st0 h0 => hJ2 st0 _ (w64 (x36 + 1), m2) hl1 (Nat.lt_succ_self m2) h0 inferInstance
        ·obtain rfl := someE hf1
         obtain rfl := hl1
         exact awpBack X0 TTab_ok hC hm [] 4000 [bF] J1 [] [ob c6] (by kernel_rfl) fun st0 h0 => hJ1 st0 _ () hf0 h0 inferInstance
noncomputable def bd_cmp_Or_api_Errno : Code := (Try.f95.body).getD .skip
noncomputable def sp_cmp_Or_api_Errno : Spec := spF (α := List Int) (ρ := Int) 95 (fun x => [F5_ x]) (fun r => (eI .i64) r) (fun x => cmp_Or_api_Errno x) [] (by
 rintro a0 b0 h
 simp only [List.cons.injEq, and_true] at h
 have e0 := EncI.inj (f := F5_) _ _ h
 subst e0
 rfl)
abbrev ST_cmp_Or_api_Errno_J1 : List (Nat × T) := [(3, .d (I 0))]
abbrev ST_cmp_Or_api_Errno_L2 (vals : List Int) (x8 : Int) : List (Nat × T) := [(3, .d (I 0)), (6, .d (eSl 1 false (eI .i64) vals)), (7, .d (I ((vals.length : Nat) : Int))), (8, .d (I x8))]
theorem w_cmp_Or_api_Errno {ctr : Ctr} (hC : CtrOk Try.prog ctr) (hm : Try.prog.follows .mixedOrders = true) : sp_cmp_Or_api_Errno.Ok Try.prog := by
 refine spF_ok ?_
 rintro vals r0 hf0
 try unfold cmp_Or_api_Errno at hf0
 refine callOk_h (tt := TTab) (keep := true) (rs := [(2, none)]) (n := ⟨18, []⟩) (body := bd_cmp_Or_api_Errno) TTab_ok Try.func95 rfl (by kernel_rfl) rfl rfl (by show (1 : Nat) ≤ 18; decide) fun E hE => ?_
 refine awpAt X0 TTab_ok hC hm [0,3] 4000 [.cut 2] (sub [1,1] bd_cmp_Or_api_Errno) (frs [1,1] [] bd_cmp_Or_api_Errno []) [(0, .d (eSl 1 false (eI .i64) vals)), (3, .d (I 0))] [] (by kernel_rfl) fun st0 h0 => ?_
 refine awpJoin' (X := Unit) (x := (sub [1,1,2] bd_cmp_Or_api_Errno)) (y := (sub [1,1,1] bd_cmp_Or_api_Errno)) (by kernel_rfl) [3] [0,3] _ h0 (fun z => cmp_Or_api_Errno_J1 = some r0) (fun z => ST_cmp_Or_api_Errno_J1) ?_ fun J1 hJ1 => ?_
 ·rintro ⟨⟩ hf0
  unfold cmp_Or_api_Errno_J1 at hf0
  obtain rfl := someE hf0
  exact awpEnd X0 TTab_ok hC hm hE 4000 (hs := []) (x := (I 0)) [] (by kernel_rfl) (LeV.refl _)
 ·obtain ⟨t2, ht2, hf0⟩ := bindE hf0
  refine awpAt X0 TTab_ok hC hm [3,6,7,8] 4000 [aLn vals.length] (sub [1,1,2,1,0] bd_cmp_Or_api_Errno) (frs [1,1,2,1,0] [J1] bd_cmp_Or_api_Errno []) [(3, .d (I 0)), (6, .d (eSl 1 false (eI .i64) vals)), (7, .d (I ((vals.length : Nat) : Int))), (8, .d (I 0))] [ob (lnM (eI .i64) vals)] (by kernel_rfl) fun st0 h0 => ?_
  refine awpLoop' (X := Int × Nat) (c' := (sub [1,1,2,1,0,0] bd_cmp_Or_api_Errno)) (by kernel_rfl) [3,6,7,8] (fun x => loopN (fun s => cmp_Or_api_Errno_L2 vals s) x.2 x.1 = some t2) (fun x => x.2) (fun x => ST_cmp_Or_api_Errno_L2 vals x.1) (0, fuel) _ h0 inferInstance ht2 ?_
  rintro ⟨x8, n2⟩ hn2 J2 hJ2
  obtain ⟨m2, lr1, rfl, hf1, hl1⟩ := loopE hn2
  try unfold cmp_Or_api_Errno_L2 at hf1
  rcases bifE hf1 with ⟨c0, hf1⟩ | ⟨c0, hf1⟩
  ·obtain ⟨val_e, h0, hf1⟩ := bindE hf1
   rcases bifE hf1 with ⟨c1, hf1⟩ | ⟨c1, hf1⟩
   ·obtain rfl := someE hf1
    obtain rfl := hl1
    obtain rfl := someE hf0
    exact awpEnd X0 TTab_ok hC hm hE 4000 (hs := [bT, .a ((eI .i64) val_e), bT]) (x := (I val_e)) [ob c0, ob (i0 h0), ob (iM (eI .i64) h0), ob c1] (by kernel_rfl) (LeV.refl _)
   ·obtain rfl := someE hf1
    exact awpBack X0 TTab_ok hC hm [3,6,7,8] 4000 [bT, .a ((eI .i64) val_e), bF] J2 [(3, .d (I 0)), (6, .d (eSl 1 false (eI .i64) vals)), (7, .d (I ((vals.length : Nat) : Int))), (8, .d (I (w64 (x8 + 1))))] [ob c0, ob (i0 h0), ob (iM (eI .i64) h0), ob c1] (by kernel_rfl) fun st0 h0 => hJ2 st0 _ (w64 (x8 + 1), m2) hl1 (Nat.lt_succ_self m2) h0 inferInstance
  ·obtain rfl := someE hf1
   obtain rfl := hl1
   exact awpBack X0 TTab_ok hC hm [3] 4000 [bF] J1 [(3, .d (I 0))] [ob c0] (by kernel_rfl) fun st0 h0 => hJ1 st0 _ () hf0 h0 inferInstance
noncomputable def bd_equals_both : Code := (Try.f70.body).getD .skip
noncomputable def sp_equals_both : Spec := spF (α := S_api_Machine × S_api_Machine) (ρ := Int) 70 (fun x => [F22_ x.1, F22_ x.2]) (fun r => (eI .i64) r) (fun x => equals_both x.1 x.2) [] (by
 rintro ⟨a0, a1⟩ ⟨b0, b1⟩ h
 simp only [List.cons.injEq, and_true] at h
 have e0 := EncI.inj (f := F22_) _ _ h.1
 have e1 := EncI.inj (f := F22_) _ _ h.2
 subst e0 e1
 rfl)
abbrev ST_equals_both_J1 (e_ : Int) : List (Nat × T) := [(5, .d (I e_))]
theorem w_equals_both {ctr : Ctr} (hC : CtrOk Try.prog ctr) (hm : Try.prog.follows .mixedOrders = true) (h_machines_Check : ctr.Has sp_machines_Check) (h_cmp_Or_api_Errno : ctr.Has sp_cmp_Or_api_Errno) : sp_equals_both.Ok Try.prog := by
 refine spF_ok ?_
 rintro ⟨a_, b_⟩ r0 hf0
 try unfold equals_both at hf0
 refine callOk_h (tt := TTab) (keep := true) (rs := [(4, none)]) (n := ⟨22, []⟩) (body := bd_equals_both) TTab_ok Try.func70 rfl (by kernel_rfl) rfl rfl (by show (2 : Nat) ≤ 22; decide) fun E hE => ?_
 obtain ⟨r_, h0, hf0⟩ := bindE hf0
 have o0 := hasF h_machines_Check (x := a_) h0 (loC F22_ a_ <| loN)
 obtain ⟨r_1, h1, hf0⟩ := bindE hf0
 have o1 := hasF h_machines_Check (x := b_) h1 (loC F22_ b_ <| loN)
 have o2 := shM (eI .i64) (eI .i64) ([r_, r_1])
 obtain ⟨r_2, h2, hf0⟩ := bindE hf0
 have o3 := hasF h_cmp_Or_api_Errno (x := [r_, r_1]) h2 (loC F2_ ([r_, r_1] : List Int) <| loN)
 refine awpAt X0 TTab_ok hC hm [2,3,5] 4000 [.g [], .a ((eI .i64) r_), .g [], .a ((eI .i64) r_1), .g [], .l (([r_, r_1]).map (eI .i64)), .a ((eI .i64) r_2), .cut 0] (sub [1,1] bd_equals_both) (frs [1,1] [] bd_equals_both []) [(2, .own (.box (F22_ a_))), (3, .own (.box (F22_ b_))), (5, .d (I r_2))] [ob (hasG h_machines_Check), ob o0, ob (hasG h_machines_Check), ob o1, ob (hasG h_cmp_Or_api_Errno), ob o2, ob o3] (by kernel_rfl) fun st0 h0 => ?_
 refine awpJoin' (X := Int) (x := (sub [1,1,2] bd_equals_both)) (y := (sub [1,1,1] bd_equals_both)) (by kernel_rfl) [5] [2,3,5] _ h0 (fun z => equals_both_J1 z = some r0) (fun z => ST_equals_both_J1 z) ?_ fun J1 hJ1 => ?_
 ·rintro e_ hf0
  unfold equals_both_J1 at hf0
  obtain rfl := someE hf0
  exact awpEnd X0 TTab_ok hC hm hE 4000 (hs := []) (x := (I e_)) [] (by kernel_rfl) (LeV.refl _)
 ·rcases bifE hf0 with ⟨c0, hf0⟩ | ⟨c0, hf0⟩
  ·rcases bifE hf0 with ⟨c1, hf0⟩ | ⟨c1, hf0⟩
   ·exact awpBack X0 TTab_ok hC hm [5] 4000 (rpN 7 bT []) J1 [(5, .d (I 5))] (rpN 6 (ob c0) [ob c1]) (by kernel_rfl) fun st0 h0 => hJ1 st0 _ 5 hf0 h0 inferInstance
   ·exact awpBack X0 TTab_ok hC hm [5] 4000 (rpN 6 bT [bF]) J1 [(5, .d (I r_2))] (rpN 6 (ob c0) [ob c1]) (by kernel_rfl) fun st0 h0 => hJ1 st0 _ r_2 hf0 h0 inferInstance
  ·exact awpBack X0 TTab_ok hC hm [5] 4000 (rpN 7 bF []) J1 [(5, .d (I r_2))] (rpN 6 (ob c0) [oF]) (by kernel_rfl) fun st0 h0 => hJ1 st0 _ r_2 hf0 h0 inferInstance
noncomputable def bd_equals_meets : Code := (Try.f96.body).getD .skip
noncomputable def sp_equals_meets : Spec := spF (α := S_api_Machine × S_api_Machine) (ρ := S_api_Machine × S_api_Machine) 96 (fun x => [F22_ x.1, F22_ x.2]) (fun r => (eFn2 117 F25_ F25_) r) (fun x => equals_meets x.1 x.2) [] (by
 rintro ⟨a0, a1⟩ ⟨b0, b1⟩ h
 simp only [List.cons.injEq, and_true] at h
 have e0 := EncI.inj (f := F22_) _ _ h.1
 have e1 := EncI.inj (f := F22_) _ _ h.2
 subst e0 e1
 rfl)
theorem w_equals_meets {ctr : Ctr} (hC : CtrOk Try.prog ctr) (hm : Try.prog.follows .mixedOrders = true) : sp_equals_meets.Ok Try.prog := by
 refine spF_ok ?_
 rintro ⟨a_, b_⟩ r0 hf0
 try unfold equals_meets at hf0
 refine callOk_h (tt := TTab) (keep := true) (rs := [(4, none)]) (n := ⟨6, []⟩) (body := bd_equals_meets) TTab_ok Try.func96 rfl (by kernel_rfl) rfl rfl (by show (2 : Nat) ≤ 6; decide) fun E hE => ?_
 obtain rfl := someE hf0
 exact awpEnd X0 TTab_ok hC hm hE 4000 (hs := []) (x := (.fn 117 [.sptr (.agg [I a_.Inputs, I a_.Outputs, eSl 1 false F13_ a_.Rows]), .sptr (.agg [I b_.Inputs, I b_.Outputs, eSl 1 false F13_ b_.Rows])])) [] (by kernel_rfl) (show LeV (.fn 117 [.sptr (.agg [I a_.Inputs, I a_.Outputs, eSl 1 false F13_ a_.Rows]), .sptr (.agg [I b_.Inputs, I b_.Outputs, eSl 1 false F13_ b_.Rows])]) (.fn 117 [.sptr (.agg [I (((a_, b_).1).Inputs), I (((a_, b_).1).Outputs), eSl 1 false F13_ (((a_, b_).1).Rows)]), .sptr (.agg [I (((a_, b_).2).Inputs), I (((a_, b_).2).Outputs), eSl 1 false F13_ (((a_, b_).2).Rows)])]) from inferInstance)
noncomputable def bd_equals_meets_1 : Code := (Try.f117.body).getD .skip
abbrev ST_equals_meets_1_J2 {σ : Type} (x0 : S_api_Machine) (x1 : S_api_Machine) (YY : σ → Opq1) (at_ : Int) (sg2 : σ) (seen1 : List ((Arr2 Int) × Bool)) (l_1 : List S_equals_arrival) : List (Nat × T) := [(0, .own (.opq (YY sg2).q)), (1, .d (.sptr (F22_ x0))), (2, .d (.sptr (F22_ x1))), (4, .own (.opq (mapQ (entL F0_ eB seen1)))), (5, .own (eOs 4 false F15_ l_1)), (6, .d (I at_))]
abbrev ST_equals_meets_1_J4 {σ : Type} (x0 : S_api_Machine) (x1 : S_api_Machine) (YY : σ → Opq1) (at_ : Int) (l__e : S_equals_arrival) (l__e1 : S_equals_arrival) (x38 : Int) (sg4 : σ) (seen3 : List ((Arr2 Int) × Bool)) (l_3 : List S_equals_arrival) : List (Nat × T) := [(0, .own (.opq (YY sg4).q)), (1, .d (.sptr (F22_ x0))), (2, .d (.sptr (F22_ x1))), (4, .own (.opq (mapQ (entL F0_ eB seen3)))), (5, .own (eOs 4 false F15_ l_3)), (6, .d (I at_)), (7, .d (I l__e.pair_.e0)), (8, .d (I l__e1.pair_.e1)), (37, .d (I x0.Inputs)), (38, .d (I x38))]
abbrev ST_equals_meets_1_L3 {σ : Type} (x0 : S_api_Machine) (x1 : S_api_Machine) (YY : σ → Opq1) (at_ : Int) (l__e : S_equals_arrival) (l__e1 : S_equals_arrival) (sg3 : σ) (seen2 : List ((Arr2 Int) × Bool)) (l_2 : List S_equals_arrival) (x38 : Int) : List (Nat × T) := [(0, .own (.opq (YY sg3).q)), (1, .d (.sptr (F22_ x0))), (2, .d (.sptr (F22_ x1))), (4, .own (.opq (mapQ (entL F0_ eB seen2)))), (5, .own (eOs 4 false F15_ l_2)), (6, .d (I at_)), (7, .d (I l__e.pair_.e0)), (8, .d (I l__e1.pair_.e1)), (37, .d (I x0.Inputs)), (38, .d (I x38))]
abbrev ST_equals_meets_1_L1 {σ : Type} (x0 : S_api_Machine) (x1 : S_api_Machine) (YY : σ → Opq1) (sg1 : σ) (seen : List ((Arr2 Int) × Bool)) (l_ : List S_equals_arrival) (at_ : Int) : List (Nat × T) := [(0, .own (.opq (YY sg1).q)), (1, .d (.sptr (F22_ x0))), (2, .d (.sptr (F22_ x1))), (4, .own (.opq (mapQ (entL F0_ eB seen)))), (5, .own (eOs 4 false F15_ l_)), (6, .d (I at_))]
theorem w_equals_meets_1 {ctr : Ctr} (hC : CtrOk Try.prog ctr) (hm : Try.prog.follows .mixedOrders = true) (x0 : S_api_Machine) (x1 : S_api_Machine) : IterF Try.prog (.fn 117 [.sptr (.agg [I x0.Inputs, I x0.Outputs, eSl 1 false F13_ x0.Rows]), .sptr (.agg [I x1.Inputs, I x1.Outputs, eSl 1 false F13_ x1.Rows])]) (fun (x : S_equals_meet × List S_equals_arrival) (bb : Bool) (vv : Value) => [F24_ x.1, bif bb then .atom vv else F20_ x.2]) (@equals_meets_1 x0 x1) := by
 refine iterF_h (tt := TTab) (nt := 95) (body := bd_equals_meets_1) TTab_ok Try.func117 rfl (by kernel_rfl) rfl rfl (by show (3 : Nat) ≤ 95; decide) ?_
 intro σ yv YY yy hy sg r0 hf0 E hE
 unfold equals_meets_1 at hf0
 have o0 := (⟨rfl, rfl, rfl, rfl, ent_ok (fun _ => rfl) ([] : List ((Arr2 Int) × Bool))⟩ : T.own (.opq (mapQ (entL F0_ eB ([] : List ((Arr2 Int) × Bool))))) = T.own (.opq (mapQ (entL F0_ eB ([] : List ((Arr2 Int) × Bool))))) ∧ 1 = 1 ∧ (okAgg [.i64, .i64]) (F0_ (Arr2.mk 0 0)) = true ∧ (eB true).isD = true ∧ ∀ p ∈ entL F0_ eB ([] : List ((Arr2 Int) × Bool)), (okAgg [.i64, .i64]) p.1 = true)
 have o1 := put_set (f := F0_) (g := eB) (Arr2.mk 0 0) true ([] : List ((Arr2 Int) × Bool))
 obtain ⟨t1, ht1, hf0⟩ := bindE hf0
 refine awpAt ((xUpd mt_130 13 (entL F0_ eB ([] : List ((Arr2 Int) × Bool))) (entL F0_ eB (mset ([] : List ((Arr2 Int) × Bool)) (Arr2.mk 0 0) true))).or ((xMake Try.prog 13).or X0)) TTab_ok hC hm [0,1,2,4,5,6] 4000 [] (sub [1,1,1,0] bd_equals_meets_1) (frs [1,1,1,0] [] bd_equals_meets_1 []) [(0, .own (.opq (YY sg).q)), (1, .d (.sptr (F22_ x0))), (2, .d (.sptr (F22_ x1))), (4, .own (.opq (mapQ (entL F0_ eB (mset ([] : List ((Arr2 Int) × Bool)) (Arr2.mk 0 0) true))))), (5, .own (eOs 4 true F15_ ([(S_equals_arrival.mk (Arr2.mk 0 0) (-1) 0)]))), (6, .d (I 0))] [ob o0, ob o1] (by kernel_rfl) fun st0 h0 => ?_
 refine awpLoop' (X := (σ × (List ((Arr2 Int) × Bool)) × List S_equals_arrival × Int) × Nat) (c' := (sub [1,1,1,0,0] bd_equals_meets_1)) (by kernel_rfl) [0,1,2,4,5,6] (fun x => loopN (fun s => equals_meets_1_L1 x0 x1 yy s.1 s.2.1 s.2.2.1 s.2.2.2) x.2 x.1 = some t1) (fun x => x.2) (fun x => ST_equals_meets_1_L1 x0 x1 YY x.1.1 x.1.2.1 x.1.2.2.1 x.1.2.2.2) ((sg, (mset ([] : List ((Arr2 Int) × Bool)) (Arr2.mk 0 0) true), ([(S_equals_arrival.mk (Arr2.mk 0 0) (-1) 0)] : List S_equals_arrival), 0), fuel) _ h0 inferInstance ht1 ?_
 rintro ⟨⟨sg1, seen, l_, at_⟩, n1⟩ hn1 J1 hJ1
 obtain ⟨m1, lr1, rfl, hf1, hl1⟩ := loopE hn1
 try unfold equals_meets_1_L1 at hf1
 have o2 := lnM F15_ l_
 rcases bifE hf1 with ⟨c0, hf1⟩ | ⟨c0, hf1⟩
 ·refine awpAt X0 TTab_ok hC hm [0,1,2,4,5,6] 4000 [aLn l_.length, bT, .cut 0] (sub [1,1,1,0,0,1] bd_equals_meets_1) (frs [1,1,1,0,0,1] [J1] bd_equals_meets_1 []) [(0, .own (.opq (YY sg1).q)), (1, .d (.sptr (F22_ x0))), (2, .d (.sptr (F22_ x1))), (4, .own (.opq (mapQ (entL F0_ eB seen)))), (5, .own (eOs 4 false F15_ l_)), (6, .d (I at_))] [ob o2, ob c0] (by kernel_rfl) fun st0 h0 => ?_
  refine awpJoin' (X := σ × (List ((Arr2 Int) × Bool)) × List S_equals_arrival) (x := (sub [1,1,1,0,0,1,2] bd_equals_meets_1)) (y := (sub [1,1,1,0,0,1,1] bd_equals_meets_1)) (by kernel_rfl) [0,1,2,4,5,6] [0,1,2,4,5,6] _ h0 (fun z => equals_meets_1_J2 at_ z.1 z.2.1 z.2.2 = some lr1) (fun z => ST_equals_meets_1_J2 x0 x1 YY at_ z.1 z.2.1 z.2.2) ?_ fun J2 hJ2 => ?_
  ·rintro ⟨sg2, seen1, l_1⟩ hf1
   unfold equals_meets_1_J2 at hf1
   obtain rfl := someE hf1
   exact awpBack X0 TTab_ok hC hm [0,1,2,4,5,6] 4000 [] J1 [(0, .own (.opq (YY sg2).q)), (1, .d (.sptr (F22_ x0))), (2, .d (.sptr (F22_ x1))), (4, .own (.opq (mapQ (entL F0_ eB seen1)))), (5, .own (eOs 4 false F15_ l_1)), (6, .d (I (w64 (at_ + 1))))] [] (by kernel_rfl) fun st0 h0 => hJ1 st0 _ ((sg2, seen1, l_1, w64 (at_ + 1)), m1) hl1 (Nat.lt_succ_self m1) h0 inferInstance
  ·obtain ⟨l__e, h0, hf1⟩ := bindE hf1
   have o3 := iL F15_ h0
   have o4 := iM F15_ h0
   have o5 := iM F15_ h0
   have o6 := (⟨rfl, by decide⟩ : true = true ∧ 0 < 2)
   have o7 := iM F15_ h0
   obtain ⟨l__e1, h1, hf1⟩ := bindE hf1
   have o8 := iL F15_ h1
   have o9 := iM F15_ h1
   have o10 := iM F15_ h1
   have o11 := (⟨rfl, by decide⟩ : true = true ∧ 1 < 2)
   have o12 := iM F15_ h1
   obtain ⟨t3, ht3, hf1⟩ := bindE hf1
   refine awpAt X0 TTab_ok hC hm [0,1,2,4,5,6,7,8,37,38] 4000 [.a (F15_ l__e), .a (F15_ l__e), .a (F15_ l__e), .a (F15_ l__e1), .a (F15_ l__e1), .a (F15_ l__e1)] (sub [1,1,1,0,0,1,2,0,1,1,0] bd_equals_meets_1) (frs [1,1,1,0,0,1,2,0,1,1,0] [J1, J2] bd_equals_meets_1 []) [(0, .own (.opq (YY sg1).q)), (1, .d (.sptr (F22_ x0))), (2, .d (.sptr (F22_ x1))), (4, .own (.opq (mapQ (entL F0_ eB seen)))), (5, .own (eOs 4 false F15_ l_)), (6, .d (I at_)), (7, .d (I l__e.pair_.e0)), (8, .d (I l__e1.pair_.e1)), (37, .d (I x0.Inputs)), (38, .d (I 0))] [ob o3, ob o4, ob o5, ob o6, ob o7, ob o8, ob o9, ob o10, ob o11, ob o12] (by kernel_rfl) fun st0 h0 => ?_
   refine awpLoop' (X := (σ × (List ((Arr2 Int) × Bool)) × List S_equals_arrival × Int) × Nat) (c' := (sub [1,1,1,0,0,1,2,0,1,1,0,0] bd_equals_meets_1)) (by kernel_rfl) [0,1,2,4,5,6,7,8,37,38] (fun x => loopN (fun s => equals_meets_1_L3 x0 x1 yy at_ l__e l__e1 s.1 s.2.1 s.2.2.1 s.2.2.2) x.2 x.1 = some t3) (fun x => x.2) (fun x => ST_equals_meets_1_L3 x0 x1 YY at_ l__e l__e1 x.1.1 x.1.2.1 x.1.2.2.1 x.1.2.2.2) ((sg1, seen, l_, 0), fuel) _ h0 inferInstance ht3 ?_
   rintro ⟨⟨sg3, seen2, l_2, x38⟩, n3⟩ hn3 J3 hJ3
   obtain ⟨m3, lr2, rfl, hf2, hl2⟩ := loopE hn3
   try unfold equals_meets_1_L3 at hf2
   rcases bifE hf2 with ⟨c1, hf2⟩ | ⟨c1, hf2⟩
   ·refine awpAt X0 TTab_ok hC hm [0,1,2,4,5,6,7,8,37,38] 4000 [bT, .cut 0] (sub [1,1,1,0,0,1,2,0,1,1,0,0,1,1] bd_equals_meets_1) (frs [1,1,1,0,0,1,2,0,1,1,0,0,1,1] [J1, J2, J3] bd_equals_meets_1 []) [(0, .own (.opq (YY sg3).q)), (1, .d (.sptr (F22_ x0))), (2, .d (.sptr (F22_ x1))), (4, .own (.opq (mapQ (entL F0_ eB seen2)))), (5, .own (eOs 4 false F15_ l_2)), (6, .d (I at_)), (7, .d (I l__e.pair_.e0)), (8, .d (I l__e1.pair_.e1)), (37, .d (I x0.Inputs)), (38, .d (I x38))] [ob c1] (by kernel_rfl) fun st0 h0 => ?_
    refine awpJoin' (X := σ × (List ((Arr2 Int) × Bool)) × List S_equals_arrival) (x := (sub [1,1,1,0,0,1,2,0,1,1,0,0,1,1,2] bd_equals_meets_1)) (y := (sub [1,1,1,0,0,1,2,0,1,1,0,0,1,1,1] bd_equals_meets_1)) (by kernel_rfl) [0,1,2,4,5,6,7,8,37,38] [0,1,2,4,5,6,7,8,37,38] _ h0 (fun z => equals_meets_1_J4 x38 z.1 z.2.1 z.2.2 = some lr2) (fun z => ST_equals_meets_1_J4 x0 x1 YY at_ l__e l__e1 x38 z.1 z.2.1 z.2.2) ?_ fun J4 hJ4 => ?_
    ·rintro ⟨sg4, seen3, l_3⟩ hf2
     unfold equals_meets_1_J4 at hf2
     obtain rfl := someE hf2
     exact awpBack X0 TTab_ok hC hm [0,1,2,4,5,6,7,8,37,38] 4000 [] J3 [(0, .own (.opq (YY sg4).q)), (1, .d (.sptr (F22_ x0))), (2, .d (.sptr (F22_ x1))), (4, .own (.opq (mapQ (entL F0_ eB seen3)))), (5, .own (eOs 4 false F15_ l_3)), (6, .d (I at_)), (7, .d (I l__e.pair_.e0)), (8, .d (I l__e1.pair_.e1)), (37, .d (I x0.Inputs)), (38, .d (I (w64 (x38 + 1))))] [] (by kernel_rfl) fun st0 h0 => hJ3 st0 _ ((sg4, seen3, l_3, w64 (x38 + 1)), m3) hl2 (Nat.lt_succ_self m3) h0 inferInstance
    ·obtain ⟨Row_e, h2, hf2⟩ := bindE hf2
     have o13 := iM F13_ h2
     obtain ⟨Row_e_e, h3, hf2⟩ := bindE hf2
     have o14 := iM F9_ h3
     obtain ⟨Row_e1, h4, hf2⟩ := bindE hf2
     have o15 := iM F13_ h4
     obtain ⟨Row_e_e1, h5, hf2⟩ := bindE hf2
     have o16 := iM F9_ h5
     refine awpAt X0 TTab_ok hC hm [0,1,2,4,5,6,7,8,9,10,11,37,38] 4000 [.a (F13_ Row_e), .a (F9_ Row_e_e), .a (F13_ Row_e1), .a (F9_ Row_e_e1), .cut 1] (sub [1,1,1,0,0,1,2,0,1,1,0,0,1,1,2,0,1,1,0] bd_equals_meets_1) (frs [1,1,1,0,0,1,2,0,1,1,0,0,1,1,2,0,1,1,0] [J1, J2, J3, J4] bd_equals_meets_1 []) [(0, .own (.opq (YY sg3).q)), (1, .d (.sptr (F22_ x0))), (2, .d (.sptr (F22_ x1))), (4, .own (.opq (mapQ (entL F0_ eB seen2)))), (5, .own (eOs 4 false F15_ l_2)), (6, .d (I at_)), (7, .d (I l__e.pair_.e0)), (8, .d (I l__e1.pair_.e1)), (9, .d (I x38)), (10, .own (.box (F9_ Row_e_e))), (11, .own (.box (F9_ Row_e_e1))), (37, .d (I x0.Inputs)), (38, .d (I x38))] [ob (i0 h2), ob o13, ob (i0 h3), ob o14, ob (i0 h4), ob o15, ob (i0 h5), ob o16] (by kernel_rfl) fun st0 h0 => awpOf h0 ?_
     have o17 := shM F15_ F15_ l_2
     obtain ⟨yr, h6, hf2⟩ := bindE hf2
     rcases bifE hf2 with ⟨c2, hf2⟩ | ⟨c2, hf2⟩
     ·refine awpPinSeq (by kernel_rfl) (x := (sub [1,1,1,0,0,1,2,0,1,1,0,0,1,1,2,0,1,1,0,0] bd_equals_meets_1)) (y := (sub [1,1,1,0,0,1,2,0,1,1,0,0,1,1,2,0,1,1,0,1] bd_equals_meets_1)) 5 (fun st1 => Own.canon [0,1,2,4,5,6,7,8,9,10,11,37,38,65] st1 = ofL [(0, .own (.opq (YY yr.1).q)), (1, .d (.sptr (F22_ x0))), (2, .d (.sptr (F22_ x1))), (4, .own (.opq (mapQ (entL F0_ eB seen2)))), (5, .own (eOs 4 false F15_ l_2)), (6, .d (I at_)), (7, .d (I l__e.pair_.e0)), (8, .d (I l__e1.pair_.e1)), (9, .d (I x38)), (10, .own (.box (F9_ Row_e_e))), (11, .own (.box (F9_ Row_e_e1))), (37, .d (I x0.Inputs)), (38, .d (I x38)), (65, .d (B (!true)))]) (fun pv5 => awpFin ((xYield (P := Try.prog) TTab hy 64 (s := sg3) (x := ((S_equals_meet.mk at_ x38 Row_e_e Row_e_e1), l_2)) (s' := yr.1) (b := true) (pv5) (yrE h6 c2)).or X0) TTab_ok hC hm [0,1,2,4,5,6,7,8,9,10,11,37,38,65] 4000 [] .normal [(0, .own (.opq (YY yr.1).q)), (1, .d (.sptr (F22_ x0))), (2, .d (.sptr (F22_ x1))), (4, .own (.opq (mapQ (entL F0_ eB seen2)))), (5, .own (eOs 4 false F15_ l_2)), (6, .d (I at_)), (7, .d (I l__e.pair_.e0)), (8, .d (I l__e1.pair_.e1)), (9, .d (I x38)), (10, .own (.box (F9_ Row_e_e))), (11, .own (.box (F9_ Row_e_e1))), (37, .d (I x0.Inputs)), (38, .d (I x38)), (65, .d (B (!true)))] [ob (tabY_at (yv := yv) (Y := YY) (enc := (fun (x : S_equals_meet × List S_equals_arrival) (bb : Bool) (vv : Value) => [F24_ x.1, bif bb then .atom vv else F20_ x.2])) (s := sg3) (x := ((S_equals_meet.mk at_ x38 Row_e_e Row_e_e1), l_2)) (s' := yr.1) (b := true) (v := pv5) [F24_ (S_equals_meet.mk at_ x38 Row_e_e Row_e_e1), .atom pv5] (show LeTs [F24_ (S_equals_meet.mk at_ x38 Row_e_e Row_e_e1), .atom pv5] [F24_ (S_equals_meet.mk at_ x38 Row_e_e Row_e_e1), .atom pv5] from inferInstance))] (by kernel_rfl) fun st0 h0 => ⟨rfl, h0⟩) fun st1 h1 => awpOf h1 ?_
      rcases bifE hf2 with ⟨c3, hf2⟩ | ⟨c3, hf2⟩
      ·rcases bifE hf2 with ⟨c4, hf2⟩ | ⟨c4, hf2⟩
       ·have o18 := (⟨rfl, rfl, ent_ok (fun _ => rfl) seen2⟩ : A.opq (mapQ (entL F0_ eB seen2)) = A.opq (mapQ (entL F0_ eB seen2)) ∧ (okAgg [.i64, .i64]) (F0_ (Arr2.mk Row_e_e.To Row_e_e1.To)) = true ∧ ∀ p ∈ entL F0_ eB seen2, (okAgg [.i64, .i64]) p.1 = true)
        obtain ⟨val, h7, hf2⟩ := bindE hf2
        replace h7 := someE h7
        have o19 := (get1 (f := F0_) (g := eB) (z0 := false) (z := .atom (.bool false)) rfl (Arr2.mk Row_e_e.To Row_e_e1.To) seen2).trans (congrArg eB h7)
        rcases bifE hf2 with ⟨c5, hf2⟩ | ⟨c5, hf2⟩
        ·have o20 := (⟨rfl, rfl, rfl, rfl, ent_ok (fun _ => rfl) seen2⟩ : T.own (.opq (mapQ (entL F0_ eB seen2))) = T.own (.opq (mapQ (entL F0_ eB seen2))) ∧ 0 = 0 ∧ (okAgg [.i64, .i64]) (F0_ (Arr2.mk Row_e_e.To Row_e_e1.To)) = true ∧ (eB true).isD = true ∧ ∀ p ∈ entL F0_ eB seen2, (okAgg [.i64, .i64]) p.1 = true)
         have o21 := put_set (f := F0_) (g := eB) (Arr2.mk Row_e_e.To Row_e_e1.To) true seen2
         have o22 := dM F15_ ([(S_equals_arrival.mk (Arr2.mk Row_e_e.To Row_e_e1.To) at_ x38)] : List S_equals_arrival)
         have o23 := dM F15_ ([(S_equals_arrival.mk (Arr2.mk Row_e_e.To Row_e_e1.To) at_ x38)] : List S_equals_arrival)
         obtain ⟨g0, hf2⟩ := gdE hf2
         have o24 := aL F15_ F15_ g0
         have o25 := aM F15_ l_2 ([(S_equals_arrival.mk (Arr2.mk Row_e_e.To Row_e_e1.To) at_ x38)] : List S_equals_arrival)
         exact awpBack ((xUpd mt_130 85 (entL F0_ eB seen2) (entL F0_ eB (mset seen2 (Arr2.mk Row_e_e.To Row_e_e1.To) true))).or ((xLook mt_130 82 (entL F0_ eB seen2)).or X0)) TTab_ok hC hm [0,1,2,4,5,6,7,8,37,38] 4000 (bF :: (rpN 7 bT (.a (eB val) :: (rpN 4 bT [.l ((l_2 ++ ([(S_equals_arrival.mk (Arr2.mk Row_e_e.To Row_e_e1.To) at_ x38)] : List S_equals_arrival)).map F15_)])))) J4 [(0, .own (.opq (YY yr.1).q)), (1, .d (.sptr (F22_ x0))), (2, .d (.sptr (F22_ x1))), (4, .own (.opq (mapQ (entL F0_ eB (mset seen2 (Arr2.mk Row_e_e.To Row_e_e1.To) true))))), (5, .own (eOs 4 false F15_ (l_2 ++ ([(S_equals_arrival.mk (Arr2.mk Row_e_e.To Row_e_e1.To) at_ x38)] : List S_equals_arrival)))), (6, .d (I at_)), (7, .d (I l__e.pair_.e0)), (8, .d (I l__e1.pair_.e1)), (37, .d (I x0.Inputs)), (38, .d (I x38))] (ob (congrArg Bool.not (Eq.refl true)) :: (rpN 4 (ob c3) [ob c4, ob c4, ob c4, ob o18, ob o19, ob c4, ob c4, ob c5, ob o20, ob o21, ob o22, ob o23, ob o24, ob o25])) (by kernel_rfl) fun st0 h0 => hJ4 st0 _ (yr.1, (mset seen2 (Arr2.mk Row_e_e.To Row_e_e1.To) true), (l_2 ++ ([(S_equals_arrival.mk (Arr2.mk Row_e_e.To Row_e_e1.To) at_ x38)] : List S_equals_arrival))) hf2 h0 inferInstance
        ·exact awpBack ((xLook mt_130 82 (entL F0_ eB seen2)).or X0) TTab_ok hC hm [0,1,2,4,5,6,7,8,37,38] 4000 (bF :: (rpN 7 bT [.a (eB val), bT, bT, bF])) J4 [(0, .own (.opq (YY yr.1).q)), (1, .d (.sptr (F22_ x0))), (2, .d (.sptr (F22_ x1))), (4, .own (.opq (mapQ (entL F0_ eB seen2)))), (5, .own (eOs 4 false F15_ l_2)), (6, .d (I at_)), (7, .d (I l__e.pair_.e0)), (8, .d (I l__e1.pair_.e1)), (37, .d (I x0.Inputs)), (38, .d (I x38))] (ob (congrArg Bool.not (Eq.refl true)) :: (rpN 4 (ob c3) [ob c4, ob c4, ob c4, ob o18, ob o19, ob c4, ob c4, ob c5])) (by kernel_rfl) fun st0 h0 => hJ4 st0 _ (yr.1, seen2, l_2) hf2 h0 inferInstance
       ·exact awpBack X0 TTab_ok hC hm [0,1,2,4,5,6,7,8,37,38] 4000 (bF :: (rpN 4 bT (rpN 6 bF []))) J4 [(0, .own (.opq (YY yr.1).q)), (1, .d (.sptr (F22_ x0))), (2, .d (.sptr (F22_ x1))), (4, .own (.opq (mapQ (entL F0_ eB seen2)))), (5, .own (eOs 4 false F15_ l_2)), (6, .d (I at_)), (7, .d (I l__e.pair_.e0)), (8, .d (I l__e1.pair_.e1)), (37, .d (I x0.Inputs)), (38, .d (I x38))] (ob (congrArg Bool.not (Eq.refl true)) :: (rpN 4 (ob c3) (rpN 5 (ob c4) [oF]))) (by kernel_rfl) fun st0 h0 => hJ4 st0 _ (yr.1, seen2, l_2) hf2 h0 inferInstance
      ·exact awpBack X0 TTab_ok hC hm [0,1,2,4,5,6,7,8,37,38] 4000 (rpN 11 bF []) J4 [(0, .own (.opq (YY yr.1).q)), (1, .d (.sptr (F22_ x0))), (2, .d (.sptr (F22_ x1))), (4, .own (.opq (mapQ (entL F0_ eB seen2)))), (5, .own (eOs 4 false F15_ l_2)), (6, .d (I at_)), (7, .d (I l__e.pair_.e0)), (8, .d (I l__e1.pair_.e1)), (37, .d (I x0.Inputs)), (38, .d (I x38))] (ob (congrArg Bool.not (Eq.refl true)) :: (rpN 4 (ob c3) (rpN 6 oF []))) (by kernel_rfl) fun st0 h0 => hJ4 st0 _ (yr.1, seen2, l_2) hf2 h0 inferInstance
     ·have o26 := shM F15_ F15_ l_2
      have o27 := tabY_at (yv := yv) (Y := YY) (enc := (fun (x : S_equals_meet × List S_equals_arrival) (bb : Bool) (vv : Value) => [F24_ x.1, bif bb then .atom vv else F20_ x.2])) (s := sg3) (x := ((S_equals_meet.mk at_ x38 Row_e_e Row_e_e1), l_2)) (s' := yr.1) (b := false) (v := .nilFunc) [F24_ (S_equals_meet.mk at_ x38 Row_e_e Row_e_e1), F20_ l_2] (show LeTs [F24_ (S_equals_meet.mk at_ x38 Row_e_e Row_e_e1), F20_ l_2] [F24_ (S_equals_meet.mk at_ x38 Row_e_e Row_e_e1), F20_ l_2] from inferInstance)
      refine awpSeqC (by kernel_rfl) (x := (sub [1,1,1,0,0,1,2,0,1,1,0,0,1,1,2,0,1,1,0,0] bd_equals_meets_1)) (y := (sub [1,1,1,0,0,1,2,0,1,1,0,0,1,1,2,0,1,1,0,1] bd_equals_meets_1)) (fun st1 => Own.canon [0,1,2,4,5,6,7,8,9,10,11,37,38,65] st1 = ofL [(0, .own (.opq (YY yr.1).q)), (1, .d (.sptr (F22_ x0))), (2, .d (.sptr (F22_ x1))), (4, .own (.opq (mapQ (entL F0_ eB seen2)))), (5, .d (eSl 4 false F15_ l_2)), (6, .d (I at_)), (7, .d (I l__e.pair_.e0)), (8, .d (I l__e1.pair_.e1)), (9, .d (I x38)), (10, .own (.box (F9_ Row_e_e))), (11, .own (.box (F9_ Row_e_e1))), (37, .d (I x0.Inputs)), (38, .d (I x38)), (65, .d (B (!false)))]) (awpFin ((xYield (P := Try.prog) TTab hy 64 (s := sg3) (x := ((S_equals_meet.mk at_ x38 Row_e_e Row_e_e1), l_2)) (s' := yr.1) (b := false) (.nilFunc) (yrE h6 c2)).or X0) TTab_ok hC hm [0,1,2,4,5,6,7,8,9,10,11,37,38,65] 4000 [.l (l_2.map F15_)] .normal [(0, .own (.opq (YY yr.1).q)), (1, .d (.sptr (F22_ x0))), (2, .d (.sptr (F22_ x1))), (4, .own (.opq (mapQ (entL F0_ eB seen2)))), (5, .d (eSl 4 false F15_ l_2)), (6, .d (I at_)), (7, .d (I l__e.pair_.e0)), (8, .d (I l__e1.pair_.e1)), (9, .d (I x38)), (10, .own (.box (F9_ Row_e_e))), (11, .own (.box (F9_ Row_e_e1))), (37, .d (I x0.Inputs)), (38, .d (I x38)), (65, .d (B (!false)))] [ob o26, ob o27] (by kernel_rfl) fun st0 h0 => ⟨rfl, h0⟩) fun st1 h1 => awpOf h1 ?_
      obtain rfl := someE hf2
      obtain rfl := hl2
      obtain rfl := someE hf1
      obtain rfl := hl1
      obtain rfl := someE hf0
      exact awpFin X0 TTab_ok hC hm [0] 4000 [bT] .ret [(0, .own (.opq (YY yr.1).q))] [ob (congrArg Bool.not (Eq.refl false))] (by kernel_rfl) fun st0 h0 => hE _ st0 (.inr rfl) h0
   ·obtain rfl := someE hf2
    obtain rfl := hl2
    exact awpBack X0 TTab_ok hC hm [0,1,2,4,5,6] 4000 [bF] J2 [(0, .own (.opq (YY sg3).q)), (1, .d (.sptr (F22_ x0))), (2, .d (.sptr (F22_ x1))), (4, .own (.opq (mapQ (entL F0_ eB seen2)))), (5, .own (eOs 4 false F15_ l_2)), (6, .d (I at_))] [ob c1] (by kernel_rfl) fun st0 h0 => hJ2 st0 _ (sg3, seen2, l_2) hf1 h0 inferInstance
 ·obtain rfl := someE hf1
  obtain rfl := hl1
  obtain rfl := someE hf0
  exact awpFin X0 TTab_ok hC hm [0] 4000 [aLn l_.length, bF] .normal [(0, .own (.opq (YY sg1).q))] [ob o2, ob c0] (by kernel_rfl) fun st0 h0 => hE _ st0 (.inl rfl) h0
noncomputable def bd_slices_Clip_int_int : Code := (Try.f54.body).getD .skip
noncomputable def sp_slices_Clip_int_int : Spec := spF (α := List Int) (ρ := List Int) 54 (fun x => [F5_ x]) (fun r => F2_ r) (fun x => slices_Clip_int_int x) [] (by
 rintro a0 b0 h
 simp only [List.cons.injEq, and_true] at h
 have e0 := EncI.inj (f := F5_) _ _ h
 subst e0
 rfl)
theorem w_slices_Clip_int_int {ctr : Ctr} (hC : CtrOk Try.prog ctr) (hm : Try.prog.follows .mixedOrders = true) : sp_slices_Clip_int_int.Ok Try.prog := by
 refine spF_ok ?_
 rintro s_ r0 hf0
 try unfold slices_Clip_int_int at hf0
 refine callOk_h (tt := TTab) (keep := true) (rs := [(2, none)]) (n := ⟨9, []⟩) (body := bd_slices_Clip_int_int) TTab_ok Try.func54 rfl (by kernel_rfl) rfl rfl (by show (1 : Nat) ≤ 9; decide) fun E hE => ?_
 obtain ⟨g0, hf0⟩ := gdE hf0
 have o0 := slT1 1 (eI .i64) s_ 0 ((s_.length : Nat) : Int).toNat
 obtain rfl := someE hf0
 exact awpEnd X0 TTab_ok hC hm hE 4000 (hs := [aLn s_.length, aLn s_.length, .a (eSl 1 true (eI .i64) ((s_.drop 0).take (((s_.length : Nat) : Int).toNat - 0)))]) (x := (eSl 1 true (eI .i64) ((s_.drop 0).take (((s_.length : Nat) : Int).toNat - 0)))) [ob (lnM (eI .i64) s_), ob (lnM (eI .i64) s_), ob (slB g0), ob (slC g0), ob (sl011 (eI .i64) g0), ob o0] (by kernel_rfl) (LeV.refl _)
noncomputable def bd_equals_word : Code := (Try.f97.body).getD .skip
noncomputable def sp_equals_word : Spec := spF (α := List S_equals_arrival × Int × List Int) (ρ := List Int) 97 (fun x => [F20_ x.1, (eI .i64) x.2.1, F5_ x.2.2]) (fun r => F2_ r) (fun x => equals_word x.1 x.2.1 x.2.2) [] (by
 rintro ⟨a0, a1, a2⟩ ⟨b0, b1, b2⟩ h
 simp only [List.cons.injEq, and_true] at h
 have e0 := EncI.inj (f := F20_) _ _ h.1
 have e1 := EncI.inj (f := (eI .i64)) _ _ h.2.1
 have e2 := EncI.inj (f := F5_) _ _ h.2.2
 subst e0 e1 e2
 rfl)
abbrev ST_equals_word_J1 (more1 : List Int) : List (Nat × T) := [(2, .d (eSl 1 false (eI .i64) more1))]
abbrev ST_equals_word_L2 (l_ : List S_equals_arrival) (at_1 : Int) (more2 : List Int) : List (Nat × T) := [(0, .d (eSl 4 false F15_ l_)), (1, .d (I at_1)), (2, .d (eSl 1 false (eI .i64) more2))]
theorem w_equals_word {ctr : Ctr} (hC : CtrOk Try.prog ctr) (hm : Try.prog.follows .mixedOrders = true) (h_slices_Clip_int_int : ctr.Has sp_slices_Clip_int_int) : sp_equals_word.Ok Try.prog := by
 refine spF_ok ?_
 rintro ⟨l_, at_, more⟩ r0 hf0
 try unfold equals_word at hf0
 refine callOk_h (tt := TTab) (keep := true) (rs := [(6, none)]) (n := ⟨28, []⟩) (body := bd_equals_word) TTab_ok Try.func97 rfl (by kernel_rfl) rfl rfl (by show (3 : Nat) ≤ 28; decide) fun E hE => ?_
 refine awpAt X0 TTab_ok hC hm [0,1,2] 4000 [.cut 1] (sub [1] bd_equals_word) (frs [1] [] bd_equals_word []) [(0, .d (eSl 4 false F15_ l_)), (1, .d (I at_)), (2, .d (eSl 1 false (eI .i64) more))] [] (by kernel_rfl) fun st0 h0 => ?_
 refine awpJoin' (X := List Int) (x := (sub [1,2] bd_equals_word)) (y := (sub [1,1] bd_equals_word)) (by kernel_rfl) [2] [0,1,2] _ h0 (fun z => equals_word_J1 z = some r0) (fun z => ST_equals_word_J1 z) ?_ fun J1 hJ1 => ?_
 ·rintro more1 hf0
  unfold equals_word_J1 at hf0
  obtain ⟨r_, h0, hf0⟩ := bindE hf0
  have o0 := hasF h_slices_Clip_int_int (x := more1) h0 (loC F5_ more1 <| loN)
  obtain rfl := someE hf0
  exact awpEnd X0 TTab_ok hC hm hE 4000 (hs := [.g [], .a (F2_ r_)]) (x := (eSl 1 true (eI .i64) r_)) [ob (hasG h_slices_Clip_int_int), ob o0] (by kernel_rfl) (LeV.refl _)
 ·obtain ⟨t2, ht2, hf0⟩ := bindE hf0
  refine awpAt X0 TTab_ok hC hm [0,1,2] 4000 [] (sub [1,2,0] bd_equals_word) (frs [1,2,0] [J1] bd_equals_word []) [(0, .d (eSl 4 false F15_ l_)), (1, .d (I at_)), (2, .d (eSl 1 false (eI .i64) more))] [] (by kernel_rfl) fun st0 h0 => ?_
  refine awpLoop' (X := (Int × List Int) × Nat) (c' := (sub [1,2,0,0] bd_equals_word)) (by kernel_rfl) [0,1,2] (fun x => loopN (fun s => equals_word_L2 l_ s.1 s.2) x.2 x.1 = some t2) (fun x => x.2) (fun x => ST_equals_word_L2 l_ x.1.1 x.1.2) ((at_, more), fuel) _ h0 inferInstance ht2 ?_
  rintro ⟨⟨at_1, more2⟩, n2⟩ hn2 J2 hJ2
  obtain ⟨m2, lr1, rfl, hf1, hl1⟩ := loopE hn2
  try unfold equals_word_L2 at hf1
  obtain ⟨l__e, h1, hf1⟩ := bindE hf1
  have o1 := iM F15_ h1
  rcases bifE hf1 with ⟨c0, hf1⟩ | ⟨c0, hf1⟩
  ·obtain ⟨l__e1, h2, hf1⟩ := bindE hf1
   have o2 := iM F15_ h2
   obtain ⟨g0, hf1⟩ := gdE hf1
   have o3 := aM (eI .i64) ([l__e1.input_] : List Int) more2
   have o4 := shM (eI .i64) (eI .i64) (([l__e1.input_]) ++ more2)
   obtain ⟨l__e2, h3, hf1⟩ := bindE hf1
   have o5 := iM F15_ h3
   obtain rfl := someE hf1
   exact awpBack X0 TTab_ok hC hm [0,1,2] 4000 [.a (F15_ l__e), bT, .a (F15_ l__e1), .l ((([l__e1.input_]) ++ more2).map (eI .i64)), .n 0 [2], .l ((([l__e1.input_]) ++ more2).map (eI .i64)), .a (F15_ l__e2)] J2 [(0, .d (eSl 4 false F15_ l_)), (1, .d (I l__e2.from_)), (2, .d (eSl 1 false (eI .i64) (([l__e1.input_]) ++ more2)))] [ob (i0 h1), ob o1, ob c0, ob (i0 h2), ob o2, ob (dM (eI .i64) more2), ob (aL (eI .i64) (eI .i64) g0), ob o3, ob o4, ob (i0 h3), ob o5] (by kernel_rfl) fun st0 h0 => hJ2 st0 _ ((l__e2.from_, (([l__e1.input_]) ++ more2)), m2) hl1 (Nat.lt_succ_self m2) h0 inferInstance
  ·obtain rfl := someE hf1
   obtain rfl := hl1
   exact awpBack X0 TTab_ok hC hm [2] 4000 [.a (F15_ l__e), bF] J1 [(2, .d (eSl 1 false (eI .i64) more2))] [ob (i0 h1), ob o1, ob c0] (by kernel_rfl) fun st0 h0 => hJ1 st0 _ more2 hf0 h0 inferInstance
noncomputable def bd_slices_Index_2_int_2_int : Code := (Try.f118.body).getD .skip
noncomputable def sp_slices_Index_2_int_2_int : Spec := spF (α := List (Arr2 Int) × Arr2 Int) (ρ := Int) 118 (fun x => [F8_ x.1, F0_ x.2]) (fun r => (eI .i64) r) (fun x => slices_Index_2_int_2_int x.1 x.2) [] (by
 rintro ⟨a0, a1⟩ ⟨b0, b1⟩ h
 simp only [List.cons.injEq, and_true] at h
 have e0 := EncI.inj (f := F8_) _ _ h.1
 have e1 := EncI.inj (f := F0_) _ _ h.2
 subst e0 e1
 rfl)
abbrev ST_slices_Index_2_int_2_int_J1 : List (Nat × T) := []
abbrev ST_slices_Index_2_int_2_int_L2 (s_ : List (Arr2 Int)) (v_ : Arr2 Int) (x8 : Int) : List (Nat × T) := [(0, .d (eSl 2 false F0_ s_)), (3, .own (.box (F0_ v_))), (7, .d (I ((s_.length : Nat) : Int))), (8, .d (I x8))]
theorem w_slices_Index_2_int_2_int {ctr : Ctr} (hC : CtrOk Try.prog ctr) (hm : Try.prog.follows .mixedOrders = true) : sp_slices_Index_2_int_2_int.Ok Try.prog := by
 refine spF_ok ?_
 rintro ⟨s_, v_⟩ r0 hf0
 try unfold slices_Index_2_int_2_int at hf0
 refine callOk_h (tt := TTab) (keep := true) (rs := [(4, none)]) (n := ⟨19, []⟩) (body := bd_slices_Index_2_int_2_int) TTab_ok Try.func118 rfl (by kernel_rfl) rfl rfl (by show (2 : Nat) ≤ 19; decide) fun E hE => ?_
 refine awpAt X0 TTab_ok hC hm [0,3] 4000 [.cut 1] (sub [1] bd_slices_Index_2_int_2_int) (frs [1] [] bd_slices_Index_2_int_2_int []) [(0, .d (eSl 2 false F0_ s_)), (3, .own (.box (F0_ v_)))] [] (by kernel_rfl) fun st0 h0 => ?_
 refine awpJoin' (X := Unit) (x := (sub [1,2] bd_slices_Index_2_int_2_int)) (y := (sub [1,1] bd_slices_Index_2_int_2_int)) (by kernel_rfl) [] [0,3] _ h0 (fun z => slices_Index_2_int_2_int_J1 = some r0) (fun z => ST_slices_Index_2_int_2_int_J1) ?_ fun J1 hJ1 => ?_
 ·rintro ⟨⟩ hf0
  unfold slices_Index_2_int_2_int_J1 at hf0
  obtain rfl := someE hf0
  exact awpEnd X0 TTab_ok hC hm hE 4000 (hs := []) (x := (I (-1))) [] (by kernel_rfl) (LeV.refl _)
 ·obtain ⟨t2, ht2, hf0⟩ := bindE hf0
  refine awpAt X0 TTab_ok hC hm [0,3,7,8] 4000 [aLn s_.length] (sub [1,2,1,0] bd_slices_Index_2_int_2_int) (frs [1,2,1,0] [J1] bd_slices_Index_2_int_2_int []) [(0, .d (eSl 2 false F0_ s_)), (3, .own (.box (F0_ v_))), (7, .d (I ((s_.length : Nat) : Int))), (8, .d (I 0))] [ob (lnM F0_ s_)] (by kernel_rfl) fun st0 h0 => ?_
  refine awpLoop' (X := Int × Nat) (c' := (sub [1,2,1,0,0] bd_slices_Index_2_int_2_int)) (by kernel_rfl) [0,3,7,8] (fun x => loopN (fun s => slices_Index_2_int_2_int_L2 s_ v_ s) x.2 x.1 = some t2) (fun x => x.2) (fun x => ST_slices_Index_2_int_2_int_L2 s_ v_ x.1) (0, fuel) _ h0 inferInstance ht2 ?_
  rintro ⟨x8, n2⟩ hn2 J2 hJ2
  obtain ⟨m2, lr1, rfl, hf1, hl1⟩ := loopE hn2
  try unfold slices_Index_2_int_2_int_L2 at hf1
  rcases bifE hf1 with ⟨c0, hf1⟩ | ⟨c0, hf1⟩
  ·obtain ⟨s__e, h0, hf1⟩ := bindE hf1
   rcases bifE hf1 with ⟨c1, hf1⟩ | ⟨c1, hf1⟩
   ·obtain rfl := someE hf1
    obtain rfl := hl1
    obtain rfl := someE hf0
    exact awpEnd X0 TTab_ok hC hm hE 4000 (hs := [bT, .a (F0_ s__e), bT]) (x := (I x8)) [ob c0, ob (i0 h0), ob (iM F0_ h0), ob c1] (by kernel_rfl) (LeV.refl _)
   ·obtain rfl := someE hf1
    exact awpBack X0 TTab_ok hC hm [0,3,7,8] 4000 [bT, .a (F0_ s__e), bF] J2 [(0, .d (eSl 2 false F0_ s_)), (3, .own (.box (F0_ v_))), (7, .d (I ((s_.length : Nat) : Int))), (8, .d (I (w64 (x8 + 1))))] [ob c0, ob (i0 h0), ob (iM F0_ h0), ob c1] (by kernel_rfl) fun st0 h0 => hJ2 st0 _ (w64 (x8 + 1), m2) hl1 (Nat.lt_succ_self m2) h0 inferInstance
  ·obtain rfl := someE hf1
   obtain rfl := hl1
   exact awpBack X0 TTab_ok hC hm [] 4000 [bF] J1 [] [ob c0] (by kernel_rfl) fun st0 h0 => hJ1 st0 _ () hf0 h0 inferInstance
noncomputable def bd_slices_Contains_2_int_2_int : Code := (Try.f98.body).getD .skip
noncomputable def sp_slices_Contains_2_int_2_int : Spec := spF (α := List (Arr2 Int) × Arr2 Int) (ρ := Bool) 98 (fun x => [F8_ x.1, F0_ x.2]) (fun r => eB r) (fun x => slices_Contains_2_int_2_int x.1 x.2) [] (by
 rintro ⟨a0, a1⟩ ⟨b0, b1⟩ h
 simp only [List.cons.injEq, and_true] at h
 have e0 := EncI.inj (f := F8_) _ _ h.1
 have e1 := EncI.inj (f := F0_) _ _ h.2
 subst e0 e1
 rfl)
theorem w_slices_Contains_2_int_2_int {ctr : Ctr} (hC : CtrOk Try.prog ctr) (hm : Try.prog.follows .mixedOrders = true) (h_slices_Index_2_int_2_int : ctr.Has sp_slices_Index_2_int_2_int) : sp_slices_Contains_2_int_2_int.Ok Try.prog := by
 refine spF_ok ?_
 rintro ⟨s_, v_⟩ r0 hf0
 try unfold slices_Contains_2_int_2_int at hf0
 refine callOk_h (tt := TTab) (keep := true) (rs := [(4, none)]) (n := ⟨9, []⟩) (body := bd_slices_Contains_2_int_2_int) TTab_ok Try.func98 rfl (by kernel_rfl) rfl rfl (by show (2 : Nat) ≤ 9; decide) fun E hE => ?_
 obtain ⟨r_, h0, hf0⟩ := bindE hf0
 have o0 := hasF h_slices_Index_2_int_2_int (x := (s_, v_)) h0 (loC F8_ s_ <| loC F0_ v_ <| loN)
 obtain rfl := someE hf0
 exact awpEnd X0 TTab_ok hC hm hE 4000 (hs := [.g [], .a ((eI .i64) r_)]) (x := (B (decide (r_ ≥ 0)))) [ob (hasG h_slices_Index_2_int_2_int), ob o0] (by kernel_rfl) (LeV.refl _)
noncomputable def bd_equals_differ : Code := (Try.f71.body).getD .skip
noncomputable def sp_equals_differ : Spec := spF (α := S_api_Machine × S_api_Machine) (ρ := List Int × List (Arr2 Int)) 71 (fun x => [F22_ x.1, F22_ x.2]) (fun r => .opq (tupQ [some (F2_ r.1), some ((eOs 2 false F0_) r.2)])) (fun x => equals_differ x.1 x.2) [] (by
 rintro ⟨a0, a1⟩ ⟨b0, b1⟩ h
 simp only [List.cons.injEq, and_true] at h
 have e0 := EncI.inj (f := F22_) _ _ h.1
 have e1 := EncI.inj (f := F22_) _ _ h.2
 subst e0 e1
 rfl)
abbrev ST_equals_differ_J1 (x4 : List Int) (pairs : List (Arr2 Int)) : List (Nat × T) := [(4, .own (.box (eSl 1 true (eI .i64) x4))), (5, .own (.box (eOs 2 true F0_ []))), (6, .own (.box (eOs 2 false F0_ pairs)))]
abbrev ST_equals_differ_I2 (r_ : S_api_Machine × S_api_Machine) (x41 : List Int) (pairs1 : List (Arr2 Int)) : List (Nat × T) := [(4, .own (.box (eSl 1 true (eI .i64) x41))), (5, .own (.box (eOs 2 true F0_ []))), (6, .own (.box (eOs 2 false F0_ pairs1))), (14, .d (.fn 117 [.sptr (.agg [I r_.1.Inputs, I r_.1.Outputs, eSl 1 false F13_ r_.1.Rows]), .sptr (.agg [I r_.2.Inputs, I r_.2.Outputs, eSl 1 false F13_ r_.2.Rows])]))]
theorem w_equals_differ {ctr : Ctr} (hC : CtrOk Try.prog ctr) (hm : Try.prog.follows .mixedOrders = true) (h_equals_meets : ctr.Has sp_equals_meets) (h_equals_word : ctr.Has sp_equals_word) (h_slices_Contains_2_int_2_int : ctr.Has sp_slices_Contains_2_int_2_int) : sp_equals_differ.Ok Try.prog := by
 refine spF_ok ?_
 rintro ⟨a_, b_⟩ r0 hf0
 try unfold equals_differ at hf0
 refine callOk_p (tt := TTab) (rs := [(false, 4, some 45), (true, 5, some 89)]) (n := ⟨53, []⟩) (body := bd_equals_differ) TTab_ok Try.func71 rfl (by kernel_rfl) rfl rfl (by show (2 : Nat) ≤ 53; decide) fun E hE => ?_
 refine awpAt X0 TTab_ok hC hm [2,3,4,5,6] 4000 [.v 2 [4], .l ([].map (eI .i64)), .cut 1] (sub [1,1] bd_equals_differ) (frs [1,1] [] bd_equals_differ []) [(2, .own (.box (F22_ a_))), (3, .own (.box (F22_ b_))), (4, .own (.box (eSl 1 true (eI .i64) []))), (5, .own (.box (eOs 2 true F0_ []))), (6, .own (.box (eOs 2 true F0_ ([(Arr2.mk 0 0)]))))] [ob (shM (eI .i64) (eI .i64) [])] (by kernel_rfl) fun st0 h0 => ?_
 refine awpJoin' (X := List Int × List (Arr2 Int)) (x := (sub [1,1,2] bd_equals_differ)) (y := (sub [1,1,1] bd_equals_differ)) (by kernel_rfl) [4,5,6] [2,3,4,5,6] _ h0 (fun z => equals_differ_J1 z.1 z.2 = some r0) (fun z => ST_equals_differ_J1 z.1 z.2) ?_ fun J1 hJ1 => ?_
 ·rintro ⟨x4, pairs⟩ hf0
  unfold equals_differ_J1 at hf0
  obtain rfl := someE hf0
  exact awpEndP X0 TTab_ok hC hm hE 4000 (hs := [.l ([].map (eI .i64))]) (x := (.opq (tupQ [some (eSl 1 true (eI .i64) []), some (eOs 2 false F0_ pairs)]))) [ob (shM (eI .i64) (eI .i64) [])] (by kernel_rfl) (show LeV (.opq (tupQ [some (eSl 1 true (eI .i64) []), some (eOs 2 false F0_ pairs)])) (.opq (tupQ [some (eSl 1 true (eI .i64) ([] : List Int)), some (eOs 2 false F0_ pairs)])) from inferInstance)
 ·obtain ⟨r_, h0, hf0⟩ := bindE hf0
  have o0 := hasF h_equals_meets (x := (a_, b_)) h0 (loC F22_ a_ <| loC F22_ b_ <| loN)
  obtain ⟨t2, ht2, hf0⟩ := bindE hf0
  refine awpAt X0 TTab_ok hC hm [4,5,6,14] 4000 [.g [], .a ((eFn2 117 F25_ F25_) r_)] (sub [1,1,2,1,0] bd_equals_differ) (frs [1,1,2,1,0] [J1] bd_equals_differ []) [(4, .own (.box (eSl 1 true (eI .i64) []))), (5, .own (.box (eOs 2 true F0_ []))), (6, .own (.box (eOs 2 true F0_ ([(Arr2.mk 0 0)])))), (14, .d (.fn 117 [.sptr (.agg [I r_.1.Inputs, I r_.1.Outputs, eSl 1 false F13_ r_.1.Rows]), .sptr (.agg [I r_.2.Inputs, I r_.2.Outputs, eSl 1 false F13_ r_.2.Rows])]))] [ob (hasG h_equals_meets), ob o0] (by kernel_rfl) fun st0 h0 => ?_
  refine awpIter (g := .tmp 14) (ps := [15,16]) (assign := (sub [1,1,2,1,0,0] bd_equals_differ)) (body := (sub [1,1,2,1,0,1] bd_equals_differ)) (K := 117) (caps := [.sptr (.agg [I r_.1.Inputs, I r_.1.Outputs, eSl 1 false F13_ r_.1.Rows]), .sptr (.agg [I r_.2.Inputs, I r_.2.Outputs, eSl 1 false F13_ r_.2.Rows])]) (by kernel_rfl) [4,5,6,14] (fun s => ST_equals_differ_I2 r_ s.1 s.2) (fun s => ST_equals_differ_I2 r_ s.1 s.2) (fun s => Code.ret) ((fun (x : S_equals_meet × List S_equals_arrival) (bb : Bool) (vv : Value) => [F24_ x.1, bif bb then .atom vv else F20_ x.2])) (F := @equals_meets_1 r_.1 r_.2) (fun s x => equals_differ_I2 s.1 s.2 x.1 x.2) (([] : List Int), ([(Arr2.mk 0 0)] : List (Arr2 Int))) t2 _ h0 inferInstance (by kernel_rfl) (by decide) (fun _ => rfl) (fun _ => rfl) (by kernel_rfl) (fun _ _ _ => rfl) (w_equals_meets_1 hC hm r_.1 r_.2) ht2 ?_ ?_
  ·rintro tv2 ⟨x41, pairs1⟩ ⟨x15, x16⟩ vr lr1 hf1
   replace hf1 : equals_differ_I2 x41 pairs1 x15 x16 = some lr1 := hf1
   unfold equals_differ_I2 at hf1
   generalize hnb : isNx lr1 = nb
   cases nb
   ·refine awpFin X0 TTab_ok hC hm [4,5,6,7,8,14] 4000 [] .normal [(4, .own (.box (eSl 1 true (eI .i64) x41))), (5, .own (.box (eOs 2 true F0_ []))), (6, .own (.box (eOs 2 false F0_ pairs1))), (7, .own (.box (F24_ x15))), (8, .d (eSl 4 false F15_ x16)), (14, .d (.fn 117 [.sptr (.agg [I r_.1.Inputs, I r_.1.Outputs, eSl 1 false F13_ r_.1.Rows]), .sptr (.agg [I r_.2.Inputs, I r_.2.Outputs, eSl 1 false F13_ r_.2.Rows])]))] [] (by kernel_rfl) fun st0 h0 => ⟨rfl, awpOf h0 ?_⟩
    rcases bifE hf1 with ⟨c0, hf1⟩ | ⟨c0, hf1⟩
    ·have o1 := shM (eI .i64) (eI .i64) ([x15.input_])
     obtain ⟨r_1, h1, hf1⟩ := bindE hf1
     have o2 := hasF h_equals_word (x := (x16, x15.at_, [x15.input_])) h1 (loC F20_ x16 <| loC (eI .i64) x15.at_ <| loC F2_ ([x15.input_] : List Int) <| loN)
     have o3 := shM (eI .i64) (eI .i64) ([x15.input_])
     obtain rfl := someE hf1
     exact awpFin X0 TTab_ok hC hm [4,5,6,14] 4000 [bT, .g [], .l (([x15.input_]).map (eI .i64)), .a (F2_ r_1), .l (([x15.input_]).map (eI .i64))] .ret [(4, .own (.box (eSl 1 true (eI .i64) r_1))), (5, .own (.box (eOs 2 true F0_ []))), (6, .own (.box (eOs 2 false F0_ pairs1))), (14, .d (.fn 117 [.sptr (.agg [I r_.1.Inputs, I r_.1.Outputs, eSl 1 false F13_ r_.1.Rows]), .sptr (.agg [I r_.2.Inputs, I r_.2.Outputs, eSl 1 false F13_ r_.2.Rows])]))] [ob c0, ob (hasG h_equals_word), ob o1, ob o2, ob o3] (by kernel_rfl) fun st0 h0 => ⟨rfl, _, h0, (inferInstance : LeL [(4, .own (.box (eSl 1 true (eI .i64) r_1))), (5, .own (.box (eOs 2 true F0_ []))), (6, .own (.box (eOs 2 false F0_ pairs1))), (14, .d (.fn 117 [.sptr (.agg [I r_.1.Inputs, I r_.1.Outputs, eSl 1 false F13_ r_.1.Rows]), .sptr (.agg [I r_.2.Inputs, I r_.2.Outputs, eSl 1 false F13_ r_.2.Rows])]))] (ST_equals_differ_I2 r_ r_1 pairs1))⟩
    ·rcases bifE hf1 with ⟨c1, hf1⟩ | ⟨c1, hf1⟩
     ·have o4 := shM F0_ F0_ pairs1
      obtain ⟨r_2, h2, hf1⟩ := bindE hf1
      have o5 := hasF h_slices_Contains_2_int_2_int (x := (pairs1, (Arr2.mk x15.x_.To x15.y_.To))) h2 (loC F8_ pairs1 <| loC F0_ (Arr2.mk x15.x_.To x15.y_.To) <| loN)
      rcases bifE hf1 with ⟨c2, hf1⟩ | ⟨c2, hf1⟩
      ·have o6 := dM F0_ ([(Arr2.mk x15.x_.To x15.y_.To)] : List (Arr2 Int))
       have o7 := dM F0_ ([(Arr2.mk x15.x_.To x15.y_.To)] : List (Arr2 Int))
       obtain ⟨g0, hf1⟩ := gdE hf1
       have o8 := aL F0_ F0_ g0
       have o9 := aM F0_ pairs1 ([(Arr2.mk x15.x_.To x15.y_.To)] : List (Arr2 Int))
       obtain rfl := someE hf1
       cases hnb
      ·obtain rfl := someE hf1
       cases hnb
     ·obtain rfl := someE hf1
      cases hnb
   ·refine awpFin X0 TTab_ok hC hm [4,5,6,7,14] 4000 [] .normal [(4, .own (.box (eSl 1 true (eI .i64) x41))), (5, .own (.box (eOs 2 true F0_ []))), (6, .own (.box (eOs 2 false F0_ pairs1))), (7, .own (.box (F24_ x15))), (14, .d (.fn 117 [.sptr (.agg [I r_.1.Inputs, I r_.1.Outputs, eSl 1 false F13_ r_.1.Rows]), .sptr (.agg [I r_.2.Inputs, I r_.2.Outputs, eSl 1 false F13_ r_.2.Rows])]))] [] (by kernel_rfl) fun st0 h0 => ⟨rfl, awpOf h0 ?_⟩
    rcases bifE hf1 with ⟨c0, hf1⟩ | ⟨c0, hf1⟩
    ·refine absurd hnb (noNx ?_ hf1)
     repeat (first | with_reducible exact nx_done _ | with_reducible exact nxNone | with_reducible refine nx_bind fun _ => ?_ | with_reducible refine nx_gd ?_ | with_reducible refine nx_bif ?_ ?_ | split)
    ·rcases bifE hf1 with ⟨c1, hf1⟩ | ⟨c1, hf1⟩
     ·have o1 := shM F0_ F0_ pairs1
      obtain ⟨r_1, h1, hf1⟩ := bindE hf1
      have o2 := hasF h_slices_Contains_2_int_2_int (x := (pairs1, (Arr2.mk x15.x_.To x15.y_.To))) h1 (loC F8_ pairs1 <| loC F0_ (Arr2.mk x15.x_.To x15.y_.To) <| loN)
      rcases bifE hf1 with ⟨c2, hf1⟩ | ⟨c2, hf1⟩
      ·have o3 := dM F0_ ([(Arr2.mk x15.x_.To x15.y_.To)] : List (Arr2 Int))
       have o4 := dM F0_ ([(Arr2.mk x15.x_.To x15.y_.To)] : List (Arr2 Int))
       obtain ⟨g0, hf1⟩ := gdE hf1
       have o5 := aL F0_ F0_ g0
       have o6 := aM F0_ pairs1 ([(Arr2.mk x15.x_.To x15.y_.To)] : List (Arr2 Int))
       obtain rfl := someE hf1
       exact awpFin X0 TTab_ok hC hm [4,5,6,14] 4000 (bF :: bT :: bT :: bT :: .g [] :: .l (pairs1.map F0_) :: .a (eB r_1) :: (rpN 4 bT [.l ((pairs1 ++ ([(Arr2.mk x15.x_.To x15.y_.To)] : List (Arr2 Int))).map F0_)])) .normal [(4, .own (.box (eSl 1 true (eI .i64) x41))), (5, .own (.box (eOs 2 true F0_ []))), (6, .own (.box (eOs 2 false F0_ (pairs1 ++ ([(Arr2.mk x15.x_.To x15.y_.To)] : List (Arr2 Int)))))), (14, .d (.fn 117 [.sptr (.agg [I r_.1.Inputs, I r_.1.Outputs, eSl 1 false F13_ r_.1.Rows]), .sptr (.agg [I r_.2.Inputs, I r_.2.Outputs, eSl 1 false F13_ r_.2.Rows])]))] [ob c0, ob c1, ob c1, ob c1, ob (hasG h_slices_Contains_2_int_2_int), ob o1, ob o2, ob c1, ob c1, ob c2, ob o3, ob o4, ob o5, ob o6] (by kernel_rfl) fun st0 h0 => ⟨rfl, _, h0, (inferInstance : LeL [(4, .own (.box (eSl 1 true (eI .i64) x41))), (5, .own (.box (eOs 2 true F0_ []))), (6, .own (.box (eOs 2 false F0_ (pairs1 ++ ([(Arr2.mk x15.x_.To x15.y_.To)] : List (Arr2 Int)))))), (14, .d (.fn 117 [.sptr (.agg [I r_.1.Inputs, I r_.1.Outputs, eSl 1 false F13_ r_.1.Rows]), .sptr (.agg [I r_.2.Inputs, I r_.2.Outputs, eSl 1 false F13_ r_.2.Rows])]))] (ST_equals_differ_I2 r_ x41 (pairs1 ++ ([(Arr2.mk x15.x_.To x15.y_.To)] : List (Arr2 Int)))))⟩
      ·obtain rfl := someE hf1
       exact awpFin X0 TTab_ok hC hm [4,5,6,14] 4000 [bF, bT, bT, bT, .g [], .l (pairs1.map F0_), .a (eB r_1), bT, bT, bF] .normal [(4, .own (.box (eSl 1 true (eI .i64) x41))), (5, .own (.box (eOs 2 true F0_ []))), (6, .own (.box (eOs 2 false F0_ pairs1))), (14, .d (.fn 117 [.sptr (.agg [I r_.1.Inputs, I r_.1.Outputs, eSl 1 false F13_ r_.1.Rows]), .sptr (.agg [I r_.2.Inputs, I r_.2.Outputs, eSl 1 false F13_ r_.2.Rows])]))] [ob c0, ob c1, ob c1, ob c1, ob (hasG h_slices_Contains_2_int_2_int), ob o1, ob o2, ob c1, ob c1, ob c2] (by kernel_rfl) fun st0 h0 => ⟨rfl, _, h0, (inferInstance : LeL [(4, .own (.box (eSl 1 true (eI .i64) x41))), (5, .own (.box (eOs 2 true F0_ []))), (6, .own (.box (eOs 2 false F0_ pairs1))), (14, .d (.fn 117 [.sptr (.agg [I r_.1.Inputs, I r_.1.Outputs, eSl 1 false F13_ r_.1.Rows]), .sptr (.agg [I r_.2.Inputs, I r_.2.Outputs, eSl 1 false F13_ r_.2.Rows])]))] (ST_equals_differ_I2 r_ x41 pairs1))⟩
     ·obtain rfl := someE hf1
      exact awpFin X0 TTab_ok hC hm [4,5,6,14] 4000 (rpN 7 bF []) .normal [(4, .own (.box (eSl 1 true (eI .i64) x41))), (5, .own (.box (eOs 2 true F0_ []))), (6, .own (.box (eOs 2 false F0_ pairs1))), (14, .d (.fn 117 [.sptr (.agg [I r_.1.Inputs, I r_.1.Outputs, eSl 1 false F13_ r_.1.Rows]), .sptr (.agg [I r_.2.Inputs, I r_.2.Outputs, eSl 1 false F13_ r_.2.Rows])]))] (ob c0 :: (rpN 5 (ob c1) [oF])) (by kernel_rfl) fun st0 h0 => ⟨rfl, _, h0, (inferInstance : LeL [(4, .own (.box (eSl 1 true (eI .i64) x41))), (5, .own (.box (eOs 2 true F0_ []))), (6, .own (.box (eOs 2 false F0_ pairs1))), (14, .d (.fn 117 [.sptr (.agg [I r_.1.Inputs, I r_.1.Outputs, eSl 1 false F13_ r_.1.Rows]), .sptr (.agg [I r_.2.Inputs, I r_.2.Outputs, eSl 1 false F13_ r_.2.Rows])]))] (ST_equals_differ_I2 r_ x41 pairs1))⟩
  ·rcases t2 with ⟨x41, pairs1⟩ | z
   ·dsimp only at hf0
    exact awpGoBack (by kernel_rfl) (hJ1 _ [(4, .own (.box (eSl 1 true (eI .i64) x41))), (5, .own (.box (eOs 2 true F0_ []))), (6, .own (.box (eOs 2 false F0_ pairs1)))] (x41, pairs1) hf0 (show Own.canon [4,5,6] _ = ofL _ by kernel_rfl) inferInstance)
   ·obtain ⟨x41, pairs1⟩ := z
    dsimp only at hf0
    show AWP _ _ (Code.ret) _ _
    obtain rfl := someE hf0
    exact awpEndP X0 TTab_ok hC hm hE 4000 (hs := []) (x := (.opq (tupQ [some (eSl 1 true (eI .i64) x41), some (eOs 2 true F0_ [])]))) [] (by kernel_rfl) (show LeV (.opq (tupQ [some (eSl 1 true (eI .i64) x41), some (eOs 2 true F0_ [])])) (.opq (tupQ [some (eSl 1 true (eI .i64) x41), some (eOs 2 false F0_ ([] : List (Arr2 Int)))])) from inferInstance)
noncomputable def bd_equals_Differ : Code := (Try.f31.body).getD .skip
noncomputable def sp_equals_Differ : Spec := spF (α := S_api_Machine × S_api_Machine) (ρ := List Int × Bool × Int) 31 (fun x => [F22_ x.1, F22_ x.2]) (fun r => .tup [F2_ r.1, eB r.2.1, (eI .i64) r.2.2]) (fun x => equals_Differ x.1 x.2) [] (by
 rintro ⟨a0, a1⟩ ⟨b0, b1⟩ h
 simp only [List.cons.injEq, and_true] at h
 have e0 := EncI.inj (f := F22_) _ _ h.1
 have e1 := EncI.inj (f := F22_) _ _ h.2
 subst e0 e1
 rfl)
theorem w_equals_Differ {ctr : Ctr} (hC : CtrOk Try.prog ctr) (hm : Try.prog.follows .mixedOrders = true) (h_equals_both : ctr.Has sp_equals_both) (h_equals_differ : ctr.Has sp_equals_differ) : sp_equals_Differ.Ok Try.prog := by
 refine spF_ok ?_
 rintro ⟨a_, b_⟩ r0 hf0
 try unfold equals_Differ at hf0
 refine callOk_h (tt := TTab) (keep := false) (rs := [(4, none), (5, none), (6, none)]) (n := ⟨26, []⟩) (body := bd_equals_Differ) TTab_ok Try.func31 rfl (by kernel_rfl) rfl rfl (by show (2 : Nat) ≤ 26; decide) fun E hE => ?_
 obtain ⟨r_, h0, hf0⟩ := bindE hf0
 have o0 := hasF h_equals_both (x := (a_, b_)) h0 (loC F22_ a_ <| loC F22_ b_ <| loN)
 rcases bifE hf0 with ⟨c0, hf0⟩ | ⟨c0, hf0⟩
 ·obtain rfl := someE hf0
  exact awpEnd X0 TTab_ok hC hm hE 4000 (hs := [.g [], .a ((eI .i64) r_), bT, .l ([].map (eI .i64))]) (x := (.tup [eSl 1 true (eI .i64) [], B false, I r_])) [ob (hasG h_equals_both), ob o0, ob c0, ob (shM (eI .i64) (eI .i64) [])] (by kernel_rfl) (show LeV (.tup [eSl 1 true (eI .i64) [], B false, I r_]) (.tup [eSl 1 true (eI .i64) ([] : List Int), B false, I r_]) from inferInstance)
 ·obtain ⟨r_1, h1, hf0⟩ := bindE hf0
  have o1 := hasF h_equals_differ (x := (a_, b_)) h1 (loC F22_ a_ <| loC F22_ b_ <| loN)
  have o2 := (⟨rfl, rfl⟩ : T.own (.opq (tupQ [some (eSl 1 true (eI .i64) r_1.1), some (eOs 2 false F0_ r_1.2)])) = T.own (.opq (tupQ [some (eSl 1 true (eI .i64) r_1.1), some (eOs 2 false F0_ r_1.2)])) ∧ 1 = 1)
  have o3 := (⟨rfl, rfl⟩ : T.own (.opq (tupQ [some (eSl 1 true (eI .i64) r_1.1), some (eOs 2 false F0_ r_1.2)])) = T.own (.opq (tupQ [some (eSl 1 true (eI .i64) r_1.1), some (eOs 2 false F0_ r_1.2)])) ∧ 1 = 1)
  obtain rfl := someE hf0
  exact awpEnd ((xExtr Try.prog 21 [some (eSl 1 true (eI .i64) r_1.1), some (eOs 2 false F0_ r_1.2)]).or ((xExtr Try.prog 20 [some (eSl 1 true (eI .i64) r_1.1), some (eOs 2 false F0_ r_1.2)]).or X0)) TTab_ok hC hm hE 4000 (hs := [.g [], .a ((eI .i64) r_), bF, .g [], .a (.opq (tupQ [some (eSl 1 true (eI .i64) r_1.1), some (eOs 2 false F0_ r_1.2)])), aLn r_1.1.length]) (x := (.tup [eSl 1 true (eI .i64) r_1.1, B (decide (((r_1.1.length : Nat) : Int) > 0)), I 0])) [ob (hasG h_equals_both), ob o0, ob c0, ob (hasG h_equals_differ), ob o1, ob o2, ob o3, ob (lnM (eI .i64) r_1.1)] (by kernel_rfl) (LeV.refl _)
noncomputable def bd_equals_Equal : Code := (Try.f38.body).getD .skip
noncomputable def sp_equals_Equal : Spec := spF (α := S_api_Machine × S_api_Machine) (ρ := Bool × Int) 38 (fun x => [F22_ x.1, F22_ x.2]) (fun r => .tup [eB r.1, (eI .i64) r.2]) (fun x => equals_Equal x.1 x.2) [] (by
 rintro ⟨a0, a1⟩ ⟨b0, b1⟩ h
 simp only [List.cons.injEq, and_true] at h
 have e0 := EncI.inj (f := F22_) _ _ h.1
 have e1 := EncI.inj (f := F22_) _ _ h.2
 subst e0 e1
 rfl)
theorem w_equals_Equal {ctr : Ctr} (hC : CtrOk Try.prog ctr) (hm : Try.prog.follows .mixedOrders = true) (h_equals_Differ : ctr.Has sp_equals_Differ) : sp_equals_Equal.Ok Try.prog := by
 refine spF_ok ?_
 rintro ⟨a_, b_⟩ r0 hf0
 try unfold equals_Equal at hf0
 refine callOk_h (tt := TTab) (keep := false) (rs := [(4, none), (5, none)]) (n := ⟨23, []⟩) (body := bd_equals_Equal) TTab_ok Try.func38 rfl (by kernel_rfl) rfl rfl (by show (2 : Nat) ≤ 23; decide) fun E hE => ?_
 obtain ⟨r_, h0, hf0⟩ := bindE hf0
 have o0 := hasF h_equals_Differ (x := (a_, b_)) h0 (loC F22_ a_ <| loC F22_ b_ <| loN)
 rcases bifE hf0 with ⟨c0, hf0⟩ | ⟨c0, hf0⟩
 ·obtain rfl := someE hf0
  exact awpEnd X0 TTab_ok hC hm hE 4000 (hs := [.g [], .a (.tup [eSl 1 true (eI .i64) r_.1, B r_.2.1, I r_.2.2]), bT, bT, bT]) (x := (.tup [B (!r_.2.1), I r_.2.2])) [ob (hasG h_equals_Differ), ob o0, ob c0, ob c0, ob c0] (by kernel_rfl) (LeV.refl _)
 ·obtain rfl := someE hf0
  exact awpEnd X0 TTab_ok hC hm hE 4000 (hs := [.g [], .a (.tup [eSl 1 true (eI .i64) r_.1, B r_.2.1, I r_.2.2]), bF, bF, bF]) (x := (.tup [B false, I r_.2.2])) [ob (hasG h_equals_Differ), ob o0, ob c0, ob c0, ob c0] (by kernel_rfl) (LeV.refl _)
noncomputable def bd_ref07_apart : Code := (Try.f99.body).getD .skip
noncomputable def sp_ref07_apart : Spec := spF (α := S_api_Machine × List (List Bool) × Int × Int) (ρ := Int) 99 (fun x => [F22_ x.1, F6_ x.2.1, (eI .i64) x.2.2.1, (eI .i64) x.2.2.2]) (fun r => (eI .i64) r) (fun x => ref07_apart x.1 x.2.1 x.2.2.1 x.2.2.2) [] (by
 rintro ⟨a0, a1, a2, a3⟩ ⟨b0, b1, b2, b3⟩ h
 simp only [List.cons.injEq, and_true] at h
 have e0 := EncI.inj (f := F22_) _ _ h.1
 have e1 := EncI.inj (f := F6_) _ _ h.2.1
 have e2 := EncI.inj (f := (eI .i64)) _ _ h.2.2.1
 have e3 := EncI.inj (f := (eI .i64)) _ _ h.2.2.2
 subst e0 e1 e2 e3
 rfl)
abbrev ST_ref07_apart_J1 : List (Nat × T) := []
abbrev ST_ref07_apart_J3 (m_ : S_api_Machine) (marked : List (List Bool)) (s_ : Int) (t_ : Int) (i_ : Int) (x41 : Int) (x42 : Bool) (x43 : Bool) (x47 : Bool) (x48 : Bool) (x58 : Bool) : List (Nat × T) := [(1, .d (eSl 1 false (eSl 1 false eB) marked)), (2, .d (I s_)), (3, .d (I t_)), (4, .own (.box (F22_ m_))), (9, .d (I i_)), (41, .d (I x41)), (42, .d (B x42)), (43, .d (B x43)), (47, .d (B x47)), (48, .d (B x48)), (58, .d (B x58))]
abbrev ST_ref07_apart_L2 (m_ : S_api_Machine) (marked : List (List Bool)) (s_ : Int) (t_ : Int) (i_ : Int) : List (Nat × T) := [(1, .d (eSl 1 false (eSl 1 false eB) marked)), (2, .d (I s_)), (3, .d (I t_)), (4, .own (.box (F22_ m_))), (9, .d (I i_))]
theorem w_ref07_apart {ctr : Ctr} (hC : CtrOk Try.prog ctr) (hm : Try.prog.follows .mixedOrders = true) : sp_ref07_apart.Ok Try.prog := by
 refine spF_ok ?_
 rintro ⟨m_, marked, s_, t_⟩ r0 hf0
 try unfold ref07_apart at hf0
 refine callOk_h (tt := TTab) (keep := true) (rs := [(8, none)]) (n := ⟨60, []⟩) (body := bd_ref07_apart) TTab_ok Try.func99 rfl (by kernel_rfl) rfl rfl (by show (4 : Nat) ≤ 60; decide) fun E hE => ?_
 refine awpAt X0 TTab_ok hC hm [1,2,3,4] 4000 [.cut 1] (sub [1] bd_ref07_apart) (frs [1] [] bd_ref07_apart []) [(1, .d (eSl 1 false (eSl 1 false eB) marked)), (2, .d (I s_)), (3, .d (I t_)), (4, .own (.box (F22_ m_)))] [] (by kernel_rfl) fun st0 h0 => ?_
 refine awpJoin' (X := Unit) (x := (sub [1,2] bd_ref07_apart)) (y := (sub [1,1] bd_ref07_apart)) (by kernel_rfl) [] [1,2,3,4] _ h0 (fun z => ref07_apart_J1 = some r0) (fun z => ST_ref07_apart_J1) ?_ fun J1 hJ1 => ?_
 ·rintro ⟨⟩ hf0
  unfold ref07_apart_J1 at hf0
  obtain rfl := someE hf0
  exact awpEnd X0 TTab_ok hC hm hE 4000 (hs := []) (x := (I 0)) [] (by kernel_rfl) (LeV.refl _)
 ·obtain ⟨t2, ht2, hf0⟩ := bindE hf0
  refine awpAt X0 TTab_ok hC hm [1,2,3,4,9] 4000 [] (sub [1,2,1,0] bd_ref07_apart) (frs [1,2,1,0] [J1] bd_ref07_apart []) [(1, .d (eSl 1 false (eSl 1 false eB) marked)), (2, .d (I s_)), (3, .d (I t_)), (4, .own (.box (F22_ m_))), (9, .d (I 0))] [] (by kernel_rfl) fun st0 h0 => ?_
  refine awpLoop' (X := Int × Nat) (c' := (sub [1,2,1,0,0] bd_ref07_apart)) (by kernel_rfl) [1,2,3,4,9] (fun x => loopN (fun s => ref07_apart_L2 m_ marked s_ t_ s) x.2 x.1 = some t2) (fun x => x.2) (fun x => ST_ref07_apart_L2 m_ marked s_ t_ x.1) (0, fuel) _ h0 inferInstance ht2 ?_
  rintro ⟨i_, n2⟩ hn2 J2 hJ2
  obtain ⟨m2, lr1, rfl, hf1, hl1⟩ := loopE hn2
  try unfold ref07_apart_L2 at hf1
  rcases bifE hf1 with ⟨c0, hf1⟩ | ⟨c0, hf1⟩
  ·refine awpAt X0 TTab_ok hC hm [1,2,3,4,9] 4000 [bT, .cut 0] (sub [1,2,1,0,0,1] bd_ref07_apart) (frs [1,2,1,0,0,1] [J1, J2] bd_ref07_apart []) [(1, .d (eSl 1 false (eSl 1 false eB) marked)), (2, .d (I s_)), (3, .d (I t_)), (4, .own (.box (F22_ m_))), (9, .d (I i_))] [ob c0] (by kernel_rfl) fun st0 h0 => ?_
   refine awpJoin' (X := Int × Bool × Bool × Bool × Bool × Bool) (x := (sub [1,2,1,0,0,1,2] bd_ref07_apart)) (y := (sub [1,2,1,0,0,1,1] bd_ref07_apart)) (by kernel_rfl) [1,2,3,4,9,41,42,43,47,48,58] [1,2,3,4,9] _ h0 (fun z => ref07_apart_J3 i_ z.1 z.2.1 z.2.2.1 z.2.2.2.1 z.2.2.2.2.1 z.2.2.2.2.2 = some lr1) (fun z => ST_ref07_apart_J3 m_ marked s_ t_ i_ z.1 z.2.1 z.2.2.1 z.2.2.2.1 z.2.2.2.2.1 z.2.2.2.2.2) ?_ fun J3 hJ3 => ?_
   ·rintro ⟨x41, x42, x43, x47, x48, x58⟩ hf1
    unfold ref07_apart_J3 at hf1
    obtain rfl := someE hf1
    exact awpBack X0 TTab_ok hC hm [1,2,3,4,9] 4000 [] J2 [(1, .d (eSl 1 false (eSl 1 false eB) marked)), (2, .d (I s_)), (3, .d (I t_)), (4, .own (.box (F22_ m_))), (9, .d (I (w64 (i_ + 1))))] [] (by kernel_rfl) fun st0 h0 => hJ2 st0 _ (w64 (i_ + 1), m2) hl1 (Nat.lt_succ_self m2) h0 inferInstance
   ·obtain ⟨Row_e, h0, hf1⟩ := bindE hf1
    have o0 := iM F13_ h0
    obtain ⟨Row_e_e, h1, hf1⟩ := bindE hf1
    have o1 := iM F9_ h1
    obtain ⟨Row_e1, h2, hf1⟩ := bindE hf1
    have o2 := iM F13_ h2
    obtain ⟨Row_e_e1, h3, hf1⟩ := bindE hf1
    have o3 := iM F9_ h3
    rcases bifE hf1 with ⟨c1, hf1⟩ | ⟨c1, hf1⟩
    ·obtain rfl := someE hf1
     obtain rfl := hl1
     obtain rfl := someE hf0
     exact awpEnd X0 TTab_ok hC hm hE 4000 (hs := (.a (F13_ Row_e) :: .a (F9_ Row_e_e) :: .a (F13_ Row_e1) :: .a (F9_ Row_e_e1) :: (rpN 9 bT []))) (x := (I 1)) (ob (i0 h0) :: ob o0 :: ob (i0 h1) :: ob o1 :: ob (i0 h2) :: ob o2 :: ob (i0 h3) :: ob o3 :: (rpN 8 (ob c1) [oT])) (by kernel_rfl) (LeV.refl _)
    ·rcases bifE hf1 with ⟨c2, hf1⟩ | ⟨c2, hf1⟩
     ·rcases bifE hf1 with ⟨c3, hf1⟩ | ⟨c3, hf1⟩
      ·obtain ⟨marked_e, h4, hf1⟩ := bindE hf1
       obtain ⟨marked_e_e, h5, hf1⟩ := bindE hf1
       rcases bifE hf1 with ⟨c4, hf1⟩ | ⟨c4, hf1⟩
       ·obtain rfl := someE hf1
        obtain rfl := hl1
        obtain rfl := someE hf0
        exact awpEnd X0 TTab_ok hC hm hE 4000 (hs := (.a (F13_ Row_e) :: .a (F9_ Row_e_e) :: .a (F13_ Row_e1) :: .a (F9_ Row_e_e1) :: (rpN 4 bF (bT :: bT :: bT :: bF :: bT :: bF :: (rpN 4 bT (.a ((eSl 1 false eB) marked_e) :: (rpN 4 bT [.a (eB marked_e_e), bT, bF, bT, bF, bT]))))))) (x := (I 1)) (ob (i0 h0) :: ob o0 :: ob (i0 h1) :: ob o1 :: ob (i0 h2) :: ob o2 :: ob (i0 h3) :: ob o3 :: (rpN 4 (ob c1) (ob c2 :: ob c2 :: ob c2 :: ob c1 :: ob c2 :: ob c1 :: (rpN 4 (ob c3) (ob (i0 h4) :: ob (iM (eSl 1 false eB) h4) :: (rpN 4 (ob c3) [ob (i0 h5), ob (iM eB h5), ob c3, ob c1, ob c3, ob c1, ob c4])))))) (by kernel_rfl) (LeV.refl _)
       ·exact awpBack X0 TTab_ok hC hm [1,2,3,4,9,41,42,43,47,48,58] 4000 (.a (F13_ Row_e) :: .a (F9_ Row_e_e) :: .a (F13_ Row_e1) :: .a (F9_ Row_e_e1) :: (rpN 4 bF (bT :: bT :: bT :: bF :: bT :: bF :: (rpN 4 bT (.a ((eSl 1 false eB) marked_e) :: (rpN 4 bT [.a (eB marked_e_e), bT, bF, bT, bF, bF])))))) J3 [(1, .d (eSl 1 false (eSl 1 false eB) marked)), (2, .d (I s_)), (3, .d (I t_)), (4, .own (.box (F22_ m_))), (9, .d (I i_)), (41, .d (I Row_e_e.To)), (42, .d (B (decide (Row_e_e.To ≥ 0)))), (43, .d (B (decide (Row_e_e.To ≥ 0)))), (47, .d (B (decide (Row_e_e1.To ≥ 0)))), (48, .d (B (decide (Row_e_e1.To ≥ 0)))), (58, .d (B marked_e_e))] (ob (i0 h0) :: ob o0 :: ob (i0 h1) :: ob o1 :: ob (i0 h2) :: ob o2 :: ob (i0 h3) :: ob o3 :: (rpN 4 (ob c1) (ob c2 :: ob c2 :: ob c2 :: ob c1 :: ob c2 :: ob c1 :: (rpN 4 (ob c3) (ob (i0 h4) :: ob (iM (eSl 1 false eB) h4) :: (rpN 4 (ob c3) [ob (i0 h5), ob (iM eB h5), ob c3, ob c1, ob c3, ob c1, ob c4])))))) (by kernel_rfl) fun st0 h0 => hJ3 st0 _ (Row_e_e.To, decide (Row_e_e.To ≥ 0), decide (Row_e_e.To ≥ 0), decide (Row_e_e1.To ≥ 0), decide (Row_e_e1.To ≥ 0), marked_e_e) hf1 h0 inferInstance
      ·exact awpBack X0 TTab_ok hC hm [1,2,3,4,9,41,42,43,47,48,58] 4000 (.a (F13_ Row_e) :: .a (F9_ Row_e_e) :: .a (F13_ Row_e1) :: .a (F9_ Row_e_e1) :: (rpN 4 bF (bT :: bT :: bT :: bF :: bT :: (rpN 14 bF [])))) J3 [(1, .d (eSl 1 false (eSl 1 false eB) marked)), (2, .d (I s_)), (3, .d (I t_)), (4, .own (.box (F22_ m_))), (9, .d (I i_)), (41, .d (I Row_e_e.To)), (42, .d (B (decide (Row_e_e.To ≥ 0)))), (43, .d (B (decide (Row_e_e.To ≥ 0)))), (47, .d (B (decide (Row_e_e1.To ≥ 0)))), (48, .d (B (decide (Row_e_e1.To ≥ 0)))), (58, .d (B false))] (ob (i0 h0) :: ob o0 :: ob (i0 h1) :: ob o1 :: ob (i0 h2) :: ob o2 :: ob (i0 h3) :: ob o3 :: (rpN 4 (ob c1) (ob c2 :: ob c2 :: ob c2 :: ob c1 :: ob c2 :: ob c1 :: (rpN 9 (ob c3) [ob c1, ob c3, ob c1, oF])))) (by kernel_rfl) fun st0 h0 => hJ3 st0 _ (Row_e_e.To, decide (Row_e_e.To ≥ 0), decide (Row_e_e.To ≥ 0), decide (Row_e_e1.To ≥ 0), decide (Row_e_e1.To ≥ 0), false) hf1 h0 inferInstance
     ·exact awpBack X0 TTab_ok hC hm [1,2,3,4,9,41,42,43,47,48,58] 4000 (.a (F13_ Row_e) :: .a (F9_ Row_e_e) :: .a (F13_ Row_e1) :: .a (F9_ Row_e_e1) :: (rpN 23 bF [])) J3 [(1, .d (eSl 1 false (eSl 1 false eB) marked)), (2, .d (I s_)), (3, .d (I t_)), (4, .own (.box (F22_ m_))), (9, .d (I i_)), (41, .d (I Row_e_e.To)), (42, .d (B (decide (Row_e_e.To ≥ 0)))), (43, .d (B (decide (Row_e_e.To ≥ 0)))), (47, .d (B false)), (48, .d (B false)), (58, .d (B false))] (ob (i0 h0) :: ob o0 :: ob (i0 h1) :: ob o1 :: ob (i0 h2) :: ob o2 :: ob (i0 h3) :: ob o3 :: (rpN 4 (ob c1) (ob c2 :: ob c2 :: ob c2 :: ob c1 :: ob c2 :: ob c1 :: (rpN 9 oF [ob c1, oF, ob c1, oF])))) (by kernel_rfl) fun st0 h0 => hJ3 st0 _ (Row_e_e.To, decide (Row_e_e.To ≥ 0), decide (Row_e_e.To ≥ 0), false, false, false) hf1 h0 inferInstance
  ·obtain rfl := someE hf1
   obtain rfl := hl1
   exact awpBack X0 TTab_ok hC hm [] 4000 [bF] J1 [] [ob c0] (by kernel_rfl) fun st0 h0 => hJ1 st0 _ () hf0 h0 inferInstance
noncomputable def bd_ref07_Marked : Code := (Try.f73.body).getD .skip
noncomputable def sp_ref07_Marked : Spec := spF (α := S_api_Machine × Int) (ρ := List (List Bool)) 73 (fun x => [F22_ x.1, (eI .i64) x.2]) (fun r => (eOs 1 false (eOs 1 true eB)) r) (fun x => ref07_Marked x.1 x.2) [] (by
 rintro ⟨a0, a1⟩ ⟨b0, b1⟩ h
 simp only [List.cons.injEq, and_true] at h
 have e0 := EncI.inj (f := F22_) _ _ h.1
 have e1 := EncI.inj (f := (eI .i64)) _ _ h.2
 subst e0 e1
 rfl)
abbrev ST_ref07_Marked_J2 (marked1 : List (List Bool)) : List (Nat × T) := [(6, .own (eOs 1 false (eOs 1 true eB) marked1))]
abbrev ST_ref07_Marked_J4 (m_ : S_api_Machine) (k_ : Int) (round : Int) (marked3 : List (List Bool)) : List (Nat × T) := [(1, .d (I k_)), (2, .own (.box (F22_ m_))), (5, .d (I ((m_.Rows.length : Nat) : Int))), (6, .own (eOs 1 false (eOs 1 true eB) marked3)), (8, .d (I round))]
abbrev ST_ref07_Marked_J5 (m_ : S_api_Machine) (k_ : Int) (round : Int) (next : List (List Bool)) : List (Nat × T) := [(1, .d (I k_)), (2, .own (.box (F22_ m_))), (5, .d (I ((m_.Rows.length : Nat) : Int))), (8, .d (I round)), (9, .own (eOs 1 false (eOs 1 true eB) next))]
abbrev ST_ref07_Marked_J7 (m_ : S_api_Machine) (k_ : Int) (marked2 : List (List Bool)) (round : Int) (s_ : Int) (next2 : List (List Bool)) : List (Nat × T) := [(1, .d (I k_)), (2, .own (.box (F22_ m_))), (5, .d (I ((m_.Rows.length : Nat) : Int))), (6, .d (eSl 1 false (eSl 1 true eB) marked2)), (8, .d (I round)), (9, .own (eOs 1 false (eOs 1 true eB) next2)), (10, .d (I s_))]
abbrev ST_ref07_Marked_L8 (m_ : S_api_Machine) (k_ : Int) (marked2 : List (List Bool)) (round : Int) (s_ : Int) (next3 : List (List Bool)) (t_ : Int) : List (Nat × T) := [(1, .d (I k_)), (2, .own (.box (F22_ m_))), (5, .d (I ((m_.Rows.length : Nat) : Int))), (6, .d (eSl 1 false (eSl 1 true eB) marked2)), (8, .d (I round)), (9, .own (eOs 1 false (eOs 1 true eB) next3)), (10, .d (I s_)), (11, .d (I t_))]
abbrev ST_ref07_Marked_L6 (m_ : S_api_Machine) (k_ : Int) (marked2 : List (List Bool)) (round : Int) (next1 : List (List Bool)) (s_ : Int) : List (Nat × T) := [(1, .d (I k_)), (2, .own (.box (F22_ m_))), (5, .d (I ((m_.Rows.length : Nat) : Int))), (6, .d (eSl 1 false (eSl 1 true eB) marked2)), (8, .d (I round)), (9, .own (eOs 1 false (eOs 1 true eB) next1)), (10, .d (I s_))]
abbrev ST_ref07_Marked_L3 (m_ : S_api_Machine) (k_ : Int) (marked2 : List (List Bool)) (round : Int) : List (Nat × T) := [(1, .d (I k_)), (2, .own (.box (F22_ m_))), (5, .d (I ((m_.Rows.length : Nat) : Int))), (6, .own (eOs 1 false (eOs 1 true eB) marked2)), (8, .d (I round))]
abbrev ST_ref07_Marked_J1 (m_ : S_api_Machine) (k_ : Int) (marked : List (List Bool)) : List (Nat × T) := [(1, .d (I k_)), (2, .own (.box (F22_ m_))), (5, .d (I ((m_.Rows.length : Nat) : Int))), (6, .own (eOs 1 false (eOs 1 true eB) marked))]
abbrev ST_ref07_Marked_L9 (m_ : S_api_Machine) (k_ : Int) (marked4 : List (List Bool)) (s_1 : Int) : List (Nat × T) := [(1, .d (I k_)), (2, .own (.box (F22_ m_))), (5, .d (I ((m_.Rows.length : Nat) : Int))), (6, .own (eOs 1 false (eOs 1 true eB) marked4)), (7, .d (I s_1))]
theorem w_ref07_Marked {ctr : Ctr} (hC : CtrOk Try.prog ctr) (hm : Try.prog.follows .mixedOrders = true) (h_ref07_apart : ctr.Has sp_ref07_apart) : sp_ref07_Marked.Ok Try.prog := by
 refine spF_ok ?_
 rintro ⟨m_, k_⟩ r0 hf0
 try unfold ref07_Marked at hf0
 refine callOk_h (tt := TTab) (keep := true) (rs := [(4, none)]) (n := ⟨68, []⟩) (body := bd_ref07_Marked) TTab_ok Try.func73 rfl (by kernel_rfl) rfl rfl (by show (2 : Nat) ≤ 68; decide) fun E hE => ?_
 have o0 := lnM F13_ m_.Rows
 refine awpAt X0 TTab_ok hC hm [1,2,5,6] 4000 [aLn m_.Rows.length, .cut 1] (sub [1,1,1] bd_ref07_Marked) (frs [1,1,1] [] bd_ref07_Marked []) [(1, .d (I k_)), (2, .own (.box (F22_ m_))), (5, .d (I ((m_.Rows.length : Nat) : Int))), (6, .own (eOs 1 true (eSl 1 false eB) []))] [ob o0] (by kernel_rfl) fun st0 h0 => ?_
 refine awpJoin' (X := List (List Bool)) (x := (sub [1,1,1,2] bd_ref07_Marked)) (y := (sub [1,1,1,1] bd_ref07_Marked)) (by kernel_rfl) [1,2,5,6] [1,2,5,6] _ h0 (fun z => ref07_Marked_J1 m_ k_ z = some r0) (fun z => ST_ref07_Marked_J1 m_ k_ z) ?_ fun J1 hJ1 => ?_
 ·rintro marked hf0
  unfold ref07_Marked_J1 at hf0
  refine awpAt X0 TTab_ok hC hm [1,2,5,6] 4000 [.cut 0] (sub [1,1,1,1] bd_ref07_Marked) (frs [1,1,1,1] [] bd_ref07_Marked []) [(1, .d (I k_)), (2, .own (.box (F22_ m_))), (5, .d (I ((m_.Rows.length : Nat) : Int))), (6, .own (eOs 1 false (eOs 1 true eB) marked))] [] (by kernel_rfl) fun st0 h0 => ?_
  refine awpJoin' (X := List (List Bool)) (x := (sub [1,1,1,1,2] bd_ref07_Marked)) (y := (sub [1,1,1,1,1] bd_ref07_Marked)) (by kernel_rfl) [6] [1,2,5,6] _ h0 (fun z => ref07_Marked_J2 z = some r0) (fun z => ST_ref07_Marked_J2 z) ?_ fun J2 hJ2 => ?_
  ·rintro marked1 hf0
   unfold ref07_Marked_J2 at hf0
   obtain rfl := someE hf0
   exact awpEnd X0 TTab_ok hC hm hE 4000 (hs := []) (x := (eOs 1 false (eOs 1 true eB) marked1)) [] (by kernel_rfl) (LeV.refl _)
  ·obtain ⟨t3, ht3, hf0⟩ := bindE hf0
   refine awpAt X0 TTab_ok hC hm [1,2,5,6,8] 4000 [] (sub [1,1,1,1,2,1,0] bd_ref07_Marked) (frs [1,1,1,1,2,1,0] [J2] bd_ref07_Marked []) [(1, .d (I k_)), (2, .own (.box (F22_ m_))), (5, .d (I ((m_.Rows.length : Nat) : Int))), (6, .own (eOs 1 false (eOs 1 true eB) marked)), (8, .d (I 0))] [] (by kernel_rfl) fun st0 h0 => ?_
   refine awpLoop' (X := (List (List Bool) × Int) × Nat) (c' := (sub [1,1,1,1,2,1,0,0] bd_ref07_Marked)) (by kernel_rfl) [1,2,5,6,8] (fun x => loopN (fun s => ref07_Marked_L3 m_ k_ s.1 s.2) x.2 x.1 = some t3) (fun x => x.2) (fun x => ST_ref07_Marked_L3 m_ k_ x.1.1 x.1.2) ((marked, 0), fuel) _ h0 inferInstance ht3 ?_
   rintro ⟨⟨marked2, round⟩, n3⟩ hn3 J3 hJ3
   obtain ⟨m3, lr1, rfl, hf1, hl1⟩ := loopE hn3
   try unfold ref07_Marked_L3 at hf1
   rcases bifE hf1 with ⟨c0, hf1⟩ | ⟨c0, hf1⟩
   ·refine awpAt X0 TTab_ok hC hm [1,2,5,6,8] 4000 [bT, .cut 0] (sub [1,1,1,1,2,1,0,0,1] bd_ref07_Marked) (frs [1,1,1,1,2,1,0,0,1] [J2, J3] bd_ref07_Marked []) [(1, .d (I k_)), (2, .own (.box (F22_ m_))), (5, .d (I ((m_.Rows.length : Nat) : Int))), (6, .own (eOs 1 false (eOs 1 true eB) marked2)), (8, .d (I round))] [ob c0] (by kernel_rfl) fun st0 h0 => ?_
    refine awpJoin' (X := List (List Bool)) (x := (sub [1,1,1,1,2,1,0,0,1,2] bd_ref07_Marked)) (y := (sub [1,1,1,1,2,1,0,0,1,1] bd_ref07_Marked)) (by kernel_rfl) [1,2,5,6,8] [1,2,5,6,8] _ h0 (fun z => ref07_Marked_J4 round z = some lr1) (fun z => ST_ref07_Marked_J4 m_ k_ round z) ?_ fun J4 hJ4 => ?_
    ·rintro marked3 hf1
     unfold ref07_Marked_J4 at hf1
     obtain rfl := someE hf1
     exact awpBack X0 TTab_ok hC hm [1,2,5,6,8] 4000 [] J3 [(1, .d (I k_)), (2, .own (.box (F22_ m_))), (5, .d (I ((m_.Rows.length : Nat) : Int))), (6, .own (eOs 1 false (eOs 1 true eB) marked3)), (8, .d (I (w64 (round + 1))))] [] (by kernel_rfl) fun st0 h0 => hJ3 st0 _ ((marked3, w64 (round + 1)), m3) hl1 (Nat.lt_succ_self m3) h0 inferInstance
    ·refine awpAt X0 TTab_ok hC hm [1,2,5,6,8,9] 4000 [.cut 1] (sub [1,1,1,1,2,1,0,0,1,2,0,1] bd_ref07_Marked) (frs [1,1,1,1,2,1,0,0,1,2,0,1] [J2, J3, J4] bd_ref07_Marked []) [(1, .d (I k_)), (2, .own (.box (F22_ m_))), (5, .d (I ((m_.Rows.length : Nat) : Int))), (6, .own (eOs 1 false (eOs 1 true eB) marked2)), (8, .d (I round)), (9, .own (eOs 1 true (eSl 1 false eB) []))] [] (by kernel_rfl) fun st0 h0 => ?_
     refine awpJoin' (X := List (List Bool)) (x := (sub [1,1,1,1,2,1,0,0,1,2,0,1,2] bd_ref07_Marked)) (y := (sub [1,1,1,1,2,1,0,0,1,2,0,1,1] bd_ref07_Marked)) (by kernel_rfl) [1,2,5,8,9] [1,2,5,6,8,9] _ h0 (fun z => ref07_Marked_J5 round z = some lr1) (fun z => ST_ref07_Marked_J5 m_ k_ round z) ?_ fun J5 hJ5 => ?_
     ·rintro next hf1
      unfold ref07_Marked_J5 at hf1
      exact awpBack X0 TTab_ok hC hm [1,2,5,6,8] 4000 [] J4 [(1, .d (I k_)), (2, .own (.box (F22_ m_))), (5, .d (I ((m_.Rows.length : Nat) : Int))), (6, .own (eOs 1 false (eOs 1 true eB) next)), (8, .d (I round))] [] (by kernel_rfl) fun st0 h0 => hJ4 st0 _ next hf1 h0 inferInstance
     ·obtain ⟨t6, ht6, hf1⟩ := bindE hf1
      refine awpAt X0 TTab_ok hC hm [1,2,5,6,8,9,10] 4000 [.n 3 [6], .l (marked2.map (eSl 1 true eB))] (sub [1,1,1,1,2,1,0,0,1,2,0,1,2,1,0] bd_ref07_Marked) (frs [1,1,1,1,2,1,0,0,1,2,0,1,2,1,0] [J2, J3, J4, J5] bd_ref07_Marked []) [(1, .d (I k_)), (2, .own (.box (F22_ m_))), (5, .d (I ((m_.Rows.length : Nat) : Int))), (6, .d (eSl 1 false (eSl 1 true eB) marked2)), (8, .d (I round)), (9, .own (eOs 1 true (eOs 1 true eB) [])), (10, .d (I 0))] [ob (shM (eOs 1 true eB) (eSl 1 true eB) marked2)] (by kernel_rfl) fun st0 h0 => ?_
      refine awpLoop' (X := (List (List Bool) × Int) × Nat) (c' := (sub [1,1,1,1,2,1,0,0,1,2,0,1,2,1,0,0] bd_ref07_Marked)) (by kernel_rfl) [1,2,5,6,8,9,10] (fun x => loopN (fun s => ref07_Marked_L6 m_ marked2 s.1 s.2) x.2 x.1 = some t6) (fun x => x.2) (fun x => ST_ref07_Marked_L6 m_ k_ marked2 round x.1.1 x.1.2) ((([] : List (List Bool)), 0), fuel) _ h0 inferInstance ht6 ?_
      rintro ⟨⟨next1, s_⟩, n6⟩ hn6 J6 hJ6
      obtain ⟨m6, lr2, rfl, hf2, hl2⟩ := loopE hn6
      try unfold ref07_Marked_L6 at hf2
      rcases bifE hf2 with ⟨c1, hf2⟩ | ⟨c1, hf2⟩
      ·refine awpAt X0 TTab_ok hC hm [1,2,5,6,8,9,10] 4000 [bT, .cut 0] (sub [1,1,1,1,2,1,0,0,1,2,0,1,2,1,0,0,1] bd_ref07_Marked) (frs [1,1,1,1,2,1,0,0,1,2,0,1,2,1,0,0,1] [J2, J3, J4, J5, J6] bd_ref07_Marked []) [(1, .d (I k_)), (2, .own (.box (F22_ m_))), (5, .d (I ((m_.Rows.length : Nat) : Int))), (6, .d (eSl 1 false (eSl 1 true eB) marked2)), (8, .d (I round)), (9, .own (eOs 1 false (eOs 1 true eB) next1)), (10, .d (I s_))] [ob c1] (by kernel_rfl) fun st0 h0 => ?_
       refine awpJoin' (X := List (List Bool)) (x := (sub [1,1,1,1,2,1,0,0,1,2,0,1,2,1,0,0,1,2] bd_ref07_Marked)) (y := (sub [1,1,1,1,2,1,0,0,1,2,0,1,2,1,0,0,1,1] bd_ref07_Marked)) (by kernel_rfl) [1,2,5,6,8,9,10] [1,2,5,6,8,9,10] _ h0 (fun z => ref07_Marked_J7 s_ z = some lr2) (fun z => ST_ref07_Marked_J7 m_ k_ marked2 round s_ z) ?_ fun J7 hJ7 => ?_
       ·rintro next2 hf2
        unfold ref07_Marked_J7 at hf2
        obtain rfl := someE hf2
        exact awpBack X0 TTab_ok hC hm [1,2,5,6,8,9,10] 4000 [] J6 [(1, .d (I k_)), (2, .own (.box (F22_ m_))), (5, .d (I ((m_.Rows.length : Nat) : Int))), (6, .d (eSl 1 false (eSl 1 true eB) marked2)), (8, .d (I round)), (9, .own (eOs 1 false (eOs 1 true eB) next2)), (10, .d (I (w64 (s_ + 1))))] [] (by kernel_rfl) fun st0 h0 => hJ6 st0 _ ((next2, w64 (s_ + 1)), m6) hl2 (Nat.lt_succ_self m6) h0 inferInstance
       ·obtain ⟨g0, hf2⟩ := gdE hf2
        have o1 := rM 1 eB ((m_.Rows.length : Nat) : Int) false
        have o2 := oC (eOs 1 true eB) (List.replicate ((m_.Rows.length : Nat) : Int).toNat false) []
        obtain ⟨g1, hf2⟩ := gdE hf2
        have o3 := aL (eOs 1 true eB) (eOs 1 true eB) g1
        have o4 := aM (eOs 1 true eB) next1 ([(List.replicate ((m_.Rows.length : Nat) : Int).toNat false)] : List (List Bool))
        obtain ⟨t8, ht8, hf2⟩ := bindE hf2
        refine awpAt X0 TTab_ok hC hm [1,2,5,6,8,9,10,11] 4000 [.a (eOs 1 true eB (List.replicate ((m_.Rows.length : Nat) : Int).toNat false)), bF, .l ((next1 ++ ([(List.replicate ((m_.Rows.length : Nat) : Int).toNat false)] : List (List Bool))).map (eOs 1 true eB))] (sub [1,1,1,1,2,1,0,0,1,2,0,1,2,1,0,0,1,2,0,1,1,0] bd_ref07_Marked) (frs [1,1,1,1,2,1,0,0,1,2,0,1,2,1,0,0,1,2,0,1,1,0] [J2, J3, J4, J5, J6, J7] bd_ref07_Marked []) [(1, .d (I k_)), (2, .own (.box (F22_ m_))), (5, .d (I ((m_.Rows.length : Nat) : Int))), (6, .d (eSl 1 false (eSl 1 true eB) marked2)), (8, .d (I round)), (9, .own (eOs 1 false (eOs 1 true eB) (next1 ++ ([(List.replicate ((m_.Rows.length : Nat) : Int).toNat false)] : List (List Bool))))), (10, .d (I s_)), (11, .d (I 0))] [ob (rL g0), ob o1, ob o2, ob o3, ob o4] (by kernel_rfl) fun st0 h0 => ?_
        refine awpLoop' (X := (List (List Bool) × Int) × Nat) (c' := (sub [1,1,1,1,2,1,0,0,1,2,0,1,2,1,0,0,1,2,0,1,1,0,0] bd_ref07_Marked)) (by kernel_rfl) [1,2,5,6,8,9,10,11] (fun x => loopN (fun s => ref07_Marked_L8 m_ marked2 s_ s.1 s.2) x.2 x.1 = some t8) (fun x => x.2) (fun x => ST_ref07_Marked_L8 m_ k_ marked2 round s_ x.1.1 x.1.2) (((next1 ++ ([(List.replicate ((m_.Rows.length : Nat) : Int).toNat false)] : List (List Bool))), 0), fuel) _ h0 inferInstance ht8 ?_
        rintro ⟨⟨next3, t_⟩, n8⟩ hn8 J8 hJ8
        obtain ⟨m8, lr3, rfl, hf3, hl3⟩ := loopE hn8
        try unfold ref07_Marked_L8 at hf3
        rcases bifE hf3 with ⟨c2, hf3⟩ | ⟨c2, hf3⟩
        ·obtain ⟨next_e, h0, hf3⟩ := bindE hf3
         obtain ⟨marked_e, h1, hf3⟩ := bindE hf3
         obtain ⟨marked_e_e, h2, hf3⟩ := bindE hf3
         rcases bifE hf3 with ⟨c3, hf3⟩ | ⟨c3, hf3⟩
         ·obtain ⟨next_e_e, h3, hf3⟩ := bindE hf3
          have o5 := sM (eOs 1 true eB) next3 s_ (next_e.set t_.toNat true)
          obtain rfl := someE hf3
          exact awpBack X0 TTab_ok hC hm [1,2,5,6,8,9,10,11] 4000 (bT :: .a ((eOs 1 true eB) next_e) :: .a ((eSl 1 true eB) marked_e) :: .a (eB marked_e_e) :: (rpN 7 bT [.a ((eOs 1 true eB) next_e), .a ((eOs 1 true eB) next_e), .a (eB next_e_e), .a ((eOs 1 true eB) next_e), .a (eB next_e_e), .l ((next_e.set t_.toNat true).map eB), .l ((next3.set s_.toNat (next_e.set t_.toNat true)).map (eOs 1 true eB))])) J8 [(1, .d (I k_)), (2, .own (.box (F22_ m_))), (5, .d (I ((m_.Rows.length : Nat) : Int))), (6, .d (eSl 1 false (eSl 1 true eB) marked2)), (8, .d (I round)), (9, .own (eOs 1 false (eOs 1 true eB) (next3.set s_.toNat (next_e.set t_.toNat true)))), (10, .d (I s_)), (11, .d (I (w64 (t_ + 1))))] (ob c2 :: ob (iL (eOs 1 true eB) h0) :: ob (iM (eOs 1 true eB) h0) :: ob (i0 h1) :: ob (iM (eSl 1 true eB) h1) :: ob (i0 h2) :: ob (iM eB h2) :: (rpN 7 (ob c3) [ob (iM (eOs 1 true eB) h0), ob (iL eB h3), ob (iM (eOs 1 true eB) h0), ob (iM eB h3), ob (iM (eOs 1 true eB) h0), ob (iM eB h3), ob (sM eB next_e t_ true), ob o5])) (by kernel_rfl) fun st0 h0 => hJ8 st0 _ (((next3.set s_.toNat (next_e.set t_.toNat true)), w64 (t_ + 1)), m8) hl3 (Nat.lt_succ_self m8) h0 inferInstance
         ·obtain ⟨r_, h4, hf3⟩ := bindE hf3
          have o6 := hasF h_ref07_apart (x := (m_, marked2, s_, t_)) h4 (loC F22_ m_ <| loC (eSl 1 false (eSl 1 true eB)) marked2 <| loC (eI .i64) s_ <| loC (eI .i64) t_ <| loN)
          obtain ⟨next_e_e1, h5, hf3⟩ := bindE hf3
          have o7 := sM (eOs 1 true eB) next3 s_ (next_e.set t_.toNat (r_ == 1))
          obtain rfl := someE hf3
          exact awpBack X0 TTab_ok hC hm [1,2,5,6,8,9,10,11] 4000 (bT :: .a ((eOs 1 true eB) next_e) :: .a ((eSl 1 true eB) marked_e) :: .a (eB marked_e_e) :: (rpN 5 bF [.g [], .a ((eI .i64) r_), bF, bF, .a ((eOs 1 true eB) next_e), .a ((eOs 1 true eB) next_e), .a (eB next_e_e1), .a ((eOs 1 true eB) next_e), .a (eB next_e_e1), .l ((next_e.set t_.toNat (r_ == 1)).map eB), .l ((next3.set s_.toNat (next_e.set t_.toNat (r_ == 1))).map (eOs 1 true eB))])) J8 [(1, .d (I k_)), (2, .own (.box (F22_ m_))), (5, .d (I ((m_.Rows.length : Nat) : Int))), (6, .d (eSl 1 false (eSl 1 true eB) marked2)), (8, .d (I round)), (9, .own (eOs 1 false (eOs 1 true eB) (next3.set s_.toNat (next_e.set t_.toNat (r_ == 1))))), (10, .d (I s_)), (11, .d (I (w64 (t_ + 1))))] (ob c2 :: ob (iL (eOs 1 true eB) h0) :: ob (iM (eOs 1 true eB) h0) :: ob (i0 h1) :: ob (iM (eSl 1 true eB) h1) :: ob (i0 h2) :: ob (iM eB h2) :: (rpN 5 (ob c3) [ob (hasG h_ref07_apart), ob o6, ob c3, ob c3, ob (iM (eOs 1 true eB) h0), ob (iL eB h5), ob (iM (eOs 1 true eB) h0), ob (iM eB h5), ob (iM (eOs 1 true eB) h0), ob (iM eB h5), ob (sM eB next_e t_ (r_ == 1)), ob o7])) (by kernel_rfl) fun st0 h0 => hJ8 st0 _ (((next3.set s_.toNat (next_e.set t_.toNat (r_ == 1))), w64 (t_ + 1)), m8) hl3 (Nat.lt_succ_self m8) h0 inferInstance
        ·obtain rfl := someE hf3
         obtain rfl := hl3
         exact awpBack X0 TTab_ok hC hm [1,2,5,6,8,9,10] 4000 [bF] J7 [(1, .d (I k_)), (2, .own (.box (F22_ m_))), (5, .d (I ((m_.Rows.length : Nat) : Int))), (6, .d (eSl 1 false (eSl 1 true eB) marked2)), (8, .d (I round)), (9, .own (eOs 1 false (eOs 1 true eB) next3)), (10, .d (I s_))] [ob c2] (by kernel_rfl) fun st0 h0 => hJ7 st0 _ next3 hf2 h0 inferInstance
      ·obtain rfl := someE hf2
       obtain rfl := hl2
       exact awpBack X0 TTab_ok hC hm [1,2,5,8,9] 4000 [bF] J5 [(1, .d (I k_)), (2, .own (.box (F22_ m_))), (5, .d (I ((m_.Rows.length : Nat) : Int))), (8, .d (I round)), (9, .own (eOs 1 false (eOs 1 true eB) next1))] [ob c1] (by kernel_rfl) fun st0 h0 => hJ5 st0 _ next1 hf1 h0 inferInstance
   ·obtain rfl := someE hf1
    obtain rfl := hl1
    exact awpBack X0 TTab_ok hC hm [6] 4000 [bF] J2 [(6, .own (eOs 1 false (eOs 1 true eB) marked2))] [ob c0] (by kernel_rfl) fun st0 h0 => hJ2 st0 _ marked2 hf0 h0 inferInstance
 ·obtain ⟨t9, ht9, hf0⟩ := bindE hf0
  refine awpAt X0 TTab_ok hC hm [1,2,5,6,7] 4000 [] (sub [1,1,1,2,1,0] bd_ref07_Marked) (frs [1,1,1,2,1,0] [J1] bd_ref07_Marked []) [(1, .d (I k_)), (2, .own (.box (F22_ m_))), (5, .d (I ((m_.Rows.length : Nat) : Int))), (6, .own (eOs 1 true (eOs 1 true eB) [])), (7, .d (I 0))] [] (by kernel_rfl) fun st0 h0 => ?_
  refine awpLoop' (X := (List (List Bool) × Int) × Nat) (c' := (sub [1,1,1,2,1,0,0] bd_ref07_Marked)) (by kernel_rfl) [1,2,5,6,7] (fun x => loopN (fun s => ref07_Marked_L9 m_ s.1 s.2) x.2 x.1 = some t9) (fun x => x.2) (fun x => ST_ref07_Marked_L9 m_ k_ x.1.1 x.1.2) ((([] : List (List Bool)), 0), fuel) _ h0 inferInstance ht9 ?_
  rintro ⟨⟨marked4, s_1⟩, n9⟩ hn9 J9 hJ9
  obtain ⟨m9, lr1, rfl, hf1, hl1⟩ := loopE hn9
  try unfold ref07_Marked_L9 at hf1
  rcases bifE hf1 with ⟨c4, hf1⟩ | ⟨c4, hf1⟩
  ·obtain ⟨g2, hf1⟩ := gdE hf1
   have o8 := rM 1 eB ((m_.Rows.length : Nat) : Int) false
   have o9 := oC (eOs 1 true eB) (List.replicate ((m_.Rows.length : Nat) : Int).toNat false) []
   obtain ⟨g3, hf1⟩ := gdE hf1
   have o10 := aL (eOs 1 true eB) (eOs 1 true eB) g3
   have o11 := aM (eOs 1 true eB) marked4 ([(List.replicate ((m_.Rows.length : Nat) : Int).toNat false)] : List (List Bool))
   obtain rfl := someE hf1
   exact awpBack X0 TTab_ok hC hm [1,2,5,6,7] 4000 [bT, .a (eOs 1 true eB (List.replicate ((m_.Rows.length : Nat) : Int).toNat false)), bF, .l ((marked4 ++ ([(List.replicate ((m_.Rows.length : Nat) : Int).toNat false)] : List (List Bool))).map (eOs 1 true eB))] J9 [(1, .d (I k_)), (2, .own (.box (F22_ m_))), (5, .d (I ((m_.Rows.length : Nat) : Int))), (6, .own (eOs 1 false (eOs 1 true eB) (marked4 ++ ([(List.replicate ((m_.Rows.length : Nat) : Int).toNat false)] : List (List Bool))))), (7, .d (I (w64 (s_1 + 1))))] [ob c4, ob (rL g2), ob o8, ob o9, ob o10, ob o11] (by kernel_rfl) fun st0 h0 => hJ9 st0 _ (((marked4 ++ ([(List.replicate ((m_.Rows.length : Nat) : Int).toNat false)] : List (List Bool))), w64 (s_1 + 1)), m9) hl1 (Nat.lt_succ_self m9) h0 inferInstance
  ·obtain rfl := someE hf1
   obtain rfl := hl1
   exact awpBack X0 TTab_ok hC hm [1,2,5,6] 4000 [bF] J1 [(1, .d (I k_)), (2, .own (.box (F22_ m_))), (5, .d (I ((m_.Rows.length : Nat) : Int))), (6, .own (eOs 1 false (eOs 1 true eB) marked4))] [ob c4] (by kernel_rfl) fun st0 h0 => hJ1 st0 _ marked4 hf0 h0 inferInstance
noncomputable def bd_ref07_Partition : Code := (Try.f136.body).getD .skip
noncomputable def sp_ref07_Partition : Spec := spF (α := List (List Bool)) (ρ := List Int) 136 (fun x => [F6_ x]) (fun r => F4_ r) (fun x => ref07_Partition x) [] (by
 rintro a0 b0 h
 simp only [List.cons.injEq, and_true] at h
 have e0 := EncI.inj (f := F6_) _ _ h
 subst e0
 rfl)
abbrev ST_ref07_Partition_J1 (out : List Int) : List (Nat × T) := [(3, .own (eOs 1 false (eI .i64) out))]
abbrev ST_ref07_Partition_J3 (marked : List (List Bool)) (s_ : Int) (out2 : List Int) (n_1 : Int) : List (Nat × T) := [(0, .d (eSl 1 false (eSl 1 false eB) marked)), (3, .own (eOs 1 false (eI .i64) out2)), (4, .d (I n_1)), (5, .d (I s_))]
abbrev ST_ref07_Partition_J5 (marked : List (List Bool)) (out1 : List Int) (s_ : Int) (n_2 : Int) (b_1 : Int) : List (Nat × T) := [(0, .d (eSl 1 false (eSl 1 false eB) marked)), (3, .own (eOs 1 false (eI .i64) out1)), (4, .d (I n_2)), (5, .d (I s_)), (6, .d (I b_1))]
abbrev ST_ref07_Partition_J4 (marked : List (List Bool)) (out1 : List Int) (n_ : Int) (s_ : Int) (b_ : Int) : List (Nat × T) := [(0, .d (eSl 1 false (eSl 1 false eB) marked)), (3, .own (eOs 1 false (eI .i64) out1)), (4, .d (I n_)), (5, .d (I s_)), (6, .d (I b_))]
abbrev ST_ref07_Partition_J7 (marked : List (List Bool)) (out1 : List Int) (n_ : Int) (s_ : Int) (t_ : Int) (b_3 : Int) : List (Nat × T) := [(0, .d (eSl 1 false (eSl 1 false eB) marked)), (3, .own (eOs 1 false (eI .i64) out1)), (4, .d (I n_)), (5, .d (I s_)), (6, .d (I b_3)), (7, .d (I t_))]
abbrev ST_ref07_Partition_L6 (marked : List (List Bool)) (out1 : List Int) (n_ : Int) (s_ : Int) (b_2 : Int) (t_ : Int) : List (Nat × T) := [(0, .d (eSl 1 false (eSl 1 false eB) marked)), (3, .own (eOs 1 false (eI .i64) out1)), (4, .d (I n_)), (5, .d (I s_)), (6, .d (I b_2)), (7, .d (I t_))]
abbrev ST_ref07_Partition_L2 (marked : List (List Bool)) (out1 : List Int) (n_ : Int) (s_ : Int) : List (Nat × T) := [(0, .d (eSl 1 false (eSl 1 false eB) marked)), (3, .own (eOs 1 false (eI .i64) out1)), (4, .d (I n_)), (5, .d (I s_))]
theorem w_ref07_Partition {ctr : Ctr} (hC : CtrOk Try.prog ctr) (hm : Try.prog.follows .mixedOrders = true) : sp_ref07_Partition.Ok Try.prog := by
 refine spF_ok ?_
 rintro marked r0 hf0
 try unfold ref07_Partition at hf0
 refine callOk_h (tt := TTab) (keep := true) (rs := [(2, none)]) (n := ⟨41, []⟩) (body := bd_ref07_Partition) TTab_ok Try.func136 rfl (by kernel_rfl) rfl rfl (by show (1 : Nat) ≤ 41; decide) fun E hE => ?_
 refine awpAt X0 TTab_ok hC hm [0,3,4] 4000 [.cut 3] (sub [1,1,1] bd_ref07_Partition) (frs [1,1,1] [] bd_ref07_Partition []) [(0, .d (eSl 1 false (eSl 1 false eB) marked)), (3, .own (eOs 1 true (eI .i64) [])), (4, .d (I 0))] [] (by kernel_rfl) fun st0 h0 => ?_
 refine awpJoin' (X := List Int) (x := (sub [1,1,1,2] bd_ref07_Partition)) (y := (sub [1,1,1,1] bd_ref07_Partition)) (by kernel_rfl) [3] [0,3,4] _ h0 (fun z => ref07_Partition_J1 z = some r0) (fun z => ST_ref07_Partition_J1 z) ?_ fun J1 hJ1 => ?_
 ·rintro out hf0
  unfold ref07_Partition_J1 at hf0
  obtain rfl := someE hf0
  exact awpEnd X0 TTab_ok hC hm hE 4000 (hs := []) (x := (eOs 1 false (eI .i64) out)) [] (by kernel_rfl) (LeV.refl _)
 ·obtain ⟨t2, ht2, hf0⟩ := bindE hf0
  refine awpAt X0 TTab_ok hC hm [0,3,4,5] 4000 [] (sub [1,1,1,2,1,0] bd_ref07_Partition) (frs [1,1,1,2,1,0] [J1] bd_ref07_Partition []) [(0, .d (eSl 1 false (eSl 1 false eB) marked)), (3, .own (eOs 1 true (eI .i64) [])), (4, .d (I 0)), (5, .d (I 0))] [] (by kernel_rfl) fun st0 h0 => ?_
  refine awpLoop' (X := (List Int × Int × Int) × Nat) (c' := (sub [1,1,1,2,1,0,0] bd_ref07_Partition)) (by kernel_rfl) [0,3,4,5] (fun x => loopN (fun s => ref07_Partition_L2 marked s.1 s.2.1 s.2.2) x.2 x.1 = some t2) (fun x => x.2) (fun x => ST_ref07_Partition_L2 marked x.1.1 x.1.2.1 x.1.2.2) ((([] : List Int), 0,0), fuel) _ h0 inferInstance ht2 ?_
  rintro ⟨⟨out1, n_, s_⟩, n2⟩ hn2 J2 hJ2
  obtain ⟨m2, lr1, rfl, hf1, hl1⟩ := loopE hn2
  try unfold ref07_Partition_L2 at hf1
  rcases bifE hf1 with ⟨c0, hf1⟩ | ⟨c0, hf1⟩
  ·refine awpAt X0 TTab_ok hC hm [0,3,4,5] 4000 [aLn marked.length, bT, .cut 0] (sub [1,1,1,2,1,0,0,1] bd_ref07_Partition) (frs [1,1,1,2,1,0,0,1] [J1, J2] bd_ref07_Partition []) [(0, .d (eSl 1 false (eSl 1 false eB) marked)), (3, .own (eOs 1 false (eI .i64) out1)), (4, .d (I n_)), (5, .d (I s_))] [ob (lnM (eSl 1 false eB) marked), ob c0] (by kernel_rfl) fun st0 h0 => ?_
   refine awpJoin' (X := List Int × Int) (x := (sub [1,1,1,2,1,0,0,1,2] bd_ref07_Partition)) (y := (sub [1,1,1,2,1,0,0,1,1] bd_ref07_Partition)) (by kernel_rfl) [0,3,4,5] [0,3,4,5] _ h0 (fun z => ref07_Partition_J3 s_ z.1 z.2 = some lr1) (fun z => ST_ref07_Partition_J3 marked s_ z.1 z.2) ?_ fun J3 hJ3 => ?_
   ·rintro ⟨out2, n_1⟩ hf1
    unfold ref07_Partition_J3 at hf1
    obtain rfl := someE hf1
    exact awpBack X0 TTab_ok hC hm [0,3,4,5] 4000 [] J2 [(0, .d (eSl 1 false (eSl 1 false eB) marked)), (3, .own (eOs 1 false (eI .i64) out2)), (4, .d (I n_1)), (5, .d (I (w64 (s_ + 1))))] [] (by kernel_rfl) fun st0 h0 => hJ2 st0 _ ((out2, n_1, w64 (s_ + 1)), m2) hl1 (Nat.lt_succ_self m2) h0 inferInstance
   ·refine awpAt X0 TTab_ok hC hm [0,3,4,5,6] 4000 [.cut 1] (sub [1,1,1,2,1,0,0,1,2,0,1] bd_ref07_Partition) (frs [1,1,1,2,1,0,0,1,2,0,1] [J1, J2, J3] bd_ref07_Partition []) [(0, .d (eSl 1 false (eSl 1 false eB) marked)), (3, .own (eOs 1 false (eI .i64) out1)), (4, .d (I n_)), (5, .d (I s_)), (6, .d (I (-1)))] [] (by kernel_rfl) fun st0 h0 => ?_
    refine awpJoin' (X := Int) (x := (sub [1,1,1,2,1,0,0,1,2,0,1,2] bd_ref07_Partition)) (y := (sub [1,1,1,2,1,0,0,1,2,0,1,1] bd_ref07_Partition)) (by kernel_rfl) [0,3,4,5,6] [0,3,4,5,6] _ h0 (fun z => ref07_Partition_J4 out1 n_ s_ z = some lr1) (fun z => ST_ref07_Partition_J4 marked out1 n_ s_ z) ?_ fun J4 hJ4 => ?_
    ·rintro b_ hf1
     unfold ref07_Partition_J4 at hf1
     refine awpAt X0 TTab_ok hC hm [0,3,4,5,6] 4000 [.cut 0] (sub [1,1,1,2,1,0,0,1,2,0,1,1] bd_ref07_Partition) (frs [1,1,1,2,1,0,0,1,2,0,1,1] [J1, J2, J3] bd_ref07_Partition []) [(0, .d (eSl 1 false (eSl 1 false eB) marked)), (3, .own (eOs 1 false (eI .i64) out1)), (4, .d (I n_)), (5, .d (I s_)), (6, .d (I b_))] [] (by kernel_rfl) fun st0 h0 => ?_
     refine awpJoin' (X := Int × Int) (x := (sub [1,1,1,2,1,0,0,1,2,0,1,1,2] bd_ref07_Partition)) (y := (sub [1,1,1,2,1,0,0,1,2,0,1,1,1] bd_ref07_Partition)) (by kernel_rfl) [0,3,4,5,6] [0,3,4,5,6] _ h0 (fun z => ref07_Partition_J5 out1 s_ z.1 z.2 = some lr1) (fun z => ST_ref07_Partition_J5 marked out1 s_ z.1 z.2) ?_ fun J5 hJ5 => ?_
     ·rintro ⟨n_2, b_1⟩ hf1
      unfold ref07_Partition_J5 at hf1
      obtain ⟨g0, hf1⟩ := gdE hf1
      have o0 := aM (eI .i64) out1 ([b_1] : List Int)
      exact awpBack X0 TTab_ok hC hm [0,3,4,5] 4000 [bT, .l ((out1 ++ ([b_1] : List Int)).map (eI .i64))] J3 [(0, .d (eSl 1 false (eSl 1 false eB) marked)), (3, .own (eOs 1 false (eI .i64) (out1 ++ ([b_1] : List Int)))), (4, .d (I n_2)), (5, .d (I s_))] [ob (dM (eI .i64) ([b_1] : List Int)), ob (dM (eI .i64) ([b_1] : List Int)), ob (aL (eI .i64) (eI .i64) g0), ob o0] (by kernel_rfl) fun st0 h0 => hJ3 st0 _ ((out1 ++ ([b_1] : List Int)), n_2) hf1 h0 inferInstance
     ·rcases bifE hf1 with ⟨c1, hf1⟩ | ⟨c1, hf1⟩
      ·exact awpBack X0 TTab_ok hC hm [0,3,4,5,6] 4000 [bT] J5 [(0, .d (eSl 1 false (eSl 1 false eB) marked)), (3, .own (eOs 1 false (eI .i64) out1)), (4, .d (I (w64 (n_ + 1)))), (5, .d (I s_)), (6, .d (I n_))] [ob c1] (by kernel_rfl) fun st0 h0 => hJ5 st0 _ (w64 (n_ + 1), n_) hf1 h0 inferInstance
      ·exact awpBack X0 TTab_ok hC hm [0,3,4,5,6] 4000 [bF] J5 [(0, .d (eSl 1 false (eSl 1 false eB) marked)), (3, .own (eOs 1 false (eI .i64) out1)), (4, .d (I n_)), (5, .d (I s_)), (6, .d (I b_))] [ob c1] (by kernel_rfl) fun st0 h0 => hJ5 st0 _ (n_, b_) hf1 h0 inferInstance
    ·obtain ⟨t6, ht6, hf1⟩ := bindE hf1
     refine awpAt X0 TTab_ok hC hm [0,3,4,5,6,7] 4000 [] (sub [1,1,1,2,1,0,0,1,2,0,1,2,1,0] bd_ref07_Partition) (frs [1,1,1,2,1,0,0,1,2,0,1,2,1,0] [J1, J2, J3, J4] bd_ref07_Partition []) [(0, .d (eSl 1 false (eSl 1 false eB) marked)), (3, .own (eOs 1 false (eI .i64) out1)), (4, .d (I n_)), (5, .d (I s_)), (6, .d (I (-1))), (7, .d (I 0))] [] (by kernel_rfl) fun st0 h0 => ?_
     refine awpLoop' (X := (Int × Int) × Nat) (c' := (sub [1,1,1,2,1,0,0,1,2,0,1,2,1,0,0] bd_ref07_Partition)) (by kernel_rfl) [0,3,4,5,6,7] (fun x => loopN (fun s => ref07_Partition_L6 marked out1 s_ s.1 s.2) x.2 x.1 = some t6) (fun x => x.2) (fun x => ST_ref07_Partition_L6 marked out1 n_ s_ x.1.1 x.1.2) (((-1), 0), fuel) _ h0 inferInstance ht6 ?_
     rintro ⟨⟨b_2, t_⟩, n6⟩ hn6 J6 hJ6
     obtain ⟨m6, lr2, rfl, hf2, hl2⟩ := loopE hn6
     try unfold ref07_Partition_L6 at hf2
     rcases bifE hf2 with ⟨c2, hf2⟩ | ⟨c2, hf2⟩
     ·refine awpAt X0 TTab_ok hC hm [0,3,4,5,6,7] 4000 [bT, .cut 0] (sub [1,1,1,2,1,0,0,1,2,0,1,2,1,0,0,1] bd_ref07_Partition) (frs [1,1,1,2,1,0,0,1,2,0,1,2,1,0,0,1] [J1, J2, J3, J4, J6] bd_ref07_Partition []) [(0, .d (eSl 1 false (eSl 1 false eB) marked)), (3, .own (eOs 1 false (eI .i64) out1)), (4, .d (I n_)), (5, .d (I s_)), (6, .d (I b_2)), (7, .d (I t_))] [ob c2] (by kernel_rfl) fun st0 h0 => ?_
      refine awpJoin' (X := Int) (x := (sub [1,1,1,2,1,0,0,1,2,0,1,2,1,0,0,1,2] bd_ref07_Partition)) (y := (sub [1,1,1,2,1,0,0,1,2,0,1,2,1,0,0,1,1] bd_ref07_Partition)) (by kernel_rfl) [0,3,4,5,6,7] [0,3,4,5,6,7] _ h0 (fun z => ref07_Partition_J7 t_ z = some lr2) (fun z => ST_ref07_Partition_J7 marked out1 n_ s_ t_ z) ?_ fun J7 hJ7 => ?_
      ·rintro b_3 hf2
       unfold ref07_Partition_J7 at hf2
       obtain rfl := someE hf2
       exact awpBack X0 TTab_ok hC hm [0,3,4,5,6,7] 4000 [] J6 [(0, .d (eSl 1 false (eSl 1 false eB) marked)), (3, .own (eOs 1 false (eI .i64) out1)), (4, .d (I n_)), (5, .d (I s_)), (6, .d (I b_3)), (7, .d (I (w64 (t_ + 1))))] [] (by kernel_rfl) fun st0 h0 => hJ6 st0 _ ((b_3, w64 (t_ + 1)), m6) hl2 (Nat.lt_succ_self m6) h0 inferInstance
      ·obtain ⟨marked_e, h0, hf2⟩ := bindE hf2
       obtain ⟨marked_e_e, h1, hf2⟩ := bindE hf2
       rcases bifE hf2 with ⟨c3, hf2⟩ | ⟨c3, hf2⟩
       ·obtain ⟨out_e, h2, hf2⟩ := bindE hf2
        exact awpBack X0 TTab_ok hC hm [0,3,4,5,6,7] 4000 [.a ((eSl 1 false eB) marked_e), .a (eB marked_e_e), bT, .a ((eI .i64) out_e)] J7 [(0, .d (eSl 1 false (eSl 1 false eB) marked)), (3, .own (eOs 1 false (eI .i64) out1)), (4, .d (I n_)), (5, .d (I s_)), (6, .d (I out_e)), (7, .d (I t_))] [ob (i0 h0), ob (iM (eSl 1 false eB) h0), ob (i0 h1), ob (iM eB h1), ob c3, ob (iL (eI .i64) h2), ob (iM (eI .i64) h2)] (by kernel_rfl) fun st0 h0 => hJ7 st0 _ out_e hf2 h0 inferInstance
       ·exact awpBack X0 TTab_ok hC hm [0,3,4,5,6,7] 4000 [.a ((eSl 1 false eB) marked_e), .a (eB marked_e_e), bF] J7 [(0, .d (eSl 1 false (eSl 1 false eB) marked)), (3, .own (eOs 1 false (eI .i64) out1)), (4, .d (I n_)), (5, .d (I s_)), (6, .d (I b_2)), (7, .d (I t_))] [ob (i0 h0), ob (iM (eSl 1 false eB) h0), ob (i0 h1), ob (iM eB h1), ob c3] (by kernel_rfl) fun st0 h0 => hJ7 st0 _ b_2 hf2 h0 inferInstance
     ·obtain rfl := someE hf2
      obtain rfl := hl2
      exact awpBack X0 TTab_ok hC hm [0,3,4,5,6] 4000 [bF] J4 [(0, .d (eSl 1 false (eSl 1 false eB) marked)), (3, .own (eOs 1 false (eI .i64) out1)), (4, .d (I n_)), (5, .d (I s_)), (6, .d (I b_2))] [ob c2] (by kernel_rfl) fun st0 h0 => hJ4 st0 _ b_2 hf1 h0 inferInstance
  ·obtain rfl := someE hf1
   obtain rfl := hl1
   exact awpBack X0 TTab_ok hC hm [3] 4000 [aLn marked.length, bF] J1 [(3, .own (eOs 1 false (eI .i64) out1))] [ob (lnM (eSl 1 false eB) marked), ob c0] (by kernel_rfl) fun st0 h0 => hJ1 st0 _ out1 hf0 h0 inferInstance
noncomputable def bd_ref07_Rounds : Code := (Try.f112.body).getD .skip
noncomputable def sp_ref07_Rounds : Spec := spF (α := S_api_Machine × Int) (ρ := List Int) 112 (fun x => [F22_ x.1, (eI .i64) x.2]) (fun r => F4_ r) (fun x => ref07_Rounds x.1 x.2) [] (by
 rintro ⟨a0, a1⟩ ⟨b0, b1⟩ h
 simp only [List.cons.injEq, and_true] at h
 have e0 := EncI.inj (f := F22_) _ _ h.1
 have e1 := EncI.inj (f := (eI .i64)) _ _ h.2
 subst e0 e1
 rfl)
theorem w_ref07_Rounds {ctr : Ctr} (hC : CtrOk Try.prog ctr) (hm : Try.prog.follows .mixedOrders = true) (h_ref07_Marked : ctr.Has sp_ref07_Marked) (h_ref07_Partition : ctr.Has sp_ref07_Partition) : sp_ref07_Rounds.Ok Try.prog := by
 refine spF_ok ?_
 rintro ⟨m_, k_⟩ r0 hf0
 try unfold ref07_Rounds at hf0
 refine callOk_h (tt := TTab) (keep := true) (rs := [(4, none)]) (n := ⟨9, []⟩) (body := bd_ref07_Rounds) TTab_ok Try.func112 rfl (by kernel_rfl) rfl rfl (by show (2 : Nat) ≤ 9; decide) fun E hE => ?_
 obtain ⟨r_, h0, hf0⟩ := bindE hf0
 have o0 := hasF h_ref07_Marked (x := (m_, k_)) h0 (loC F22_ m_ <| loC (eI .i64) k_ <| loN)
 have o1 := shM (eOs 1 true eB) (eSl 1 true eB) r_
 obtain ⟨r_1, h1, hf0⟩ := bindE hf0
 have o2 := hasF h_ref07_Partition (x := r_) h1 (loC (eSl 1 false (eSl 1 true eB)) r_ <| loN)
 have o3 := shM (eOs 1 true eB) (eSl 1 true eB) r_
 obtain rfl := someE hf0
 exact awpEnd X0 TTab_ok hC hm hE 4000 (hs := [.g [], .a ((eOs 1 false (eOs 1 true eB)) r_), .g [], .l (r_.map (eSl 1 true eB)), .a (F4_ r_1), .l (r_.map (eSl 1 true eB))]) (x := (eOs 1 false (eI .i64) r_1)) [ob (hasG h_ref07_Marked), ob o0, ob (hasG h_ref07_Partition), ob o1, ob o2, ob o3] (by kernel_rfl) (LeV.refl _)
noncomputable def bd_ref07_Classes : Code := (Try.f89.body).getD .skip
noncomputable def sp_ref07_Classes : Spec := spF (α := S_api_Machine) (ρ := List Int) 89 (fun x => [F22_ x]) (fun r => F4_ r) (fun x => ref07_Classes x) [] (by
 rintro a0 b0 h
 simp only [List.cons.injEq, and_true] at h
 have e0 := EncI.inj (f := F22_) _ _ h
 subst e0
 rfl)
theorem w_ref07_Classes {ctr : Ctr} (hC : CtrOk Try.prog ctr) (hm : Try.prog.follows .mixedOrders = true) (h_ref07_Rounds : ctr.Has sp_ref07_Rounds) : sp_ref07_Classes.Ok Try.prog := by
 refine spF_ok ?_
 rintro m_ r0 hf0
 try unfold ref07_Classes at hf0
 refine callOk_h (tt := TTab) (keep := true) (rs := [(2, none)]) (n := ⟨8, []⟩) (body := bd_ref07_Classes) TTab_ok Try.func89 rfl (by kernel_rfl) rfl rfl (by show (1 : Nat) ≤ 8; decide) fun E hE => ?_
 have o0 := lnM F13_ m_.Rows
 obtain ⟨r_, h0, hf0⟩ := bindE hf0
 have o1 := hasF h_ref07_Rounds (x := (m_, ((m_.Rows.length : Nat) : Int))) h0 (loC F22_ m_ <| loC (eI .i64) ((m_.Rows.length : Nat) : Int) <| loN)
 obtain rfl := someE hf0
 exact awpEnd X0 TTab_ok hC hm hE 4000 (hs := [aLn m_.Rows.length, .g [], .a (F4_ r_)]) (x := (eOs 1 false (eI .i64) r_)) [ob o0, ob (hasG h_ref07_Rounds), ob o1] (by kernel_rfl) (LeV.refl _)
noncomputable def bd_ref04_Next : Code := (Try.f75.body).getD .skip
noncomputable def sp_ref04_Next : Spec := spF (α := S_api_Machine × Int × Int) (ρ := S_api_Edge) 75 (fun x => [F22_ x.1, (eI .i64) x.2.1, (eI .i64) x.2.2]) (fun r => F9_ r) (fun x => ref04_Next x.1 x.2.1 x.2.2) [] (by
 rintro ⟨a0, a1, a2⟩ ⟨b0, b1, b2⟩ h
 simp only [List.cons.injEq, and_true] at h
 have e0 := EncI.inj (f := F22_) _ _ h.1
 have e1 := EncI.inj (f := (eI .i64)) _ _ h.2.1
 have e2 := EncI.inj (f := (eI .i64)) _ _ h.2.2
 subst e0 e1 e2
 rfl)
theorem w_ref04_Next {ctr : Ctr} (hC : CtrOk Try.prog ctr) (hm : Try.prog.follows .mixedOrders = true) : sp_ref04_Next.Ok Try.prog := by
 refine spF_ok ?_
 rintro ⟨m_, s_, i_⟩ r0 hf0
 try unfold ref04_Next at hf0
 refine callOk_h (tt := TTab) (keep := false) (rs := [(6, some 67)]) (n := ⟨18, []⟩) (body := bd_ref04_Next) TTab_ok Try.func75 rfl (by kernel_rfl) rfl rfl (by show (3 : Nat) ≤ 18; decide) fun E hE => ?_
 rcases bifE hf0 with ⟨c0, hf0⟩ | ⟨c0, hf0⟩
 ·obtain rfl := someE hf0
  exact awpEnd X0 TTab_ok hC hm hE 4000 (hs := [bT]) (x := (.agg [I (-1), I (-1)])) [ob c0] (by kernel_rfl) (LeV.refl _)
 ·obtain ⟨Row_e, h0, hf0⟩ := bindE hf0
  have o0 := iM F13_ h0
  obtain ⟨Row_e_e, h1, hf0⟩ := bindE hf0
  have o1 := iM F9_ h1
  obtain rfl := someE hf0
  exact awpEnd X0 TTab_ok hC hm hE 4000 (hs := [bF, .a (F13_ Row_e), .a (F9_ Row_e_e)]) (x := (.agg [I Row_e_e.To, I Row_e_e.Out])) [ob c0, ob (i0 h0), ob o0, ob (i0 h1), ob o1] (by kernel_rfl) (LeV.refl _)
noncomputable def bd_ref04_After : Code := (Try.f158.body).getD .skip
noncomputable def sp_ref04_After : Spec := spF (α := S_api_Machine × Int × List Int) (ρ := Int) 158 (fun x => [F22_ x.1, (eI .i64) x.2.1, F5_ x.2.2]) (fun r => (eI .i64) r) (fun x => ref04_After x.1 x.2.1 x.2.2) [] (by
 rintro ⟨a0, a1, a2⟩ ⟨b0, b1, b2⟩ h
 simp only [List.cons.injEq, and_true] at h
 have e0 := EncI.inj (f := F22_) _ _ h.1
 have e1 := EncI.inj (f := (eI .i64)) _ _ h.2.1
 have e2 := EncI.inj (f := F5_) _ _ h.2.2
 subst e0 e1 e2
 rfl)
theorem sp_ref04_After_inj : ∀ (x y : S_api_Machine × Int × List Int), (fun x => [F22_ x.1, (eI .i64) x.2.1, F5_ x.2.2]) x = (fun x => [F22_ x.1, (eI .i64) x.2.1, F5_ x.2.2]) y → x = y := by
 rintro ⟨a0, a1, a2⟩ ⟨b0, b1, b2⟩ h
 simp only [List.cons.injEq, and_true] at h
 have e0 := EncI.inj (f := F22_) _ _ h.1
 have e1 := EncI.inj (f := (eI .i64)) _ _ h.2.1
 have e2 := EncI.inj (f := F5_) _ _ h.2.2
 subst e0 e1 e2
 rfl
noncomputable def sp_ref04_After_r (rc_ : S_api_Machine → Int → (List Int) → Option Int) : Spec := spF (α := S_api_Machine × Int × List Int) (ρ := Int) 158 (fun x => [F22_ x.1, (eI .i64) x.2.1, F5_ x.2.2]) (fun r => (eI .i64) r) (fun x => rc_ x.1 x.2.1 x.2.2) [] (by
 intro x y h
 exact (congrArg (fun (p : S_api_Machine × Int × List Int) => p) (show x = y from sp_ref04_After_inj x y h)))
theorem w_ref04_After_b {ctr : Ctr} (hC : CtrOk Try.prog ctr) (hm : Try.prog.follows .mixedOrders = true) (h_ref04_Next : ctr.Has sp_ref04_Next) (rc_ : S_api_Machine → Int → (List Int) → Option Int) (h_rc_ : ctr.Has (sp_ref04_After_r rc_)) : (sp_ref04_After_r (ref04_After_b rc_)).Ok Try.prog := by
 refine spF_ok ?_
 rintro ⟨m_, s_, w_⟩ r0 hf0
 try unfold ref04_After_b at hf0
 refine callOk_h (tt := TTab) (keep := true) (rs := [(6, none)]) (n := ⟨22, []⟩) (body := bd_ref04_After) TTab_ok Try.func158 rfl (by kernel_rfl) rfl rfl (by show (3 : Nat) ≤ 22; decide) fun E hE => ?_
 rcases bifE hf0 with ⟨c0, hf0⟩ | ⟨c0, hf0⟩
 ·obtain rfl := someE hf0
  exact awpEnd X0 TTab_ok hC hm hE 4000 (hs := [aLn w_.length, bT]) (x := (I s_)) [ob (lnM (eI .i64) w_), ob c0] (by kernel_rfl) (LeV.refl _)
 ·obtain ⟨w__e, h0, hf0⟩ := bindE hf0
  obtain ⟨r_, h1, hf0⟩ := bindE hf0
  have o0 := hasF h_ref04_Next (x := (m_, s_, w__e)) h1 (loC F22_ m_ <| loC (eI .i64) s_ <| loC (eI .i64) w__e <| loN)
  obtain ⟨g0, hf0⟩ := gdE hf0
  have o1 := slE 1 false (eI .i64) w_ (1 : Int).toNat
  obtain ⟨r_1, h2, hf0⟩ := bindE hf0
  have o2 := hasF h_rc_ (x := (m_, r_.To, (w_.drop (1 : Int).toNat))) h2 (loC F22_ m_ <| loC (eI .i64) r_.To <| loC F5_ (w_.drop (1 : Int).toNat) <| loN)
  obtain rfl := someE hf0
  exact awpEnd ((xFld TTab_ok fd_67_0).or X0) TTab_ok hC hm hE 4000 (hs := [aLn w_.length, bF, .a ((eI .i64) w__e), .g [], .a (F9_ r_), .a (eSl 1 false (eI .i64) (w_.drop (1 : Int).toNat)), .g [], .a ((eI .i64) r_1)]) (x := (I r_1)) [ob (lnM (eI .i64) w_), ob c0, ob (i0 h0), ob (iM (eI .i64) h0), ob (hasG h_ref04_Next), ob o0, ob (slA g0), ob (sl100 (eI .i64) g0), ob o1, ob (hasG h_rc_), ob o2] (by kernel_rfl) (LeV.refl _)
theorem w_ref04_After {ctr : Ctr} (hC : CtrOk Try.prog ctr) (hm : Try.prog.follows .mixedOrders = true) (h_ref04_Next : ctr.Has sp_ref04_Next) : sp_ref04_After.Ok Try.prog := by
 have H : ∀ n, (sp_ref04_After_r (ref04_After_f n)).Ok Try.prog := by
  intro n
  induction n with
  | zero => exact spF_ok fun _ _ h => nomatch (show none = some _ from h)
  | succ n ih => exact w_ref04_After_b (Ctr.add_ok hC ih) hm (h_ref04_Next.add (by show (75 : Nat) ≠ 158; decide)) _ (Ctr.add_has _ _)
 exact spF_ok fun x r h => spF_callR (H _) h
noncomputable def bd_ref06_next : Code := (Try.f157.body).getD .skip
noncomputable def sp_ref06_next : Spec := spF (α := List Int × Int) (ρ := List Int) 157 (fun x => [F5_ x.1, (eI .i64) x.2]) (fun r => F4_ r) (fun x => ref06_next x.1 x.2) [] (by
 rintro ⟨a0, a1⟩ ⟨b0, b1⟩ h
 simp only [List.cons.injEq, and_true] at h
 have e0 := EncI.inj (f := F5_) _ _ h.1
 have e1 := EncI.inj (f := (eI .i64)) _ _ h.2
 subst e0 e1
 rfl)
abbrev ST_ref06_next_J1 (out : List Int) : List (Nat × T) := [(5, .own (eOs 1 false (eI .i64) out))]
abbrev ST_ref06_next_L2 (inputs : Int) (out1 : List Int) (k_ : Int) : List (Nat × T) := [(1, .d (I inputs)), (5, .own (eOs 1 false (eI .i64) out1)), (6, .d (I k_))]
theorem w_ref06_next {ctr : Ctr} (hC : CtrOk Try.prog ctr) (hm : Try.prog.follows .mixedOrders = true) : sp_ref06_next.Ok Try.prog := by
 refine spF_ok ?_
 rintro ⟨w_, inputs⟩ r0 hf0
 try unfold ref06_next at hf0
 refine callOk_h (tt := TTab) (keep := true) (rs := [(4, none)]) (n := ⟨37, []⟩) (body := bd_ref06_next) TTab_ok Try.func157 rfl (by kernel_rfl) rfl rfl (by show (2 : Nat) ≤ 37; decide) fun E hE => ?_
 obtain ⟨g0, hf0⟩ := gdE hf0
 refine awpAt X0 TTab_ok hC hm [1,5] 4000 [.l (w_.map (eI .i64)), .cut 0] (sub [1,1] bd_ref06_next) (frs [1,1] [] bd_ref06_next []) [(1, .d (I inputs)), (5, .own (eOs 1 false (eI .i64) w_))] [ob (dM (eI .i64) w_), ob (aL (eI .i64) (eI .i64) g0), ob (aM0 (eI .i64) w_)] (by kernel_rfl) fun st0 h0 => ?_
 refine awpJoin' (X := List Int) (x := (sub [1,1,2] bd_ref06_next)) (y := (sub [1,1,1] bd_ref06_next)) (by kernel_rfl) [5] [1,5] _ h0 (fun z => ref06_next_J1 z = some r0) (fun z => ST_ref06_next_J1 z) ?_ fun J1 hJ1 => ?_
 ·rintro out hf0
  unfold ref06_next_J1 at hf0
  obtain ⟨g1, hf0⟩ := gdE hf0
  obtain rfl := someE hf0
  exact awpEnd X0 TTab_ok hC hm hE 4000 (hs := [bT, .l ((out ++ ([0] : List Int)).map (eI .i64))]) (x := (eOs 1 false (eI .i64) (out ++ ([0] : List Int)))) [ob (dM (eI .i64) ([0] : List Int)), ob (dM (eI .i64) ([0] : List Int)), ob (aL (eI .i64) (eI .i64) g1), ob (aM (eI .i64) out ([0] : List Int))] (by kernel_rfl) (LeV.refl _)
 ·obtain ⟨t2, ht2, hf0⟩ := bindE hf0
  refine awpAt X0 TTab_ok hC hm [1,5,6] 4000 [aLn w_.length] (sub [1,1,2,1,0] bd_ref06_next) (frs [1,1,2,1,0] [J1] bd_ref06_next []) [(1, .d (I inputs)), (5, .own (eOs 1 false (eI .i64) w_)), (6, .d (I (w64 (((w_.length : Nat) : Int) - 1))))] [ob (lnM (eI .i64) w_)] (by kernel_rfl) fun st0 h0 => ?_
  refine awpLoop' (X := (List Int × Int) × Nat) (c' := (sub [1,1,2,1,0,0] bd_ref06_next)) (by kernel_rfl) [1,5,6] (fun x => loopN (fun s => ref06_next_L2 inputs s.1 s.2) x.2 x.1 = some t2) (fun x => x.2) (fun x => ST_ref06_next_L2 inputs x.1.1 x.1.2) ((w_, w64 (((w_.length : Nat) : Int) - 1)), fuel) _ h0 inferInstance ht2 ?_
  rintro ⟨⟨out1, k_⟩, n2⟩ hn2 J2 hJ2
  obtain ⟨m2, lr1, rfl, hf1, hl1⟩ := loopE hn2
  try unfold ref06_next_L2 at hf1
  rcases bifE hf1 with ⟨c0, hf1⟩ | ⟨c0, hf1⟩
  ·obtain ⟨out_e, h0, hf1⟩ := bindE hf1
   rcases bifE hf1 with ⟨c1, hf1⟩ | ⟨c1, hf1⟩
   ·obtain ⟨out_e1, h1, hf1⟩ := bindE hf1
    obtain ⟨out_e2, h2, hf1⟩ := bindE hf1
    have o0 := sM (eI .i64) out1 k_ (w64 (out_e1 + 1))
    obtain rfl := someE hf1
    obtain rfl := hl1
    obtain rfl := someE hf0
    exact awpEnd X0 TTab_ok hC hm hE 4000 (hs := [bT, .a ((eI .i64) out_e), bT, .a ((eI .i64) out_e1), .a ((eI .i64) out_e2), .a ((eI .i64) out_e2), .l ((out1.set k_.toNat (w64 (out_e1 + 1))).map (eI .i64))]) (x := (eOs 1 false (eI .i64) (out1.set k_.toNat (w64 (out_e1 + 1))))) [ob c0, ob (iL (eI .i64) h0), ob (iM (eI .i64) h0), ob c1, ob (iL (eI .i64) h1), ob (iM (eI .i64) h1), ob (iL (eI .i64) h2), ob (iM (eI .i64) h2), ob (iM (eI .i64) h2), ob o0] (by kernel_rfl) (LeV.refl _)
   ·obtain ⟨out_e3, h3, hf1⟩ := bindE hf1
    obtain rfl := someE hf1
    exact awpBack X0 TTab_ok hC hm [1,5,6] 4000 [bT, .a ((eI .i64) out_e), bF, .a ((eI .i64) out_e3), .a ((eI .i64) out_e3), .l ((out1.set k_.toNat 0).map (eI .i64))] J2 [(1, .d (I inputs)), (5, .own (eOs 1 false (eI .i64) (out1.set k_.toNat 0))), (6, .d (I (w64 (k_ - 1))))] [ob c0, ob (iL (eI .i64) h0), ob (iM (eI .i64) h0), ob c1, ob (iL (eI .i64) h3), ob (iM (eI .i64) h3), ob (iM (eI .i64) h3), ob (sM (eI .i64) out1 k_ 0)] (by kernel_rfl) fun st0 h0 => hJ2 st0 _ (((out1.set k_.toNat 0), w64 (k_ - 1)), m2) hl1 (Nat.lt_succ_self m2) h0 inferInstance
  ·obtain rfl := someE hf1
   obtain rfl := hl1
   exact awpBack X0 TTab_ok hC hm [5] 4000 [bF] J1 [(5, .own (eOs 1 false (eI .i64) out1))] [ob c0] (by kernel_rfl) fun st0 h0 => hJ1 st0 _ out1 hf0 h0 inferInstance
noncomputable def bd_ref06_Paths : Code := (Try.f144.body).getD .skip
noncomputable def sp_ref06_Paths : Spec := spF (α := S_api_Machine × Int) (ρ := List (List Int) × List Bool) 144 (fun x => [F22_ x.1, (eI .i64) x.2]) (fun r => .tup [(eSl 1 true F5_) r.1, (eSl 1 true eB) r.2]) (fun x => ref06_Paths x.1 x.2) [] (by
 rintro ⟨a0, a1⟩ ⟨b0, b1⟩ h
 simp only [List.cons.injEq, and_true] at h
 have e0 := EncI.inj (f := F22_) _ _ h.1
 have e1 := EncI.inj (f := (eI .i64)) _ _ h.2
 subst e0 e1
 rfl)
abbrev ST_ref06_Paths_J1 (l_ : List (List Int)) (is : List Bool) : List (Nat × T) := [(6, .own (eOs 1 true F5_ l_)), (7, .own (eOs 1 true eB is))]
abbrev ST_ref06_Paths_J3 (m_ : S_api_Machine) (from_ : Int) (w_ : List Int) (l_2 : List (List Int)) (is2 : List Bool) : List (Nat × T) := [(1, .d (I from_)), (2, .own (.box (F22_ m_))), (6, .own (eOs 1 true F5_ l_2)), (7, .own (eOs 1 true eB is2)), (8, .d (eSl 1 false (eI .i64) w_))]
abbrev ST_ref06_Paths_L2 (m_ : S_api_Machine) (from_ : Int) (l_1 : List (List Int)) (is1 : List Bool) (w_ : List Int) : List (Nat × T) := [(1, .d (I from_)), (2, .own (.box (F22_ m_))), (6, .own (eOs 1 true F5_ l_1)), (7, .own (eOs 1 true eB is1)), (8, .own (eOs 1 false (eI .i64) w_))]
theorem w_ref06_Paths {ctr : Ctr} (hC : CtrOk Try.prog ctr) (hm : Try.prog.follows .mixedOrders = true) (h_ref04_After : ctr.Has sp_ref04_After) (h_ref06_next : ctr.Has sp_ref06_next) : sp_ref06_Paths.Ok Try.prog := by
 refine spF_ok ?_
 rintro ⟨m_, from_⟩ r0 hf0
 try unfold ref06_Paths at hf0
 refine callOk_h (tt := TTab) (keep := false) (rs := [(4, none), (5, none)]) (n := ⟨51, []⟩) (body := bd_ref06_Paths) TTab_ok Try.func144 rfl (by kernel_rfl) rfl rfl (by show (2 : Nat) ≤ 51; decide) fun E hE => ?_
 have o0 := lnM F13_ m_.Rows
 obtain ⟨g0, hf0⟩ := gdE hf0
 have o1 := rM 1 (eOs 1 true (eI .i64)) ((m_.Rows.length : Nat) : Int) ([] : List Int)
 have o2 := shM (eOs 1 true (eI .i64)) F2_ (List.replicate ((m_.Rows.length : Nat) : Int).toNat ([] : List Int))
 have o3 := lnM F13_ m_.Rows
 obtain ⟨g1, hf0⟩ := gdE hf0
 have o4 := rM 1 eB ((m_.Rows.length : Nat) : Int) false
 refine awpAt ((xSeal TTab_ok (.inr 48) [8]).or X0) TTab_ok hC hm [1,2,6,7] 4000 [aLn m_.Rows.length, .a (eOs 1 true (eOs 1 true (eI .i64)) (List.replicate ((m_.Rows.length : Nat) : Int).toNat ([] : List Int))), .v 0 [6], .l ((List.replicate ((m_.Rows.length : Nat) : Int).toNat ([] : List Int)).map F2_), aLn m_.Rows.length, .a (eOs 1 true eB (List.replicate ((m_.Rows.length : Nat) : Int).toNat false)), .cut 0] (sub [1,1,1] bd_ref06_Paths) (frs [1,1,1] [] bd_ref06_Paths []) [(1, .d (I from_)), (2, .own (.box (F22_ m_))), (6, .own (eOs 1 true F2_ (List.replicate ((m_.Rows.length : Nat) : Int).toNat ([] : List Int)))), (7, .own (eOs 1 true eB (List.replicate ((m_.Rows.length : Nat) : Int).toNat false)))] [ob o0, ob (rL g0), ob o1, ob o2, ob o3, ob (rL g1), ob o4] (by kernel_rfl) fun st0 h0 => ?_
 refine awpJoin' (X := List (List Int) × List Bool) (x := (sub [1,1,1,2] bd_ref06_Paths)) (y := (sub [1,1,1,1] bd_ref06_Paths)) (by kernel_rfl) [6,7] [1,2,6,7] _ h0 (fun z => ref06_Paths_J1 z.1 z.2 = some r0) (fun z => ST_ref06_Paths_J1 z.1 z.2) ?_ fun J1 hJ1 => ?_
 ·rintro ⟨l_, is⟩ hf0
  unfold ref06_Paths_J1 at hf0
  have o5 := shM F5_ F5_ l_
  obtain rfl := someE hf0
  exact awpEnd ((xSeal TTab_ok (.inr 48) [8]).or X0) TTab_ok hC hm hE 4000 (hs := [.l (l_.map F5_), .l (is.map eB)]) (x := (.tup [eSl 1 true F5_ l_, eSl 1 true eB is])) [ob o5, ob (shM eB eB is)] (by kernel_rfl) (LeV.refl _)
 ·obtain ⟨t2, ht2, hf0⟩ := bindE hf0
  refine awpAt ((xSeal TTab_ok (.inr 48) [8]).or X0) TTab_ok hC hm [1,2,6,7,8] 4000 [] (sub [1,1,1,2,1,0] bd_ref06_Paths) (frs [1,1,1,2,1,0] [J1] bd_ref06_Paths []) [(1, .d (I from_)), (2, .own (.box (F22_ m_))), (6, .own (eOs 1 true F2_ (List.replicate ((m_.Rows.length : Nat) : Int).toNat ([] : List Int)))), (7, .own (eOs 1 true eB (List.replicate ((m_.Rows.length : Nat) : Int).toNat false))), (8, .own (eOs 1 true (eI .i64) []))] [] (by kernel_rfl) fun st0 h0 => ?_
  refine awpLoop' (X := (List (List Int) × List Bool × List Int) × Nat) (c' := (sub [1,1,1,2,1,0,0] bd_ref06_Paths)) (by kernel_rfl) [1,2,6,7,8] (fun x => loopN (fun s => ref06_Paths_L2 m_ from_ s.1 s.2.1 s.2.2) x.2 x.1 = some t2) (fun x => x.2) (fun x => ST_ref06_Paths_L2 m_ from_ x.1.1 x.1.2.1 x.1.2.2) (((List.replicate ((m_.Rows.length : Nat) : Int).toNat ([] : List Int)), (List.replicate ((m_.Rows.length : Nat) : Int).toNat false), ([] : List Int)), fuel) _ h0 inferInstance ht2 ?_
  rintro ⟨⟨l_1, is1, w_⟩, n2⟩ hn2 J2 hJ2
  obtain ⟨m2, lr1, rfl, hf1, hl1⟩ := loopE hn2
  try unfold ref06_Paths_L2 at hf1
  have o6 := lnM F13_ m_.Rows
  rcases bifE hf1 with ⟨c0, hf1⟩ | ⟨c0, hf1⟩
  ·refine awpAt ((xSeal TTab_ok (.inr 48) [8]).or X0) TTab_ok hC hm [1,2,6,7,8] 4000 [aLn w_.length, aLn m_.Rows.length, bT, .n 1 [8], .l (w_.map (eI .i64)), .cut 0] (sub [1,1,1,2,1,0,0,1] bd_ref06_Paths) (frs [1,1,1,2,1,0,0,1] [J1, J2] bd_ref06_Paths []) [(1, .d (I from_)), (2, .own (.box (F22_ m_))), (6, .own (eOs 1 true F5_ l_1)), (7, .own (eOs 1 true eB is1)), (8, .d (eSl 1 false (eI .i64) w_))] [ob (lnM (eI .i64) w_), ob o6, ob c0, ob (shM (eI .i64) (eI .i64) w_)] (by kernel_rfl) fun st0 h0 => ?_
   refine awpJoin' (X := List (List Int) × List Bool) (x := (sub [1,1,1,2,1,0,0,1,2] bd_ref06_Paths)) (y := (sub [1,1,1,2,1,0,0,1,1] bd_ref06_Paths)) (by kernel_rfl) [1,2,6,7,8] [1,2,6,7,8] _ h0 (fun z => ref06_Paths_J3 m_ w_ z.1 z.2 = some lr1) (fun z => ST_ref06_Paths_J3 m_ from_ w_ z.1 z.2) ?_ fun J3 hJ3 => ?_
   ·rintro ⟨l_2, is2⟩ hf1
    unfold ref06_Paths_J3 at hf1
    obtain ⟨r_, h0, hf1⟩ := bindE hf1
    have o7 := hasF h_ref06_next (x := (w_, m_.Inputs)) h0 (loC F5_ w_ <| loC (eI .i64) m_.Inputs <| loN)
    obtain rfl := someE hf1
    exact awpBack ((xSeal TTab_ok (.inr 48) [8]).or X0) TTab_ok hC hm [1,2,6,7,8] 4000 [.g [], .a (F4_ r_)] J2 [(1, .d (I from_)), (2, .own (.box (F22_ m_))), (6, .own (eOs 1 true F5_ l_2)), (7, .own (eOs 1 true eB is2)), (8, .own (eOs 1 false (eI .i64) r_))] [ob (hasG h_ref06_next), ob o7] (by kernel_rfl) fun st0 h0 => hJ2 st0 _ ((l_2, is2, r_), m2) hl1 (Nat.lt_succ_self m2) h0 inferInstance
   ·obtain ⟨r_1, h1, hf1⟩ := bindE hf1
    have o8 := hasF h_ref04_After (x := (m_, from_, w_)) h1 (loC F22_ m_ <| loC (eI .i64) from_ <| loC F5_ w_ <| loN)
    rcases bifE hf1 with ⟨c1, hf1⟩ | ⟨c1, hf1⟩
    ·obtain ⟨is_e, h2, hf1⟩ := bindE hf1
     rcases bifE hf1 with ⟨c2, hf1⟩ | ⟨c2, hf1⟩
     ·obtain ⟨is_e1, h3, hf1⟩ := bindE hf1
      obtain ⟨l__e, h4, hf1⟩ := bindE hf1
      have o9 := sM F5_ l_1 r_1 w_
      exact awpBack ((xSeal TTab_ok (.inr 48) [8]).or X0) TTab_ok hC hm [1,2,6,7,8] 4000 (.g [] :: .a ((eI .i64) r_1) :: (rpN 4 bT [.a (eB is_e), bT, bT, bT, .a (eB is_e1), .a (eB is_e1), .l ((is1.set r_1.toNat true).map eB), .a (F5_ l__e), .a (F5_ l__e), .l ((l_1.set r_1.toNat w_).map F5_)])) J3 [(1, .d (I from_)), (2, .own (.box (F22_ m_))), (6, .own (eOs 1 true F5_ (l_1.set r_1.toNat w_))), (7, .own (eOs 1 true eB (is1.set r_1.toNat true))), (8, .d (eSl 1 false (eI .i64) w_))] [ob (hasG h_ref04_After), ob o8, ob c1, ob c1, ob c1, ob (iL eB h2), ob c1, ob (iM eB h2), ob c1, ob c1, ob c2, ob (iL eB h3), ob (iM eB h3), ob (iM eB h3), ob (sM eB is1 r_1 true), ob (iL F5_ h4), ob (iM F5_ h4), ob (iM F5_ h4), ob o9] (by kernel_rfl) fun st0 h0 => hJ3 st0 _ ((l_1.set r_1.toNat w_), (is1.set r_1.toNat true)) hf1 h0 inferInstance
     ·exact awpBack ((xSeal TTab_ok (.inr 48) [8]).or X0) TTab_ok hC hm [1,2,6,7,8] 4000 (.g [] :: .a ((eI .i64) r_1) :: (rpN 4 bT [.a (eB is_e), bT, bT, bF])) J3 [(1, .d (I from_)), (2, .own (.box (F22_ m_))), (6, .own (eOs 1 true F5_ l_1)), (7, .own (eOs 1 true eB is1)), (8, .d (eSl 1 false (eI .i64) w_))] [ob (hasG h_ref04_After), ob o8, ob c1, ob c1, ob c1, ob (iL eB h2), ob c1, ob (iM eB h2), ob c1, ob c1, ob c2] (by kernel_rfl) fun st0 h0 => hJ3 st0 _ (l_1, is1) hf1 h0 inferInstance
    ·exact awpBack ((xSeal TTab_ok (.inr 48) [8]).or X0) TTab_ok hC hm [1,2,6,7,8] 4000 (.g [] :: .a ((eI .i64) r_1) :: (rpN 7 bF [])) J3 [(1, .d (I from_)), (2, .own (.box (F22_ m_))), (6, .own (eOs 1 true F5_ l_1)), (7, .own (eOs 1 true eB is1)), (8, .d (eSl 1 false (eI .i64) w_))] (ob (hasG h_ref04_After) :: ob o8 :: (rpN 6 (ob c1) [oF])) (by kernel_rfl) fun st0 h0 => hJ3 st0 _ (l_1, is1) hf1 h0 inferInstance
  ·obtain rfl := someE hf1
   obtain rfl := hl1
   exact awpBack ((xSeal TTab_ok (.inr 48) [8]).or X0) TTab_ok hC hm [6,7] 4000 [aLn w_.length, aLn m_.Rows.length, bF] J1 [(6, .own (eOs 1 true F5_ l_1)), (7, .own (eOs 1 true eB is1))] [ob (lnM (eI .i64) w_), ob o6, ob c0] (by kernel_rfl) fun st0 h0 => hJ1 st0 _ (l_1, is1) hf0 h0 inferInstance
noncomputable def bd_ref06_Access : Code := (Try.f119.body).getD .skip
noncomputable def sp_ref06_Access : Spec := spF (α := S_api_Machine) (ρ := List (List Int) × List Bool) 119 (fun x => [F22_ x]) (fun r => .tup [(eSl 1 true F5_) r.1, (eSl 1 true eB) r.2]) (fun x => ref06_Access x) [] (by
 rintro a0 b0 h
 simp only [List.cons.injEq, and_true] at h
 have e0 := EncI.inj (f := F22_) _ _ h
 subst e0
 rfl)
theorem w_ref06_Access {ctr : Ctr} (hC : CtrOk Try.prog ctr) (hm : Try.prog.follows .mixedOrders = true) (h_ref06_Paths : ctr.Has sp_ref06_Paths) : sp_ref06_Access.Ok Try.prog := by
 refine spF_ok ?_
 rintro m_ r0 hf0
 try unfold ref06_Access at hf0
 refine callOk_h (tt := TTab) (keep := false) (rs := [(2, none), (3, none)]) (n := ⟨8, []⟩) (body := bd_ref06_Access) TTab_ok Try.func119 rfl (by kernel_rfl) rfl rfl (by show (1 : Nat) ≤ 8; decide) fun E hE => ?_
 obtain ⟨r_, h0, hf0⟩ := bindE hf0
 have o0 := hasF h_ref06_Paths (x := (m_, 0)) h0 (loC F22_ m_ <| loC (eI .i64) 0 <| loN)
 obtain rfl := someE hf0
 exact awpEnd X0 TTab_ok hC hm hE 4000 (hs := [.g [], .a (.tup [eSl 1 true F5_ r_.1, eSl 1 true eB r_.2])]) (x := (.tup [eSl 1 true F5_ r_.1, eSl 1 true eB r_.2])) [ob (hasG h_ref06_Paths), ob o0] (by kernel_rfl) (LeV.refl _)
noncomputable def bd_ref06_less : Code := (Try.f120.body).getD .skip
noncomputable def sp_ref06_less : Spec := spF (α := List Int × List Int) (ρ := Int) 120 (fun x => [F5_ x.1, F5_ x.2]) (fun r => (eI .i64) r) (fun x => ref06_less x.1 x.2) [] (by
 rintro ⟨a0, a1⟩ ⟨b0, b1⟩ h
 simp only [List.cons.injEq, and_true] at h
 have e0 := EncI.inj (f := F5_) _ _ h.1
 have e1 := EncI.inj (f := F5_) _ _ h.2
 subst e0 e1
 rfl)
abbrev ST_ref06_less_J1 : List (Nat × T) := []
abbrev ST_ref06_less_L2 (a_ : List Int) (b_ : List Int) (i_ : Int) : List (Nat × T) := [(0, .d (eSl 1 false (eI .i64) a_)), (1, .d (eSl 1 false (eI .i64) b_)), (5, .d (I i_))]
theorem w_ref06_less {ctr : Ctr} (hC : CtrOk Try.prog ctr) (hm : Try.prog.follows .mixedOrders = true) : sp_ref06_less.Ok Try.prog := by
 refine spF_ok ?_
 rintro ⟨a_, b_⟩ r0 hf0
 try unfold ref06_less at hf0
 refine callOk_h (tt := TTab) (keep := true) (rs := [(4, none)]) (n := ⟨40, []⟩) (body := bd_ref06_less) TTab_ok Try.func120 rfl (by kernel_rfl) rfl rfl (by show (2 : Nat) ≤ 40; decide) fun E hE => ?_
 rcases bifE hf0 with ⟨c0, hf0⟩ | ⟨c0, hf0⟩
 ·rcases bifE hf0 with ⟨c1, hf0⟩ | ⟨c1, hf0⟩
  ·obtain rfl := someE hf0
   exact awpEnd X0 TTab_ok hC hm hE 4000 (hs := [aLn a_.length, aLn b_.length, bT, aLn a_.length, aLn b_.length, bT]) (x := (I 1)) [ob (lnM (eI .i64) a_), ob (lnM (eI .i64) b_), ob c0, ob (lnM (eI .i64) a_), ob (lnM (eI .i64) b_), ob c1] (by kernel_rfl) (LeV.refl _)
  ·obtain rfl := someE hf0
   exact awpEnd X0 TTab_ok hC hm hE 4000 (hs := [aLn a_.length, aLn b_.length, bT, aLn a_.length, aLn b_.length, bF]) (x := (I 0)) [ob (lnM (eI .i64) a_), ob (lnM (eI .i64) b_), ob c0, ob (lnM (eI .i64) a_), ob (lnM (eI .i64) b_), ob c1] (by kernel_rfl) (LeV.refl _)
 ·refine awpAt X0 TTab_ok hC hm [0,1] 4000 [aLn a_.length, aLn b_.length, bF, .cut 0] (sub [1,1] bd_ref06_less) (frs [1,1] [] bd_ref06_less []) [(0, .d (eSl 1 false (eI .i64) a_)), (1, .d (eSl 1 false (eI .i64) b_))] [ob (lnM (eI .i64) a_), ob (lnM (eI .i64) b_), ob c0] (by kernel_rfl) fun st0 h0 => ?_
  refine awpJoin' (X := Unit) (x := (sub [1,1,2] bd_ref06_less)) (y := (sub [1,1,1] bd_ref06_less)) (by kernel_rfl) [] [0,1] _ h0 (fun z => ref06_less_J1 = some r0) (fun z => ST_ref06_less_J1) ?_ fun J1 hJ1 => ?_
  ·rintro ⟨⟩ hf0
   unfold ref06_less_J1 at hf0
   obtain rfl := someE hf0
   exact awpEnd X0 TTab_ok hC hm hE 4000 (hs := []) (x := (I 0)) [] (by kernel_rfl) (LeV.refl _)
  ·obtain ⟨t2, ht2, hf0⟩ := bindE hf0
   refine awpAt X0 TTab_ok hC hm [0,1,5] 4000 [] (sub [1,1,2,1,0] bd_ref06_less) (frs [1,1,2,1,0] [J1] bd_ref06_less []) [(0, .d (eSl 1 false (eI .i64) a_)), (1, .d (eSl 1 false (eI .i64) b_)), (5, .d (I 0))] [] (by kernel_rfl) fun st0 h0 => ?_
   refine awpLoop' (X := Int × Nat) (c' := (sub [1,1,2,1,0,0] bd_ref06_less)) (by kernel_rfl) [0,1,5] (fun x => loopN (fun s => ref06_less_L2 a_ b_ s) x.2 x.1 = some t2) (fun x => x.2) (fun x => ST_ref06_less_L2 a_ b_ x.1) (0, fuel) _ h0 inferInstance ht2 ?_
   rintro ⟨i_, n2⟩ hn2 J2 hJ2
   obtain ⟨m2, lr1, rfl, hf1, hl1⟩ := loopE hn2
   try unfold ref06_less_L2 at hf1
   rcases bifE hf1 with ⟨c2, hf1⟩ | ⟨c2, hf1⟩
   ·obtain ⟨a__e, h0, hf1⟩ := bindE hf1
    obtain ⟨b__e, h1, hf1⟩ := bindE hf1
    rcases bifE hf1 with ⟨c3, hf1⟩ | ⟨c3, hf1⟩
    ·obtain ⟨a__e1, h2, hf1⟩ := bindE hf1
     obtain ⟨b__e1, h3, hf1⟩ := bindE hf1
     rcases bifE hf1 with ⟨c4, hf1⟩ | ⟨c4, hf1⟩
     ·obtain rfl := someE hf1
      obtain rfl := hl1
      obtain rfl := someE hf0
      exact awpEnd X0 TTab_ok hC hm hE 4000 (hs := [aLn a_.length, bT, .a ((eI .i64) a__e), .a ((eI .i64) b__e), bT, .a ((eI .i64) a__e1), .a ((eI .i64) b__e1), bT]) (x := (I 1)) [ob (lnM (eI .i64) a_), ob c2, ob (i0 h0), ob (iM (eI .i64) h0), ob (i0 h1), ob (iM (eI .i64) h1), ob c3, ob (i0 h2), ob (iM (eI .i64) h2), ob (i0 h3), ob (iM (eI .i64) h3), ob c4] (by kernel_rfl) (LeV.refl _)
     ·obtain rfl := someE hf1
      obtain rfl := hl1
      obtain rfl := someE hf0
      exact awpEnd X0 TTab_ok hC hm hE 4000 (hs := [aLn a_.length, bT, .a ((eI .i64) a__e), .a ((eI .i64) b__e), bT, .a ((eI .i64) a__e1), .a ((eI .i64) b__e1), bF]) (x := (I 0)) [ob (lnM (eI .i64) a_), ob c2, ob (i0 h0), ob (iM (eI .i64) h0), ob (i0 h1), ob (iM (eI .i64) h1), ob c3, ob (i0 h2), ob (iM (eI .i64) h2), ob (i0 h3), ob (iM (eI .i64) h3), ob c4] (by kernel_rfl) (LeV.refl _)
    ·obtain rfl := someE hf1
     exact awpBack X0 TTab_ok hC hm [0,1,5] 4000 [aLn a_.length, bT, .a ((eI .i64) a__e), .a ((eI .i64) b__e), bF] J2 [(0, .d (eSl 1 false (eI .i64) a_)), (1, .d (eSl 1 false (eI .i64) b_)), (5, .d (I (w64 (i_ + 1))))] [ob (lnM (eI .i64) a_), ob c2, ob (i0 h0), ob (iM (eI .i64) h0), ob (i0 h1), ob (iM (eI .i64) h1), ob c3] (by kernel_rfl) fun st0 h0 => hJ2 st0 _ (w64 (i_ + 1), m2) hl1 (Nat.lt_succ_self m2) h0 inferInstance
   ·obtain rfl := someE hf1
    obtain rfl := hl1
    exact awpBack X0 TTab_ok hC hm [] 4000 [aLn a_.length, bF] J1 [] [ob (lnM (eI .i64) a_), ob c2] (by kernel_rfl) fun st0 h0 => hJ1 st0 _ () hf0 h0 inferInstance
noncomputable def bd_ref06_Order : Code := (Try.f100.body).getD .skip
noncomputable def sp_ref06_Order : Spec := spF (α := S_api_Machine) (ρ := List Int) 100 (fun x => [F22_ x]) (fun r => F4_ r) (fun x => ref06_Order x) [] (by
 rintro a0 b0 h
 simp only [List.cons.injEq, and_true] at h
 have e0 := EncI.inj (f := F22_) _ _ h
 subst e0
 rfl)
abbrev ST_ref06_Order_J1 (out : List Int) : List (Nat × T) := [(5, .own (eOs 1 false (eI .i64) out))]
abbrev ST_ref06_Order_J3 (r_ : List (List Int) × List Bool) (s_ : Int) (out2 : List Int) : List (Nat × T) := [(3, .d (eSl 1 true F5_ r_.1)), (4, .d (eSl 1 true eB r_.2)), (5, .own (eOs 1 false (eI .i64) out2)), (6, .d (I s_))]
abbrev ST_ref06_Order_J4 (r_ : List (List Int) × List Bool) (out1 : List Int) (s_ : Int) (k_ : Int) : List (Nat × T) := [(3, .d (eSl 1 true F5_ r_.1)), (4, .d (eSl 1 true eB r_.2)), (5, .own (eOs 1 false (eI .i64) out1)), (6, .d (I s_)), (7, .d (I k_))]
abbrev ST_ref06_Order_L5 (r_ : List (List Int) × List Bool) (out1 : List Int) (s_ : Int) (k_1 : Int) : List (Nat × T) := [(3, .d (eSl 1 true F5_ r_.1)), (4, .d (eSl 1 true eB r_.2)), (5, .own (eOs 1 false (eI .i64) out1)), (6, .d (I s_)), (7, .d (I k_1))]
abbrev ST_ref06_Order_L2 (r_ : List (List Int) × List Bool) (out1 : List Int) (s_ : Int) : List (Nat × T) := [(3, .d (eSl 1 true F5_ r_.1)), (4, .d (eSl 1 true eB r_.2)), (5, .own (eOs 1 false (eI .i64) out1)), (6, .d (I s_))]
theorem w_ref06_Order {ctr : Ctr} (hC : CtrOk Try.prog ctr) (hm : Try.prog.follows .mixedOrders = true) (h_ref06_Access : ctr.Has sp_ref06_Access) (h_ref06_less : ctr.Has sp_ref06_less) : sp_ref06_Order.Ok Try.prog := by
 refine spF_ok ?_
 rintro m_ r0 hf0
 try unfold ref06_Order at hf0
 refine callOk_h (tt := TTab) (keep := true) (rs := [(2, none)]) (n := ⟨61, []⟩) (body := bd_ref06_Order) TTab_ok Try.func100 rfl (by kernel_rfl) rfl rfl (by show (1 : Nat) ≤ 61; decide) fun E hE => ?_
 obtain ⟨r_, h0, hf0⟩ := bindE hf0
 have o0 := hasF h_ref06_Access (x := m_) h0 (loC F22_ m_ <| loN)
 refine awpAt ((xSeal TTab_ok (.inl 49) []).or ((xSeal TTab_ok (.inl 47) [5]).or X0)) TTab_ok hC hm [3,4,5] 4000 [.g [], .a (.tup [eSl 1 true F5_ r_.1, eSl 1 true eB r_.2]), .cut 1] (sub [1,1,1] bd_ref06_Order) (frs [1,1,1] [] bd_ref06_Order []) [(3, .d (eSl 1 true F5_ r_.1)), (4, .d (eSl 1 true eB r_.2)), (5, .own (eOs 1 true (eI .i64) []))] [ob (hasG h_ref06_Access), ob o0] (by kernel_rfl) fun st0 h0 => ?_
 refine awpJoin' (X := List Int) (x := (sub [1,1,1,2] bd_ref06_Order)) (y := (sub [1,1,1,1] bd_ref06_Order)) (by kernel_rfl) [5] [3,4,5] _ h0 (fun z => ref06_Order_J1 z = some r0) (fun z => ST_ref06_Order_J1 z) ?_ fun J1 hJ1 => ?_
 ·rintro out hf0
  unfold ref06_Order_J1 at hf0
  obtain rfl := someE hf0
  exact awpEnd ((xSeal TTab_ok (.inl 49) []).or ((xSeal TTab_ok (.inl 47) [5]).or X0)) TTab_ok hC hm hE 4000 (hs := []) (x := (eOs 1 false (eI .i64) out)) [] (by kernel_rfl) (LeV.refl _)
 ·obtain ⟨t2, ht2, hf0⟩ := bindE hf0
  refine awpAt ((xSeal TTab_ok (.inl 49) []).or ((xSeal TTab_ok (.inl 47) [5]).or X0)) TTab_ok hC hm [3,4,5,6] 4000 [] (sub [1,1,1,2,1,0] bd_ref06_Order) (frs [1,1,1,2,1,0] [J1] bd_ref06_Order []) [(3, .d (eSl 1 true F5_ r_.1)), (4, .d (eSl 1 true eB r_.2)), (5, .own (eOs 1 true (eI .i64) [])), (6, .d (I 0))] [] (by kernel_rfl) fun st0 h0 => ?_
  refine awpLoop' (X := (List Int × Int) × Nat) (c' := (sub [1,1,1,2,1,0,0] bd_ref06_Order)) (by kernel_rfl) [3,4,5,6] (fun x => loopN (fun s => ref06_Order_L2 r_ s.1 s.2) x.2 x.1 = some t2) (fun x => x.2) (fun x => ST_ref06_Order_L2 r_ x.1.1 x.1.2) ((([] : List Int), 0), fuel) _ h0 inferInstance ht2 ?_
  rintro ⟨⟨out1, s_⟩, n2⟩ hn2 J2 hJ2
  obtain ⟨m2, lr1, rfl, hf1, hl1⟩ := loopE hn2
  try unfold ref06_Order_L2 at hf1
  rcases bifE hf1 with ⟨c0, hf1⟩ | ⟨c0, hf1⟩
  ·refine awpAt ((xSeal TTab_ok (.inl 49) []).or ((xSeal TTab_ok (.inl 47) [5]).or X0)) TTab_ok hC hm [3,4,5,6] 4000 [aLn r_.1.length, bT, .cut 0] (sub [1,1,1,2,1,0,0,1] bd_ref06_Order) (frs [1,1,1,2,1,0,0,1] [J1, J2] bd_ref06_Order []) [(3, .d (eSl 1 true F5_ r_.1)), (4, .d (eSl 1 true eB r_.2)), (5, .own (eOs 1 false (eI .i64) out1)), (6, .d (I s_))] [ob (lnM F5_ r_.1), ob c0] (by kernel_rfl) fun st0 h0 => ?_
   refine awpJoin' (X := List Int) (x := (sub [1,1,1,2,1,0,0,1,2] bd_ref06_Order)) (y := (sub [1,1,1,2,1,0,0,1,1] bd_ref06_Order)) (by kernel_rfl) [3,4,5,6] [3,4,5,6] _ h0 (fun z => ref06_Order_J3 s_ z = some lr1) (fun z => ST_ref06_Order_J3 r_ s_ z) ?_ fun J3 hJ3 => ?_
   ·rintro out2 hf1
    unfold ref06_Order_J3 at hf1
    obtain rfl := someE hf1
    exact awpBack ((xSeal TTab_ok (.inl 49) []).or ((xSeal TTab_ok (.inl 47) [5]).or X0)) TTab_ok hC hm [3,4,5,6] 4000 [] J2 [(3, .d (eSl 1 true F5_ r_.1)), (4, .d (eSl 1 true eB r_.2)), (5, .own (eOs 1 false (eI .i64) out2)), (6, .d (I (w64 (s_ + 1))))] [] (by kernel_rfl) fun st0 h0 => hJ2 st0 _ ((out2, w64 (s_ + 1)), m2) hl1 (Nat.lt_succ_self m2) h0 inferInstance
   ·obtain ⟨u_, h1, hf1⟩ := bindE hf1
    rcases bifE hf1 with ⟨c1, hf1⟩ | ⟨c1, hf1⟩
    ·exact awpBack ((xSeal TTab_ok (.inl 49) []).or ((xSeal TTab_ok (.inl 47) [5]).or X0)) TTab_ok hC hm [3,4,5,6] 4000 [.a (eB u_), bT] J3 [(3, .d (eSl 1 true F5_ r_.1)), (4, .d (eSl 1 true eB r_.2)), (5, .own (eOs 1 false (eI .i64) out1)), (6, .d (I s_))] [ob (i0 h1), ob (iM eB h1), ob c1] (by kernel_rfl) fun st0 h0 => hJ3 st0 _ out1 hf1 h0 inferInstance
    ·refine awpAt ((xSeal TTab_ok (.inl 49) []).or ((xSeal TTab_ok (.inl 47) [5]).or X0)) TTab_ok hC hm [3,4,5,6,7] 4000 [.a (eB u_), bF, .cut 1] (sub [1,1,1,2,1,0,0,1,2,0,1,1] bd_ref06_Order) (frs [1,1,1,2,1,0,0,1,2,0,1,1] [J1, J2, J3] bd_ref06_Order []) [(3, .d (eSl 1 true F5_ r_.1)), (4, .d (eSl 1 true eB r_.2)), (5, .own (eOs 1 false (eI .i64) out1)), (6, .d (I s_)), (7, .d (I 0))] [ob (i0 h1), ob (iM eB h1), ob c1] (by kernel_rfl) fun st0 h0 => ?_
     refine awpJoin' (X := Int) (x := (sub [1,1,1,2,1,0,0,1,2,0,1,1,2] bd_ref06_Order)) (y := (sub [1,1,1,2,1,0,0,1,2,0,1,1,1] bd_ref06_Order)) (by kernel_rfl) [3,4,5,6,7] [3,4,5,6,7] _ h0 (fun z => ref06_Order_J4 out1 s_ z = some lr1) (fun z => ST_ref06_Order_J4 r_ out1 s_ z) ?_ fun J4 hJ4 => ?_
     ·rintro k_ hf1
      unfold ref06_Order_J4 at hf1
      obtain ⟨g0, hf1⟩ := gdE hf1
      have o1 := slM 1 false (eI .i64) out1 0 k_.toNat
      have o2 := dM (eI .i64) ((out1.drop 0).take (k_.toNat - 0))
      obtain ⟨g1, hf1⟩ := gdE hf1
      have o3 := aM0 (eI .i64) ((out1.drop 0).take (k_.toNat - 0))
      obtain ⟨g2, hf1⟩ := gdE hf1
      have o4 := aM (eI .i64) ((out1.drop 0).take (k_.toNat - 0)) ([s_] : List Int)
      obtain ⟨g3, hf1⟩ := gdE hf1
      have o5 := slE 1 false (eI .i64) out1 k_.toNat
      obtain ⟨g4, hf1⟩ := gdE hf1
      have o6 := aM (eI .i64) (((out1.drop 0).take (k_.toNat - 0)) ++ ([s_] : List Int)) (out1.drop k_.toNat)
      exact awpBack ((xSeal TTab_ok (.inl 49) []).or ((xSeal TTab_ok (.inl 47) [5]).or X0)) TTab_ok hC hm [3,4,5,6] 4000 [.l (out1.map (eI .i64)), .a (eSl 1 false (eI .i64) ((out1.drop 0).take (k_.toNat - 0))), .l (((out1.drop 0).take (k_.toNat - 0)).map (eI .i64)), bT, .l ((((out1.drop 0).take (k_.toNat - 0)) ++ ([s_] : List Int)).map (eI .i64)), .a (eSl 1 false (eI .i64) (out1.drop k_.toNat)), .l (((((out1.drop 0).take (k_.toNat - 0)) ++ ([s_] : List Int)) ++ (out1.drop k_.toNat)).map (eI .i64))] J3 [(3, .d (eSl 1 true F5_ r_.1)), (4, .d (eSl 1 true eB r_.2)), (5, .own (eOs 1 false (eI .i64) ((((out1.drop 0).take (k_.toNat - 0)) ++ ([s_] : List Int)) ++ (out1.drop k_.toNat)))), (6, .d (I s_))] [ob (shM (eI .i64) (eI .i64) out1), ob (slB g0), ob (sl010 (eI .i64) g0), ob o1, ob o2, ob (aL (eI .i64) (eI .i64) g1), ob o3, ob (dM (eI .i64) ([s_] : List Int)), ob (dM (eI .i64) ([s_] : List Int)), ob (aL (eI .i64) (eI .i64) g2), ob o4, ob (slA g3), ob (sl100 (eI .i64) g3), ob o5, ob (dM (eI .i64) (out1.drop k_.toNat)), ob (aL (eI .i64) (eI .i64) g4), ob o6] (by kernel_rfl) fun st0 h0 => hJ3 st0 _ ((((out1.drop 0).take (k_.toNat - 0)) ++ ([s_] : List Int)) ++ (out1.drop k_.toNat)) hf1 h0 inferInstance
     ·obtain ⟨t5, ht5, hf1⟩ := bindE hf1
      refine awpAt ((xSeal TTab_ok (.inl 49) []).or ((xSeal TTab_ok (.inl 47) [5]).or X0)) TTab_ok hC hm [3,4,5,6,7] 4000 [] (sub [1,1,1,2,1,0,0,1,2,0,1,1,2,0] bd_ref06_Order) (frs [1,1,1,2,1,0,0,1,2,0,1,1,2,0] [J1, J2, J3, J4] bd_ref06_Order []) [(3, .d (eSl 1 true F5_ r_.1)), (4, .d (eSl 1 true eB r_.2)), (5, .own (eOs 1 false (eI .i64) out1)), (6, .d (I s_)), (7, .d (I 0))] [] (by kernel_rfl) fun st0 h0 => ?_
      refine awpLoop' (X := Int × Nat) (c' := (sub [1,1,1,2,1,0,0,1,2,0,1,1,2,0,0] bd_ref06_Order)) (by kernel_rfl) [3,4,5,6,7] (fun x => loopN (fun s => ref06_Order_L5 r_ out1 s_ s) x.2 x.1 = some t5) (fun x => x.2) (fun x => ST_ref06_Order_L5 r_ out1 s_ x.1) (0, fuel) _ h0 inferInstance ht5 ?_
      rintro ⟨k_1, n5⟩ hn5 J5 hJ5
      obtain ⟨m5, lr2, rfl, hf2, hl2⟩ := loopE hn5
      try unfold ref06_Order_L5 at hf2
      rcases bifE hf2 with ⟨c2, hf2⟩ | ⟨c2, hf2⟩
      ·obtain ⟨out_e, h2, hf2⟩ := bindE hf2
       obtain ⟨u_1, h3, hf2⟩ := bindE hf2
       obtain ⟨u_2, h4, hf2⟩ := bindE hf2
       obtain ⟨r_1, h5, hf2⟩ := bindE hf2
       have o7 := hasF h_ref06_less (x := (u_1, u_2)) h5 (loC F5_ u_1 <| loC F5_ u_2 <| loN)
       rcases bifE hf2 with ⟨c3, hf2⟩ | ⟨c3, hf2⟩
       ·obtain rfl := someE hf2
        exact awpBack ((xSeal TTab_ok (.inl 49) []).or ((xSeal TTab_ok (.inl 47) [5]).or X0)) TTab_ok hC hm [3,4,5,6,7] 4000 (aLn out1.length :: (rpN 5 bT (.a ((eI .i64) out_e) :: bT :: .a (F5_ u_1) :: (rpN 4 bT [.a (F5_ u_2), bT, bT, .g [], .a ((eI .i64) r_1), bT, bT, bT])))) J5 [(3, .d (eSl 1 true F5_ r_.1)), (4, .d (eSl 1 true eB r_.2)), (5, .own (eOs 1 false (eI .i64) out1)), (6, .d (I s_)), (7, .d (I (w64 (k_1 + 1))))] (ob (lnM (eI .i64) out1) :: (rpN 4 (ob c2) (ob (iL (eI .i64) h2) :: ob c2 :: ob (iM (eI .i64) h2) :: ob c2 :: ob (i0 h3) :: ob (iM F5_ h3) :: (rpN 4 (ob c2) [ob (i0 h4), ob (iM F5_ h4), ob c2, ob c2, ob (hasG h_ref06_less), ob o7, ob c2, ob c2, ob c3])))) (by kernel_rfl) fun st0 h0 => hJ5 st0 _ (w64 (k_1 + 1), m5) hl2 (Nat.lt_succ_self m5) h0 inferInstance
       ·obtain rfl := someE hf2
        obtain rfl := hl2
        exact awpBack ((xSeal TTab_ok (.inl 49) []).or ((xSeal TTab_ok (.inl 47) [5]).or X0)) TTab_ok hC hm [3,4,5,6,7] 4000 (aLn out1.length :: (rpN 5 bT (.a ((eI .i64) out_e) :: bT :: .a (F5_ u_1) :: (rpN 4 bT [.a (F5_ u_2), bT, bT, .g [], .a ((eI .i64) r_1), bT, bT, bF])))) J4 [(3, .d (eSl 1 true F5_ r_.1)), (4, .d (eSl 1 true eB r_.2)), (5, .own (eOs 1 false (eI .i64) out1)), (6, .d (I s_)), (7, .d (I k_1))] (ob (lnM (eI .i64) out1) :: (rpN 4 (ob c2) (ob (iL (eI .i64) h2) :: ob c2 :: ob (iM (eI .i64) h2) :: ob c2 :: ob (i0 h3) :: ob (iM F5_ h3) :: (rpN 4 (ob c2) [ob (i0 h4), ob (iM F5_ h4), ob c2, ob c2, ob (hasG h_ref06_less), ob o7, ob c2, ob c2, ob c3])))) (by kernel_rfl) fun st0 h0 => hJ4 st0 _ k_1 hf1 h0 inferInstance
      ·obtain rfl := someE hf2
       obtain rfl := hl2
       exact awpBack ((xSeal TTab_ok (.inl 49) []).or ((xSeal TTab_ok (.inl 47) [5]).or X0)) TTab_ok hC hm [3,4,5,6,7] 4000 (aLn out1.length :: (rpN 15 bF [])) J4 [(3, .d (eSl 1 true F5_ r_.1)), (4, .d (eSl 1 true eB r_.2)), (5, .own (eOs 1 false (eI .i64) out1)), (6, .d (I s_)), (7, .d (I k_1))] (ob (lnM (eI .i64) out1) :: (rpN 14 (ob c2) [oF])) (by kernel_rfl) fun st0 h0 => hJ4 st0 _ k_1 hf1 h0 inferInstance
  ·obtain rfl := someE hf1
   obtain rfl := hl1
   exact awpBack ((xSeal TTab_ok (.inl 49) []).or ((xSeal TTab_ok (.inl 47) [5]).or X0)) TTab_ok hC hm [5] 4000 [aLn r_.1.length, bF] J1 [(5, .own (eOs 1 false (eI .i64) out1))] [ob (lnM F5_ r_.1), ob c0] (by kernel_rfl) fun st0 h0 => hJ1 st0 _ out1 hf0 h0 inferInstance
noncomputable def bd_ref09_Firsts : Code := (Try.f76.body).getD .skip
noncomputable def sp_ref09_Firsts : Spec := spF (α := S_api_Machine) (ρ := List Int) 76 (fun x => [F22_ x]) (fun r => F4_ r) (fun x => ref09_Firsts x) [] (by
 rintro a0 b0 h
 simp only [List.cons.injEq, and_true] at h
 have e0 := EncI.inj (f := F22_) _ _ h
 subst e0
 rfl)
abbrev ST_ref09_Firsts_J1 (out : List Int) : List (Nat × T) := [(5, .own (eOs 1 false (eI .i64) out))]
abbrev ST_ref09_Firsts_J3 (r_ : List Int) (r_1 : List Int) (k_ : Int) (out2 : List Int) : List (Nat × T) := [(3, .own (eOs 1 false (eI .i64) r_)), (4, .own (eOs 1 false (eI .i64) r_1)), (5, .own (eOs 1 false (eI .i64) out2)), (6, .d (I k_))]
abbrev ST_ref09_Firsts_J4 (r_ : List Int) (r_1 : List Int) (out1 : List Int) (k_ : Int) (there : Int) : List (Nat × T) := [(3, .own (eOs 1 false (eI .i64) r_)), (4, .own (eOs 1 false (eI .i64) r_1)), (5, .own (eOs 1 false (eI .i64) out1)), (6, .d (I k_)), (7, .d (I there))]
abbrev ST_ref09_Firsts_J6 (r_ : List Int) (r_1 : List Int) (out1 : List Int) (k_ : Int) (n_ : Int) (there2 : Int) : List (Nat × T) := [(3, .own (eOs 1 false (eI .i64) r_)), (4, .own (eOs 1 false (eI .i64) r_1)), (5, .own (eOs 1 false (eI .i64) out1)), (6, .d (I k_)), (7, .d (I there2)), (8, .d (I n_))]
abbrev ST_ref09_Firsts_L5 (r_ : List Int) (r_1 : List Int) (out1 : List Int) (k_ : Int) (there1 : Int) (n_ : Int) : List (Nat × T) := [(3, .own (eOs 1 false (eI .i64) r_)), (4, .own (eOs 1 false (eI .i64) r_1)), (5, .own (eOs 1 false (eI .i64) out1)), (6, .d (I k_)), (7, .d (I there1)), (8, .d (I n_))]
abbrev ST_ref09_Firsts_L2 (r_ : List Int) (r_1 : List Int) (out1 : List Int) (k_ : Int) : List (Nat × T) := [(3, .own (eOs 1 false (eI .i64) r_)), (4, .own (eOs 1 false (eI .i64) r_1)), (5, .own (eOs 1 false (eI .i64) out1)), (6, .d (I k_))]
theorem w_ref09_Firsts {ctr : Ctr} (hC : CtrOk Try.prog ctr) (hm : Try.prog.follows .mixedOrders = true) (h_ref07_Classes : ctr.Has sp_ref07_Classes) (h_ref06_Order : ctr.Has sp_ref06_Order) : sp_ref09_Firsts.Ok Try.prog := by
 refine spF_ok ?_
 rintro m_ r0 hf0
 try unfold ref09_Firsts at hf0
 refine callOk_h (tt := TTab) (keep := true) (rs := [(2, none)]) (n := ⟨49, []⟩) (body := bd_ref09_Firsts) TTab_ok Try.func76 rfl (by kernel_rfl) rfl rfl (by show (1 : Nat) ≤ 49; decide) fun E hE => ?_
 obtain ⟨r_, h0, hf0⟩ := bindE hf0
 have o0 := hasF h_ref07_Classes (x := m_) h0 (loC F22_ m_ <| loN)
 obtain ⟨r_1, h1, hf0⟩ := bindE hf0
 have o1 := hasF h_ref06_Order (x := m_) h1 (loC F22_ m_ <| loN)
 refine awpAt X0 TTab_ok hC hm [3,4,5] 4000 [.g [], .a (F4_ r_), .g [], .a (F4_ r_1), .cut 1] (sub [1,1,1,1] bd_ref09_Firsts) (frs [1,1,1,1] [] bd_ref09_Firsts []) [(3, .own (eOs 1 false (eI .i64) r_)), (4, .own (eOs 1 false (eI .i64) r_1)), (5, .own (eOs 1 true (eI .i64) []))] [ob (hasG h_ref07_Classes), ob o0, ob (hasG h_ref06_Order), ob o1] (by kernel_rfl) fun st0 h0 => ?_
 refine awpJoin' (X := List Int) (x := (sub [1,1,1,1,2] bd_ref09_Firsts)) (y := (sub [1,1,1,1,1] bd_ref09_Firsts)) (by kernel_rfl) [5] [3,4,5] _ h0 (fun z => ref09_Firsts_J1 z = some r0) (fun z => ST_ref09_Firsts_J1 z) ?_ fun J1 hJ1 => ?_
 ·rintro out hf0
  unfold ref09_Firsts_J1 at hf0
  obtain rfl := someE hf0
  exact awpEnd X0 TTab_ok hC hm hE 4000 (hs := []) (x := (eOs 1 false (eI .i64) out)) [] (by kernel_rfl) (LeV.refl _)
 ·obtain ⟨t2, ht2, hf0⟩ := bindE hf0
  refine awpAt X0 TTab_ok hC hm [3,4,5,6] 4000 [] (sub [1,1,1,1,2,1,0] bd_ref09_Firsts) (frs [1,1,1,1,2,1,0] [J1] bd_ref09_Firsts []) [(3, .own (eOs 1 false (eI .i64) r_)), (4, .own (eOs 1 false (eI .i64) r_1)), (5, .own (eOs 1 true (eI .i64) [])), (6, .d (I 0))] [] (by kernel_rfl) fun st0 h0 => ?_
  refine awpLoop' (X := (List Int × Int) × Nat) (c' := (sub [1,1,1,1,2,1,0,0] bd_ref09_Firsts)) (by kernel_rfl) [3,4,5,6] (fun x => loopN (fun s => ref09_Firsts_L2 r_ r_1 s.1 s.2) x.2 x.1 = some t2) (fun x => x.2) (fun x => ST_ref09_Firsts_L2 r_ r_1 x.1.1 x.1.2) ((([] : List Int), 0), fuel) _ h0 inferInstance ht2 ?_
  rintro ⟨⟨out1, k_⟩, n2⟩ hn2 J2 hJ2
  obtain ⟨m2, lr1, rfl, hf1, hl1⟩ := loopE hn2
  try unfold ref09_Firsts_L2 at hf1
  rcases bifE hf1 with ⟨c0, hf1⟩ | ⟨c0, hf1⟩
  ·refine awpAt X0 TTab_ok hC hm [3,4,5,6] 4000 [aLn r_1.length, bT, .cut 0] (sub [1,1,1,1,2,1,0,0,1] bd_ref09_Firsts) (frs [1,1,1,1,2,1,0,0,1] [J1, J2] bd_ref09_Firsts []) [(3, .own (eOs 1 false (eI .i64) r_)), (4, .own (eOs 1 false (eI .i64) r_1)), (5, .own (eOs 1 false (eI .i64) out1)), (6, .d (I k_))] [ob (lnM (eI .i64) r_1), ob c0] (by kernel_rfl) fun st0 h0 => ?_
   refine awpJoin' (X := List Int) (x := (sub [1,1,1,1,2,1,0,0,1,2] bd_ref09_Firsts)) (y := (sub [1,1,1,1,2,1,0,0,1,1] bd_ref09_Firsts)) (by kernel_rfl) [3,4,5,6] [3,4,5,6] _ h0 (fun z => ref09_Firsts_J3 k_ z = some lr1) (fun z => ST_ref09_Firsts_J3 r_ r_1 k_ z) ?_ fun J3 hJ3 => ?_
   ·rintro out2 hf1
    unfold ref09_Firsts_J3 at hf1
    obtain rfl := someE hf1
    exact awpBack X0 TTab_ok hC hm [3,4,5,6] 4000 [] J2 [(3, .own (eOs 1 false (eI .i64) r_)), (4, .own (eOs 1 false (eI .i64) r_1)), (5, .own (eOs 1 false (eI .i64) out2)), (6, .d (I (w64 (k_ + 1))))] [] (by kernel_rfl) fun st0 h0 => hJ2 st0 _ ((out2, w64 (k_ + 1)), m2) hl1 (Nat.lt_succ_self m2) h0 inferInstance
   ·refine awpAt X0 TTab_ok hC hm [3,4,5,6,7] 4000 [.cut 1] (sub [1,1,1,1,2,1,0,0,1,2,0,1] bd_ref09_Firsts) (frs [1,1,1,1,2,1,0,0,1,2,0,1] [J1, J2, J3] bd_ref09_Firsts []) [(3, .own (eOs 1 false (eI .i64) r_)), (4, .own (eOs 1 false (eI .i64) r_1)), (5, .own (eOs 1 false (eI .i64) out1)), (6, .d (I k_)), (7, .d (I 0))] [] (by kernel_rfl) fun st0 h0 => ?_
    refine awpJoin' (X := Int) (x := (sub [1,1,1,1,2,1,0,0,1,2,0,1,2] bd_ref09_Firsts)) (y := (sub [1,1,1,1,2,1,0,0,1,2,0,1,1] bd_ref09_Firsts)) (by kernel_rfl) [3,4,5,6,7] [3,4,5,6,7] _ h0 (fun z => ref09_Firsts_J4 r_1 out1 k_ z = some lr1) (fun z => ST_ref09_Firsts_J4 r_ r_1 out1 k_ z) ?_ fun J4 hJ4 => ?_
    ·rintro there hf1
     unfold ref09_Firsts_J4 at hf1
     rcases bifE hf1 with ⟨c1, hf1⟩ | ⟨c1, hf1⟩
     ·obtain ⟨r__e, h2, hf1⟩ := bindE hf1
      obtain ⟨g0, hf1⟩ := gdE hf1
      have o2 := aM (eI .i64) out1 ([r__e] : List Int)
      exact awpBack X0 TTab_ok hC hm [3,4,5,6] 4000 [bT, .a ((eI .i64) r__e), bT, .l ((out1 ++ ([r__e] : List Int)).map (eI .i64))] J3 [(3, .own (eOs 1 false (eI .i64) r_)), (4, .own (eOs 1 false (eI .i64) r_1)), (5, .own (eOs 1 false (eI .i64) (out1 ++ ([r__e] : List Int)))), (6, .d (I k_))] [ob c1, ob (iL (eI .i64) h2), ob (iM (eI .i64) h2), ob (dM (eI .i64) ([r__e] : List Int)), ob (dM (eI .i64) ([r__e] : List Int)), ob (aL (eI .i64) (eI .i64) g0), ob o2] (by kernel_rfl) fun st0 h0 => hJ3 st0 _ (out1 ++ ([r__e] : List Int)) hf1 h0 inferInstance
     ·exact awpBack X0 TTab_ok hC hm [3,4,5,6] 4000 [bF] J3 [(3, .own (eOs 1 false (eI .i64) r_)), (4, .own (eOs 1 false (eI .i64) r_1)), (5, .own (eOs 1 false (eI .i64) out1)), (6, .d (I k_))] [ob c1] (by kernel_rfl) fun st0 h0 => hJ3 st0 _ out1 hf1 h0 inferInstance
    ·obtain ⟨t5, ht5, hf1⟩ := bindE hf1
     refine awpAt X0 TTab_ok hC hm [3,4,5,6,7,8] 4000 [] (sub [1,1,1,1,2,1,0,0,1,2,0,1,2,1,0] bd_ref09_Firsts) (frs [1,1,1,1,2,1,0,0,1,2,0,1,2,1,0] [J1, J2, J3, J4] bd_ref09_Firsts []) [(3, .own (eOs 1 false (eI .i64) r_)), (4, .own (eOs 1 false (eI .i64) r_1)), (5, .own (eOs 1 false (eI .i64) out1)), (6, .d (I k_)), (7, .d (I 0)), (8, .d (I 0))] [] (by kernel_rfl) fun st0 h0 => ?_
     refine awpLoop' (X := (Int × Int) × Nat) (c' := (sub [1,1,1,1,2,1,0,0,1,2,0,1,2,1,0,0] bd_ref09_Firsts)) (by kernel_rfl) [3,4,5,6,7,8] (fun x => loopN (fun s => ref09_Firsts_L5 r_ r_1 k_ s.1 s.2) x.2 x.1 = some t5) (fun x => x.2) (fun x => ST_ref09_Firsts_L5 r_ r_1 out1 k_ x.1.1 x.1.2) ((0,0), fuel) _ h0 inferInstance ht5 ?_
     rintro ⟨⟨there1, n_⟩, n5⟩ hn5 J5 hJ5
     obtain ⟨m5, lr2, rfl, hf2, hl2⟩ := loopE hn5
     try unfold ref09_Firsts_L5 at hf2
     rcases bifE hf2 with ⟨c2, hf2⟩ | ⟨c2, hf2⟩
     ·refine awpAt X0 TTab_ok hC hm [3,4,5,6,7,8] 4000 [bT, .cut 0] (sub [1,1,1,1,2,1,0,0,1,2,0,1,2,1,0,0,1] bd_ref09_Firsts) (frs [1,1,1,1,2,1,0,0,1,2,0,1,2,1,0,0,1] [J1, J2, J3, J4, J5] bd_ref09_Firsts []) [(3, .own (eOs 1 false (eI .i64) r_)), (4, .own (eOs 1 false (eI .i64) r_1)), (5, .own (eOs 1 false (eI .i64) out1)), (6, .d (I k_)), (7, .d (I there1)), (8, .d (I n_))] [ob c2] (by kernel_rfl) fun st0 h0 => ?_
      refine awpJoin' (X := Int) (x := (sub [1,1,1,1,2,1,0,0,1,2,0,1,2,1,0,0,1,2] bd_ref09_Firsts)) (y := (sub [1,1,1,1,2,1,0,0,1,2,0,1,2,1,0,0,1,1] bd_ref09_Firsts)) (by kernel_rfl) [3,4,5,6,7,8] [3,4,5,6,7,8] _ h0 (fun z => ref09_Firsts_J6 n_ z = some lr2) (fun z => ST_ref09_Firsts_J6 r_ r_1 out1 k_ n_ z) ?_ fun J6 hJ6 => ?_
      ·rintro there2 hf2
       unfold ref09_Firsts_J6 at hf2
       obtain rfl := someE hf2
       exact awpBack X0 TTab_ok hC hm [3,4,5,6,7,8] 4000 [] J5 [(3, .own (eOs 1 false (eI .i64) r_)), (4, .own (eOs 1 false (eI .i64) r_1)), (5, .own (eOs 1 false (eI .i64) out1)), (6, .d (I k_)), (7, .d (I there2)), (8, .d (I (w64 (n_ + 1))))] [] (by kernel_rfl) fun st0 h0 => hJ5 st0 _ ((there2, w64 (n_ + 1)), m5) hl2 (Nat.lt_succ_self m5) h0 inferInstance
      ·obtain ⟨r__e1, h3, hf2⟩ := bindE hf2
       obtain ⟨r__e2, h4, hf2⟩ := bindE hf2
       obtain ⟨r__e3, h5, hf2⟩ := bindE hf2
       obtain ⟨r__e4, h6, hf2⟩ := bindE hf2
       rcases bifE hf2 with ⟨c3, hf2⟩ | ⟨c3, hf2⟩
       ·exact awpBack X0 TTab_ok hC hm [3,4,5,6,7,8] 4000 [.a ((eI .i64) r__e1), .a ((eI .i64) r__e2), .a ((eI .i64) r__e3), .a ((eI .i64) r__e4), bT] J6 [(3, .own (eOs 1 false (eI .i64) r_)), (4, .own (eOs 1 false (eI .i64) r_1)), (5, .own (eOs 1 false (eI .i64) out1)), (6, .d (I k_)), (7, .d (I 1)), (8, .d (I n_))] [ob (iL (eI .i64) h3), ob (iM (eI .i64) h3), ob (iL (eI .i64) h4), ob (iM (eI .i64) h4), ob (iL (eI .i64) h5), ob (iM (eI .i64) h5), ob (iL (eI .i64) h6), ob (iM (eI .i64) h6), ob c3] (by kernel_rfl) fun st0 h0 => hJ6 st0 _ 1 hf2 h0 inferInstance
       ·exact awpBack X0 TTab_ok hC hm [3,4,5,6,7,8] 4000 [.a ((eI .i64) r__e1), .a ((eI .i64) r__e2), .a ((eI .i64) r__e3), .a ((eI .i64) r__e4), bF] J6 [(3, .own (eOs 1 false (eI .i64) r_)), (4, .own (eOs 1 false (eI .i64) r_1)), (5, .own (eOs 1 false (eI .i64) out1)), (6, .d (I k_)), (7, .d (I there1)), (8, .d (I n_))] [ob (iL (eI .i64) h3), ob (iM (eI .i64) h3), ob (iL (eI .i64) h4), ob (iM (eI .i64) h4), ob (iL (eI .i64) h5), ob (iM (eI .i64) h5), ob (iL (eI .i64) h6), ob (iM (eI .i64) h6), ob c3] (by kernel_rfl) fun st0 h0 => hJ6 st0 _ there1 hf2 h0 inferInstance
     ·obtain rfl := someE hf2
      obtain rfl := hl2
      exact awpBack X0 TTab_ok hC hm [3,4,5,6,7] 4000 [bF] J4 [(3, .own (eOs 1 false (eI .i64) r_)), (4, .own (eOs 1 false (eI .i64) r_1)), (5, .own (eOs 1 false (eI .i64) out1)), (6, .d (I k_)), (7, .d (I there1))] [ob c2] (by kernel_rfl) fun st0 h0 => hJ4 st0 _ there1 hf1 h0 inferInstance
  ·obtain rfl := someE hf1
   obtain rfl := hl1
   exact awpBack X0 TTab_ok hC hm [5] 4000 [aLn r_1.length, bF] J1 [(5, .own (eOs 1 false (eI .i64) out1))] [ob (lnM (eI .i64) r_1), ob c0] (by kernel_rfl) fun st0 h0 => hJ1 st0 _ out1 hf0 h0 inferInstance
end Go.Own
