/- -/
import Derived.Test.YtdnenbcldibnoaaPartE
set_option linter.unusedVariables false
set_option linter.unusedSimpArgs false
namespace Go.Own
open Go.Proofs
set_option linter.unusedVariables false
set_option maxRecDepth 100000
set_option maxHeartbeats 8000000
def X0 : XH Try.prog := xB TTab_ok
theorem mt_130 : MapT Try.prog 130 95 4 (okAgg [.i64, .i64]) (.atom (.bool false)) := mapT_agg Try.underlying130 _ Try.underlying95 (Go.Ex.i95_ok.eqn rfl) (ti95_ok.eqn rfl) rfl ⟨.bool false, fun w => zero_run (f := Try.t4) (by kernel_rfl) rfl w, fun S => rep1_atom.2 ⟨rfl, rfl⟩⟩ rfl
theorem so_78 : SortT Try.prog 78 2 := sortT_of TTab_ok (t := 95) Try.so78 rfl rfl (by kernel_rfl)
noncomputable def bd_law04_M_Of : Code := (Try.f11.body).getD .skip
noncomputable def sp_law04_M_Of : Spec := spF (α := S_law04_M) (ρ := S_api_Machine) 11 (fun x => [F16_ x]) (fun r => F19_ r) (fun x => law04_M_Of x) [] (by
  rintro a0 b0 h
  simp only [List.cons.injEq, and_true] at h
  have e0 := EncI.inj (f := F16_) _ _ h
  subst e0
  rfl)
abbrev ST_law04_M_Of_J1 (x_ : S_law04_M) (m_Rows : List (List S_api_Edge)) : List (Nat × T) := [(2, .own (.box (.agg [I 0, I 0, eOs 1 true F10_ []]))), (4, .own (.box (.agg [I (w64 (1 + (w64 (Int.tmod x_.Inputs 3)))), I (w64 (1 + (w64 (Int.tmod x_.Outputs 3)))), eOs 1 false F11_ m_Rows])))]
abbrev ST_law04_M_Of_J3 (x_ : S_law04_M) (s_ : Int) (m_Rows2 : List (List S_api_Edge)) : List (Nat × T) := [(1, .own (.box (F16_ x_))), (2, .own (.box (.agg [I 0, I 0, eOs 1 true F10_ []]))), (3, .d (I (w64 (1 + (w64 (Int.tmod x_.States 6)))))), (4, .own (.box (.agg [I (w64 (1 + (w64 (Int.tmod x_.Inputs 3)))), I (w64 (1 + (w64 (Int.tmod x_.Outputs 3)))), eOs 1 false F11_ m_Rows2]))), (5, .d (I s_))]
abbrev ST_law04_M_Of_J4 (x_ : S_law04_M) (m_Rows1 : List (List S_api_Edge)) (s_ : Int) (row : List S_api_Edge) : List (Nat × T) := [(1, .own (.box (F16_ x_))), (2, .own (.box (.agg [I 0, I 0, eOs 1 true F10_ []]))), (3, .d (I (w64 (1 + (w64 (Int.tmod x_.States 6)))))), (4, .own (.box (.agg [I (w64 (1 + (w64 (Int.tmod x_.Inputs 3)))), I (w64 (1 + (w64 (Int.tmod x_.Outputs 3)))), eOs 1 false F11_ m_Rows1]))), (5, .d (I s_)), (6, .own (eOs 2 false F7_ row))]
abbrev ST_law04_M_Of_J6 (x_ : S_law04_M) (m_Rows1 : List (List S_api_Edge)) (s_ : Int) (i_ : Int) (row2 : List S_api_Edge) : List (Nat × T) := [(1, .own (.box (F16_ x_))), (2, .own (.box (.agg [I 0, I 0, eOs 1 true F10_ []]))), (3, .d (I (w64 (1 + (w64 (Int.tmod x_.States 6)))))), (4, .own (.box (.agg [I (w64 (1 + (w64 (Int.tmod x_.Inputs 3)))), I (w64 (1 + (w64 (Int.tmod x_.Outputs 3)))), eOs 1 false F11_ m_Rows1]))), (5, .d (I s_)), (6, .own (eOs 2 false F7_ row2)), (7, .d (I i_))]
abbrev ST_law04_M_Of_J7 (x_ : S_law04_M) (m_Rows1 : List (List S_api_Edge)) (s_ : Int) (row1 : List S_api_Edge) (i_ : Int) (v_ : Int) : List (Nat × T) := [(1, .own (.box (F16_ x_))), (2, .own (.box (.agg [I 0, I 0, eOs 1 true F10_ []]))), (3, .d (I (w64 (1 + (w64 (Int.tmod x_.States 6)))))), (4, .own (.box (.agg [I (w64 (1 + (w64 (Int.tmod x_.Inputs 3)))), I (w64 (1 + (w64 (Int.tmod x_.Outputs 3)))), eOs 1 false F11_ m_Rows1]))), (5, .d (I s_)), (6, .own (eOs 2 false F7_ row1)), (7, .d (I i_)), (8, .d (I v_))]
abbrev ST_law04_M_Of_L5 (x_ : S_law04_M) (m_Rows1 : List (List S_api_Edge)) (s_ : Int) (row1 : List S_api_Edge) (i_ : Int) : List (Nat × T) := [(1, .own (.box (F16_ x_))), (2, .own (.box (.agg [I 0, I 0, eOs 1 true F10_ []]))), (3, .d (I (w64 (1 + (w64 (Int.tmod x_.States 6)))))), (4, .own (.box (.agg [I (w64 (1 + (w64 (Int.tmod x_.Inputs 3)))), I (w64 (1 + (w64 (Int.tmod x_.Outputs 3)))), eOs 1 false F11_ m_Rows1]))), (5, .d (I s_)), (6, .own (eOs 2 false F7_ row1)), (7, .d (I i_))]
abbrev ST_law04_M_Of_L2 (x_ : S_law04_M) (m_Rows1 : List (List S_api_Edge)) (s_ : Int) : List (Nat × T) := [(1, .own (.box (F16_ x_))), (2, .own (.box (.agg [I 0, I 0, eOs 1 true F10_ []]))), (3, .d (I (w64 (1 + (w64 (Int.tmod x_.States 6)))))), (4, .own (.box (.agg [I (w64 (1 + (w64 (Int.tmod x_.Inputs 3)))), I (w64 (1 + (w64 (Int.tmod x_.Outputs 3)))), eOs 1 false F11_ m_Rows1]))), (5, .d (I s_))]
theorem w_law04_M_Of {ctr : Ctr} (hC : CtrOk Try.prog ctr) (hm : Try.prog.follows .mixedOrders = true) : sp_law04_M_Of.Ok Try.prog := by
 refine spF_ok ?_
 rintro x_ r0 hf0
 try unfold law04_M_Of at hf0
 refine callOk_h (tt := TTab) (keep := false) (rs := [(2, some 34)]) (n := ⟨87, []⟩) (body := bd_law04_M_Of) TTab_ok Try.func11 rfl (by kernel_rfl) rfl rfl (by show (1 : Nat) ≤ 87; decide) fun E hE => ?_
 obtain ⟨g0, hf0⟩ := gdE hf0
 obtain ⟨g1, hf0⟩ := gdE hf0
 obtain ⟨g2, hf0⟩ := gdE hf0
 refine awpAt X0 TTab_ok hC hm [1, 2, 3, 4] 4000 [.cut 3] (sub [1, 1, 1] bd_law04_M_Of) (frs [1, 1, 1] [] bd_law04_M_Of []) [(1, .own (.box (F16_ x_))), (2, .own (.box (.agg [I 0, I 0, eOs 1 true F10_ []]))), (3, .d (I (w64 (1 + (w64 (Int.tmod x_.States 6)))))), (4, .own (.box (.agg [I (w64 (1 + (w64 (Int.tmod x_.Inputs 3)))), I (w64 (1 + (w64 (Int.tmod x_.Outputs 3)))), eOs 1 true F10_ []])))] [ob g0, ob g1, ob g2] (by kernel_rfl) fun st0 h0 => ?_
 refine awpJoin' (X := List (List S_api_Edge)) (x := (sub [1, 1, 1, 2] bd_law04_M_Of)) (y := (sub [1, 1, 1, 1] bd_law04_M_Of)) (by kernel_rfl) [2, 4] [1, 2, 3, 4] _ h0 (fun z => law04_M_Of_J1 x_ z = some r0) (fun z => ST_law04_M_Of_J1 x_ z) ?_ fun J1 hJ1 => ?_
 ·rintro m_Rows hf0
  unfold law04_M_Of_J1 at hf0
  have o0 := shM F11_ F10_ m_Rows
  obtain rfl := someE hf0
  exact awpEnd X0 TTab_ok hC hm hE 4000 (hs := [.l (m_Rows.map F10_)]) (x := (.agg [I (w64 (1 + (w64 (Int.tmod x_.Inputs 3)))), I (w64 (1 + (w64 (Int.tmod x_.Outputs 3)))), eSl 1 false F10_ m_Rows])) [ob o0] (by kernel_rfl) (LeV.refl _)
 ·obtain ⟨t2, ht2, hf0⟩ := bindE hf0
  refine awpAt X0 TTab_ok hC hm [1, 2, 3, 4, 5] 4000 [] (sub [1, 1, 1, 2, 1, 0] bd_law04_M_Of) (frs [1, 1, 1, 2, 1, 0] [J1] bd_law04_M_Of []) [(1, .own (.box (F16_ x_))), (2, .own (.box (.agg [I 0, I 0, eOs 1 true F10_ []]))), (3, .d (I (w64 (1 + (w64 (Int.tmod x_.States 6)))))), (4, .own (.box (.agg [I (w64 (1 + (w64 (Int.tmod x_.Inputs 3)))), I (w64 (1 + (w64 (Int.tmod x_.Outputs 3)))), eOs 1 true F11_ []]))), (5, .d (I 0))] [] (by kernel_rfl) fun st0 h0 => ?_
  refine awpLoop' (X := (List (List S_api_Edge) × Int) × Nat) (c' := (sub [1, 1, 1, 2, 1, 0, 0] bd_law04_M_Of)) (by kernel_rfl) [1, 2, 3, 4, 5] (fun x => loopN (fun s => law04_M_Of_L2 x_ s.1 s.2) x.2 x.1 = some t2) (fun x => x.2) (fun x => ST_law04_M_Of_L2 x_ x.1.1 x.1.2) ((([] : List (List S_api_Edge)), 0), fuel) _ h0 inferInstance ht2 ?_
  rintro ⟨⟨m_Rows1, s_⟩, n2⟩ hn2 J2 hJ2
  obtain ⟨m2, lr1, rfl, hf1, hl1⟩ := loopE hn2
  try unfold law04_M_Of_L2 at hf1
  rcases bifE hf1 with ⟨c0, hf1⟩ | ⟨c0, hf1⟩
  ·refine awpAt X0 TTab_ok hC hm [1, 2, 3, 4, 5] 4000 [bT, .cut 0] (sub [1, 1, 1, 2, 1, 0, 0, 1] bd_law04_M_Of) (frs [1, 1, 1, 2, 1, 0, 0, 1] [J1, J2] bd_law04_M_Of []) [(1, .own (.box (F16_ x_))), (2, .own (.box (.agg [I 0, I 0, eOs 1 true F10_ []]))), (3, .d (I (w64 (1 + (w64 (Int.tmod x_.States 6)))))), (4, .own (.box (.agg [I (w64 (1 + (w64 (Int.tmod x_.Inputs 3)))), I (w64 (1 + (w64 (Int.tmod x_.Outputs 3)))), eOs 1 false F11_ m_Rows1]))), (5, .d (I s_))] [ob c0] (by kernel_rfl) fun st0 h0 => ?_
   refine awpJoin' (X := List (List S_api_Edge)) (x := (sub [1, 1, 1, 2, 1, 0, 0, 1, 2] bd_law04_M_Of)) (y := (sub [1, 1, 1, 2, 1, 0, 0, 1, 1] bd_law04_M_Of)) (by kernel_rfl) [1, 2, 3, 4, 5] [1, 2, 3, 4, 5] _ h0 (fun z => law04_M_Of_J3 s_ z = some lr1) (fun z => ST_law04_M_Of_J3 x_ s_ z) ?_ fun J3 hJ3 => ?_
   ·rintro m_Rows2 hf1
    unfold law04_M_Of_J3 at hf1
    obtain rfl := someE hf1
    exact awpBack X0 TTab_ok hC hm [1, 2, 3, 4, 5] 4000 [] J2 [(1, .own (.box (F16_ x_))), (2, .own (.box (.agg [I 0, I 0, eOs 1 true F10_ []]))), (3, .d (I (w64 (1 + (w64 (Int.tmod x_.States 6)))))), (4, .own (.box (.agg [I (w64 (1 + (w64 (Int.tmod x_.Inputs 3)))), I (w64 (1 + (w64 (Int.tmod x_.Outputs 3)))), eOs 1 false F11_ m_Rows2]))), (5, .d (I (w64 (s_ + 1))))] [] (by kernel_rfl) fun st0 h0 => hJ2 st0 _ ((m_Rows2, w64 (s_ + 1)), m2) hl1 (Nat.lt_succ_self m2) h0 inferInstance
   ·refine awpAt X0 TTab_ok hC hm [1, 2, 3, 4, 5, 6] 4000 [.cut 1] (sub [1, 1, 1, 2, 1, 0, 0, 1, 2, 0, 1] bd_law04_M_Of) (frs [1, 1, 1, 2, 1, 0, 0, 1, 2, 0, 1] [J1, J2, J3] bd_law04_M_Of []) [(1, .own (.box (F16_ x_))), (2, .own (.box (.agg [I 0, I 0, eOs 1 true F10_ []]))), (3, .d (I (w64 (1 + (w64 (Int.tmod x_.States 6)))))), (4, .own (.box (.agg [I (w64 (1 + (w64 (Int.tmod x_.Inputs 3)))), I (w64 (1 + (w64 (Int.tmod x_.Outputs 3)))), eOs 1 false F11_ m_Rows1]))), (5, .d (I s_)), (6, .own (eOs 2 true F7_ []))] [] (by kernel_rfl) fun st0 h0 => ?_
    refine awpJoin' (X := List S_api_Edge) (x := (sub [1, 1, 1, 2, 1, 0, 0, 1, 2, 0, 1, 2] bd_law04_M_Of)) (y := (sub [1, 1, 1, 2, 1, 0, 0, 1, 2, 0, 1, 1] bd_law04_M_Of)) (by kernel_rfl) [1, 2, 3, 4, 5, 6] [1, 2, 3, 4, 5, 6] _ h0 (fun z => law04_M_Of_J4 m_Rows1 s_ z = some lr1) (fun z => ST_law04_M_Of_J4 x_ m_Rows1 s_ z) ?_ fun J4 hJ4 => ?_
    ·rintro row hf1
     unfold law04_M_Of_J4 at hf1
     have o1 := oC F11_ row []
     obtain ⟨g3, hf1⟩ := gdE hf1
     have o2 := aL F11_ F11_ g3
     have o3 := aM F11_ m_Rows1 ([row] : List (List S_api_Edge))
     exact awpBack X0 TTab_ok hC hm [1, 2, 3, 4, 5] 4000 [bF, .l ((m_Rows1 ++ ([row] : List (List S_api_Edge))).map F11_)] J3 [(1, .own (.box (F16_ x_))), (2, .own (.box (.agg [I 0, I 0, eOs 1 true F10_ []]))), (3, .d (I (w64 (1 + (w64 (Int.tmod x_.States 6)))))), (4, .own (.box (.agg [I (w64 (1 + (w64 (Int.tmod x_.Inputs 3)))), I (w64 (1 + (w64 (Int.tmod x_.Outputs 3)))), eOs 1 false F11_ (m_Rows1 ++ ([row] : List (List S_api_Edge)))]))), (5, .d (I s_))] [ob o1, ob o2, ob o3] (by kernel_rfl) fun st0 h0 => hJ3 st0 _ (m_Rows1 ++ ([row] : List (List S_api_Edge))) hf1 h0 inferInstance
    ·obtain ⟨t5, ht5, hf1⟩ := bindE hf1
     refine awpAt X0 TTab_ok hC hm [1, 2, 3, 4, 5, 6, 7] 4000 [] (sub [1, 1, 1, 2, 1, 0, 0, 1, 2, 0, 1, 2, 1, 0] bd_law04_M_Of) (frs [1, 1, 1, 2, 1, 0, 0, 1, 2, 0, 1, 2, 1, 0] [J1, J2, J3, J4] bd_law04_M_Of []) [(1, .own (.box (F16_ x_))), (2, .own (.box (.agg [I 0, I 0, eOs 1 true F10_ []]))), (3, .d (I (w64 (1 + (w64 (Int.tmod x_.States 6)))))), (4, .own (.box (.agg [I (w64 (1 + (w64 (Int.tmod x_.Inputs 3)))), I (w64 (1 + (w64 (Int.tmod x_.Outputs 3)))), eOs 1 false F11_ m_Rows1]))), (5, .d (I s_)), (6, .own (eOs 2 true F7_ [])), (7, .d (I 0))] [] (by kernel_rfl) fun st0 h0 => ?_
     refine awpLoop' (X := (List S_api_Edge × Int) × Nat) (c' := (sub [1, 1, 1, 2, 1, 0, 0, 1, 2, 0, 1, 2, 1, 0, 0] bd_law04_M_Of)) (by kernel_rfl) [1, 2, 3, 4, 5, 6, 7] (fun x => loopN (fun s => law04_M_Of_L5 x_ s_ s.1 s.2) x.2 x.1 = some t5) (fun x => x.2) (fun x => ST_law04_M_Of_L5 x_ m_Rows1 s_ x.1.1 x.1.2) ((([] : List S_api_Edge), 0), fuel) _ h0 inferInstance ht5 ?_
     rintro ⟨⟨row1, i_⟩, n5⟩ hn5 J5 hJ5
     obtain ⟨m5, lr2, rfl, hf2, hl2⟩ := loopE hn5
     try unfold law04_M_Of_L5 at hf2
     rcases bifE hf2 with ⟨c1, hf2⟩ | ⟨c1, hf2⟩
     ·refine awpAt X0 TTab_ok hC hm [1, 2, 3, 4, 5, 6, 7] 4000 [bT, .cut 0] (sub [1, 1, 1, 2, 1, 0, 0, 1, 2, 0, 1, 2, 1, 0, 0, 1] bd_law04_M_Of) (frs [1, 1, 1, 2, 1, 0, 0, 1, 2, 0, 1, 2, 1, 0, 0, 1] [J1, J2, J3, J4, J5] bd_law04_M_Of []) [(1, .own (.box (F16_ x_))), (2, .own (.box (.agg [I 0, I 0, eOs 1 true F10_ []]))), (3, .d (I (w64 (1 + (w64 (Int.tmod x_.States 6)))))), (4, .own (.box (.agg [I (w64 (1 + (w64 (Int.tmod x_.Inputs 3)))), I (w64 (1 + (w64 (Int.tmod x_.Outputs 3)))), eOs 1 false F11_ m_Rows1]))), (5, .d (I s_)), (6, .own (eOs 2 false F7_ row1)), (7, .d (I i_))] [ob c1] (by kernel_rfl) fun st0 h0 => ?_
      refine awpJoin' (X := List S_api_Edge) (x := (sub [1, 1, 1, 2, 1, 0, 0, 1, 2, 0, 1, 2, 1, 0, 0, 1, 2] bd_law04_M_Of)) (y := (sub [1, 1, 1, 2, 1, 0, 0, 1, 2, 0, 1, 2, 1, 0, 0, 1, 1] bd_law04_M_Of)) (by kernel_rfl) [1, 2, 3, 4, 5, 6, 7] [1, 2, 3, 4, 5, 6, 7] _ h0 (fun z => law04_M_Of_J6 i_ z = some lr2) (fun z => ST_law04_M_Of_J6 x_ m_Rows1 s_ i_ z) ?_ fun J6 hJ6 => ?_
      ·rintro row2 hf2
       unfold law04_M_Of_J6 at hf2
       obtain rfl := someE hf2
       exact awpBack X0 TTab_ok hC hm [1, 2, 3, 4, 5, 6, 7] 4000 [] J5 [(1, .own (.box (F16_ x_))), (2, .own (.box (.agg [I 0, I 0, eOs 1 true F10_ []]))), (3, .d (I (w64 (1 + (w64 (Int.tmod x_.States 6)))))), (4, .own (.box (.agg [I (w64 (1 + (w64 (Int.tmod x_.Inputs 3)))), I (w64 (1 + (w64 (Int.tmod x_.Outputs 3)))), eOs 1 false F11_ m_Rows1]))), (5, .d (I s_)), (6, .own (eOs 2 false F7_ row2)), (7, .d (I (w64 (i_ + 1))))] [] (by kernel_rfl) fun st0 h0 => hJ5 st0 _ ((row2, w64 (i_ + 1)), m5) hl2 (Nat.lt_succ_self m5) h0 inferInstance
      ·refine awpAt X0 TTab_ok hC hm [1, 2, 3, 4, 5, 6, 7, 8] 4000 [.cut 1] (sub [1, 1, 1, 2, 1, 0, 0, 1, 2, 0, 1, 2, 1, 0, 0, 1, 2, 0, 1] bd_law04_M_Of) (frs [1, 1, 1, 2, 1, 0, 0, 1, 2, 0, 1, 2, 1, 0, 0, 1, 2, 0, 1] [J1, J2, J3, J4, J5, J6] bd_law04_M_Of []) [(1, .own (.box (F16_ x_))), (2, .own (.box (.agg [I 0, I 0, eOs 1 true F10_ []]))), (3, .d (I (w64 (1 + (w64 (Int.tmod x_.States 6)))))), (4, .own (.box (.agg [I (w64 (1 + (w64 (Int.tmod x_.Inputs 3)))), I (w64 (1 + (w64 (Int.tmod x_.Outputs 3)))), eOs 1 false F11_ m_Rows1]))), (5, .d (I s_)), (6, .own (eOs 2 false F7_ row1)), (7, .d (I i_)), (8, .d (I 0))] [] (by kernel_rfl) fun st0 h0 => ?_
       refine awpJoin' (X := Int) (x := (sub [1, 1, 1, 2, 1, 0, 0, 1, 2, 0, 1, 2, 1, 0, 0, 1, 2, 0, 1, 2] bd_law04_M_Of)) (y := (sub [1, 1, 1, 2, 1, 0, 0, 1, 2, 0, 1, 2, 1, 0, 0, 1, 2, 0, 1, 1] bd_law04_M_Of)) (by kernel_rfl) [1, 2, 3, 4, 5, 6, 7, 8] [1, 2, 3, 4, 5, 6, 7, 8] _ h0 (fun z => law04_M_Of_J7 x_ row1 i_ z = some lr2) (fun z => ST_law04_M_Of_J7 x_ m_Rows1 s_ row1 i_ z) ?_ fun J7 hJ7 => ?_
       ·rintro v_ hf2
        unfold law04_M_Of_J7 at hf2
        rcases bifE hf2 with ⟨c2, hf2⟩ | ⟨c2, hf2⟩
        ·obtain ⟨g4, hf2⟩ := gdE hf2
         rcases bifE hf2 with ⟨c3, hf2⟩ | ⟨c3, hf2⟩
         ·have o4 := dM F7_ ([(S_api_Edge.mk (-1) (-1))] : List S_api_Edge)
          have o5 := dM F7_ ([(S_api_Edge.mk (-1) (-1))] : List S_api_Edge)
          obtain ⟨g5, hf2⟩ := gdE hf2
          have o6 := aL F7_ F7_ g5
          have o7 := aM F7_ row1 ([(S_api_Edge.mk (-1) (-1))] : List S_api_Edge)
          exact awpBack X0 TTab_ok hC hm [1, 2, 3, 4, 5, 6, 7] 4000 (rpN 6 bT [.l ((row1 ++ ([(S_api_Edge.mk (-1) (-1))] : List S_api_Edge)).map F7_)]) J6 [(1, .own (.box (F16_ x_))), (2, .own (.box (.agg [I 0, I 0, eOs 1 true F10_ []]))), (3, .d (I (w64 (1 + (w64 (Int.tmod x_.States 6)))))), (4, .own (.box (.agg [I (w64 (1 + (w64 (Int.tmod x_.Inputs 3)))), I (w64 (1 + (w64 (Int.tmod x_.Outputs 3)))), eOs 1 false F11_ m_Rows1]))), (5, .d (I s_)), (6, .own (eOs 2 false F7_ (row1 ++ ([(S_api_Edge.mk (-1) (-1))] : List S_api_Edge)))), (7, .d (I i_))] [ob c2, ob c2, ob g4, ob c2, ob c2, ob c3, ob o4, ob o5, ob o6, ob o7] (by kernel_rfl) fun st0 h0 => hJ6 st0 _ (row1 ++ ([(S_api_Edge.mk (-1) (-1))] : List S_api_Edge)) hf2 h0 inferInstance
         ·obtain ⟨g6, hf2⟩ := gdE hf2
          obtain ⟨g7, hf2⟩ := gdE hf2
          obtain ⟨g8, hf2⟩ := gdE hf2
          obtain ⟨g9, hf2⟩ := gdE hf2
          obtain ⟨g10, hf2⟩ := gdE hf2
          have o8 := dM F7_ ([(S_api_Edge.mk (Int.tmod (w64 (Int.tdiv v_ 4)) (w64 (1 + (w64 (Int.tmod x_.States 6))))) (Int.tmod (w64 (Int.tdiv (w64 (Int.tdiv v_ 4)) (w64 (1 + (w64 (Int.tmod x_.States 6)))))) (w64 (1 + (w64 (Int.tmod x_.Outputs 3))))))] : List S_api_Edge)
          have o9 := dM F7_ ([(S_api_Edge.mk (Int.tmod (w64 (Int.tdiv v_ 4)) (w64 (1 + (w64 (Int.tmod x_.States 6))))) (Int.tmod (w64 (Int.tdiv (w64 (Int.tdiv v_ 4)) (w64 (1 + (w64 (Int.tmod x_.States 6)))))) (w64 (1 + (w64 (Int.tmod x_.Outputs 3))))))] : List S_api_Edge)
          obtain ⟨g11, hf2⟩ := gdE hf2
          have o10 := aL F7_ F7_ g11
          have o11 := aM F7_ row1 ([(S_api_Edge.mk (Int.tmod (w64 (Int.tdiv v_ 4)) (w64 (1 + (w64 (Int.tmod x_.States 6))))) (Int.tmod (w64 (Int.tdiv (w64 (Int.tdiv v_ 4)) (w64 (1 + (w64 (Int.tmod x_.States 6)))))) (w64 (1 + (w64 (Int.tmod x_.Outputs 3))))))] : List S_api_Edge)
          exact awpBack X0 TTab_ok hC hm [1, 2, 3, 4, 5, 6, 7] 4000 (rpN 4 bT [bF, bT, .l ((row1 ++ ([(S_api_Edge.mk (Int.tmod (w64 (Int.tdiv v_ 4)) (w64 (1 + (w64 (Int.tmod x_.States 6))))) (Int.tmod (w64 (Int.tdiv (w64 (Int.tdiv v_ 4)) (w64 (1 + (w64 (Int.tmod x_.States 6)))))) (w64 (1 + (w64 (Int.tmod x_.Outputs 3))))))] : List S_api_Edge)).map F7_)]) J6 [(1, .own (.box (F16_ x_))), (2, .own (.box (.agg [I 0, I 0, eOs 1 true F10_ []]))), (3, .d (I (w64 (1 + (w64 (Int.tmod x_.States 6)))))), (4, .own (.box (.agg [I (w64 (1 + (w64 (Int.tmod x_.Inputs 3)))), I (w64 (1 + (w64 (Int.tmod x_.Outputs 3)))), eOs 1 false F11_ m_Rows1]))), (5, .d (I s_)), (6, .own (eOs 2 false F7_ (row1 ++ ([(S_api_Edge.mk (Int.tmod (w64 (Int.tdiv v_ 4)) (w64 (1 + (w64 (Int.tmod x_.States 6))))) (Int.tmod (w64 (Int.tdiv (w64 (Int.tdiv v_ 4)) (w64 (1 + (w64 (Int.tmod x_.States 6)))))) (w64 (1 + (w64 (Int.tmod x_.Outputs 3))))))] : List S_api_Edge)))), (7, .d (I i_))] [ob c2, ob c2, ob g4, ob c2, ob c2, ob c3, ob g6, ob g7, ob g8, ob g9, ob g10, ob o8, ob o9, ob o10, ob o11] (by kernel_rfl) fun st0 h0 => hJ6 st0 _ (row1 ++ ([(S_api_Edge.mk (Int.tmod (w64 (Int.tdiv v_ 4)) (w64 (1 + (w64 (Int.tmod x_.States 6))))) (Int.tmod (w64 (Int.tdiv (w64 (Int.tdiv v_ 4)) (w64 (1 + (w64 (Int.tmod x_.States 6)))))) (w64 (1 + (w64 (Int.tmod x_.Outputs 3))))))] : List S_api_Edge)) hf2 h0 inferInstance
        ·obtain ⟨g12, hf2⟩ := gdE hf2
         obtain ⟨g13, hf2⟩ := gdE hf2
         obtain ⟨g14, hf2⟩ := gdE hf2
         obtain ⟨g15, hf2⟩ := gdE hf2
         obtain ⟨g16, hf2⟩ := gdE hf2
         have o12 := dM F7_ ([(S_api_Edge.mk (Int.tmod (w64 (Int.tdiv v_ 4)) (w64 (1 + (w64 (Int.tmod x_.States 6))))) (Int.tmod (w64 (Int.tdiv (w64 (Int.tdiv v_ 4)) (w64 (1 + (w64 (Int.tmod x_.States 6)))))) (w64 (1 + (w64 (Int.tmod x_.Outputs 3))))))] : List S_api_Edge)
         have o13 := dM F7_ ([(S_api_Edge.mk (Int.tmod (w64 (Int.tdiv v_ 4)) (w64 (1 + (w64 (Int.tmod x_.States 6))))) (Int.tmod (w64 (Int.tdiv (w64 (Int.tdiv v_ 4)) (w64 (1 + (w64 (Int.tmod x_.States 6)))))) (w64 (1 + (w64 (Int.tmod x_.Outputs 3))))))] : List S_api_Edge)
         obtain ⟨g17, hf2⟩ := gdE hf2
         have o14 := aL F7_ F7_ g17
         have o15 := aM F7_ row1 ([(S_api_Edge.mk (Int.tmod (w64 (Int.tdiv v_ 4)) (w64 (1 + (w64 (Int.tmod x_.States 6))))) (Int.tmod (w64 (Int.tdiv (w64 (Int.tdiv v_ 4)) (w64 (1 + (w64 (Int.tmod x_.States 6)))))) (w64 (1 + (w64 (Int.tmod x_.Outputs 3))))))] : List S_api_Edge)
         exact awpBack X0 TTab_ok hC hm [1, 2, 3, 4, 5, 6, 7] 4000 (rpN 5 bF [bT, .l ((row1 ++ ([(S_api_Edge.mk (Int.tmod (w64 (Int.tdiv v_ 4)) (w64 (1 + (w64 (Int.tmod x_.States 6))))) (Int.tmod (w64 (Int.tdiv (w64 (Int.tdiv v_ 4)) (w64 (1 + (w64 (Int.tmod x_.States 6)))))) (w64 (1 + (w64 (Int.tmod x_.Outputs 3))))))] : List S_api_Edge)).map F7_)]) J6 [(1, .own (.box (F16_ x_))), (2, .own (.box (.agg [I 0, I 0, eOs 1 true F10_ []]))), (3, .d (I (w64 (1 + (w64 (Int.tmod x_.States 6)))))), (4, .own (.box (.agg [I (w64 (1 + (w64 (Int.tmod x_.Inputs 3)))), I (w64 (1 + (w64 (Int.tmod x_.Outputs 3)))), eOs 1 false F11_ m_Rows1]))), (5, .d (I s_)), (6, .own (eOs 2 false F7_ (row1 ++ ([(S_api_Edge.mk (Int.tmod (w64 (Int.tdiv v_ 4)) (w64 (1 + (w64 (Int.tmod x_.States 6))))) (Int.tmod (w64 (Int.tdiv (w64 (Int.tdiv v_ 4)) (w64 (1 + (w64 (Int.tmod x_.States 6)))))) (w64 (1 + (w64 (Int.tmod x_.Outputs 3))))))] : List S_api_Edge)))), (7, .d (I i_))] (rpN 4 (ob c2) [oF, ob g12, ob g13, ob g14, ob g15, ob g16, ob o12, ob o13, ob o14, ob o15]) (by kernel_rfl) fun st0 h0 => hJ6 st0 _ (row1 ++ ([(S_api_Edge.mk (Int.tmod (w64 (Int.tdiv v_ 4)) (w64 (1 + (w64 (Int.tmod x_.States 6))))) (Int.tmod (w64 (Int.tdiv (w64 (Int.tdiv v_ 4)) (w64 (1 + (w64 (Int.tmod x_.States 6)))))) (w64 (1 + (w64 (Int.tmod x_.Outputs 3))))))] : List S_api_Edge)) hf2 h0 inferInstance
       ·rcases bifE hf2 with ⟨c4, hf2⟩ | ⟨c4, hf2⟩
        ·obtain ⟨Edge_e, h0, hf2⟩ := bindE hf2
         exact awpBack X0 TTab_ok hC hm [1, 2, 3, 4, 5, 6, 7, 8] 4000 [aLn x_.Edges.length, bT, .a ((eI .u16) Edge_e)] J7 [(1, .own (.box (F16_ x_))), (2, .own (.box (.agg [I 0, I 0, eOs 1 true F10_ []]))), (3, .d (I (w64 (1 + (w64 (Int.tmod x_.States 6)))))), (4, .own (.box (.agg [I (w64 (1 + (w64 (Int.tmod x_.Inputs 3)))), I (w64 (1 + (w64 (Int.tmod x_.Outputs 3)))), eOs 1 false F11_ m_Rows1]))), (5, .d (I s_)), (6, .own (eOs 2 false F7_ row1)), (7, .d (I i_)), (8, .d (I (w64 (Edge_e))))] [ob (lnM (eI .u16) x_.Edges), ob c4, ob (i0 h0), ob (iM (eI .u16) h0)] (by kernel_rfl) fun st0 h0 => hJ7 st0 _ (w64 (Edge_e)) hf2 h0 inferInstance
        ·exact awpBack X0 TTab_ok hC hm [1, 2, 3, 4, 5, 6, 7, 8] 4000 [aLn x_.Edges.length, bF] J7 [(1, .own (.box (F16_ x_))), (2, .own (.box (.agg [I 0, I 0, eOs 1 true F10_ []]))), (3, .d (I (w64 (1 + (w64 (Int.tmod x_.States 6)))))), (4, .own (.box (.agg [I (w64 (1 + (w64 (Int.tmod x_.Inputs 3)))), I (w64 (1 + (w64 (Int.tmod x_.Outputs 3)))), eOs 1 false F11_ m_Rows1]))), (5, .d (I s_)), (6, .own (eOs 2 false F7_ row1)), (7, .d (I i_)), (8, .d (I 0))] [ob (lnM (eI .u16) x_.Edges), ob c4] (by kernel_rfl) fun st0 h0 => hJ7 st0 _ 0 hf2 h0 inferInstance
     ·obtain rfl := someE hf2
      obtain rfl := hl2
      exact awpBack X0 TTab_ok hC hm [1, 2, 3, 4, 5, 6] 4000 [bF] J4 [(1, .own (.box (F16_ x_))), (2, .own (.box (.agg [I 0, I 0, eOs 1 true F10_ []]))), (3, .d (I (w64 (1 + (w64 (Int.tmod x_.States 6)))))), (4, .own (.box (.agg [I (w64 (1 + (w64 (Int.tmod x_.Inputs 3)))), I (w64 (1 + (w64 (Int.tmod x_.Outputs 3)))), eOs 1 false F11_ m_Rows1]))), (5, .d (I s_)), (6, .own (eOs 2 false F7_ row1))] [ob c1] (by kernel_rfl) fun st0 h0 => hJ4 st0 _ row1 hf1 h0 inferInstance
  ·obtain rfl := someE hf1
   obtain rfl := hl1
   exact awpBack X0 TTab_ok hC hm [2, 4] 4000 [bF] J1 [(2, .own (.box (.agg [I 0, I 0, eOs 1 true F10_ []]))), (4, .own (.box (.agg [I (w64 (1 + (w64 (Int.tmod x_.Inputs 3)))), I (w64 (1 + (w64 (Int.tmod x_.Outputs 3)))), eOs 1 false F11_ m_Rows1])))] [ob c0] (by kernel_rfl) fun st0 h0 => hJ1 st0 _ m_Rows1 hf0 h0 inferInstance
noncomputable def bd_ref04_Copy : Code := (Try.f69.body).getD .skip
noncomputable def sp_ref04_Copy : Spec := spF (α := S_api_Machine) (ρ := S_api_Machine) 69 (fun x => [F19_ x]) (fun r => F20_ r) (fun x => ref04_Copy x) [] (by
  rintro a0 b0 h
  simp only [List.cons.injEq, and_true] at h
  have e0 := EncI.inj (f := F19_) _ _ h
  subst e0
  rfl)
abbrev ST_ref04_Copy_J1 (m_ : S_api_Machine) (out_Rows : List (List S_api_Edge)) : List (Nat × T) := [(2, .own (.box (.agg [I 0, I 0, eOs 1 true F10_ []]))), (3, .own (.box (.agg [I m_.Inputs, I m_.Outputs, eOs 1 false F11_ out_Rows])))]
abbrev ST_ref04_Copy_L2 (m_ : S_api_Machine) (out_Rows1 : List (List S_api_Edge)) (s_ : Int) : List (Nat × T) := [(1, .own (.box (F19_ m_))), (2, .own (.box (.agg [I 0, I 0, eOs 1 true F10_ []]))), (3, .own (.box (.agg [I m_.Inputs, I m_.Outputs, eOs 1 false F11_ out_Rows1]))), (4, .d (I s_))]
theorem w_ref04_Copy {ctr : Ctr} (hC : CtrOk Try.prog ctr) (hm : Try.prog.follows .mixedOrders = true) : sp_ref04_Copy.Ok Try.prog := by
 refine spF_ok ?_
 rintro m_ r0 hf0
 try unfold ref04_Copy at hf0
 refine callOk_p (tt := TTab) (rs := [(true, 2, some 34)]) (n := ⟨30, []⟩) (body := bd_ref04_Copy) TTab_ok Try.func69 rfl (by kernel_rfl) rfl rfl (by show (1 : Nat) ≤ 30; decide) fun E hE => ?_
 refine awpAt X0 TTab_ok hC hm [1, 2, 3] 4000 [.cut 2] (sub [1, 1] bd_ref04_Copy) (frs [1, 1] [] bd_ref04_Copy []) [(1, .own (.box (F19_ m_))), (2, .own (.box (.agg [I 0, I 0, eOs 1 true F10_ []]))), (3, .own (.box (.agg [I m_.Inputs, I m_.Outputs, eOs 1 true F10_ []])))] [] (by kernel_rfl) fun st0 h0 => ?_
 refine awpJoin' (X := List (List S_api_Edge)) (x := (sub [1, 1, 2] bd_ref04_Copy)) (y := (sub [1, 1, 1] bd_ref04_Copy)) (by kernel_rfl) [2, 3] [1, 2, 3] _ h0 (fun z => ref04_Copy_J1 m_ z = some r0) (fun z => ST_ref04_Copy_J1 m_ z) ?_ fun J1 hJ1 => ?_
 ·rintro out_Rows hf0
  unfold ref04_Copy_J1 at hf0
  obtain rfl := someE hf0
  exact awpEndP X0 TTab_ok hC hm hE 4000 (hs := []) (x := (.agg [I m_.Inputs, I m_.Outputs, eOs 1 false F11_ out_Rows])) [] (by kernel_rfl) (LeV.refl _)
 ·obtain ⟨t2, ht2, hf0⟩ := bindE hf0
  refine awpAt X0 TTab_ok hC hm [1, 2, 3, 4] 4000 [] (sub [1, 1, 2, 1, 0] bd_ref04_Copy) (frs [1, 1, 2, 1, 0] [J1] bd_ref04_Copy []) [(1, .own (.box (F19_ m_))), (2, .own (.box (.agg [I 0, I 0, eOs 1 true F10_ []]))), (3, .own (.box (.agg [I m_.Inputs, I m_.Outputs, eOs 1 true F11_ []]))), (4, .d (I 0))] [] (by kernel_rfl) fun st0 h0 => ?_
  refine awpLoop' (X := (List (List S_api_Edge) × Int) × Nat) (c' := (sub [1, 1, 2, 1, 0, 0] bd_ref04_Copy)) (by kernel_rfl) [1, 2, 3, 4] (fun x => loopN (fun s => ref04_Copy_L2 m_ s.1 s.2) x.2 x.1 = some t2) (fun x => x.2) (fun x => ST_ref04_Copy_L2 m_ x.1.1 x.1.2) ((([] : List (List S_api_Edge)), 0), fuel) _ h0 inferInstance ht2 ?_
  rintro ⟨⟨out_Rows1, s_⟩, n2⟩ hn2 J2 hJ2
  obtain ⟨m2, lr1, rfl, hf1, hl1⟩ := loopE hn2
  try unfold ref04_Copy_L2 at hf1
  have o0 := lnM F10_ m_.Rows
  rcases bifE hf1 with ⟨c0, hf1⟩ | ⟨c0, hf1⟩
  ·obtain ⟨Row_e, h0, hf1⟩ := bindE hf1
   have o1 := iM F10_ h0
   have o2 := dM F7_ Row_e
   obtain ⟨g0, hf1⟩ := gdE hf1
   have o3 := aL F7_ F7_ g0
   have o4 := aM0 F7_ Row_e
   have o5 := oC F11_ Row_e []
   obtain ⟨g1, hf1⟩ := gdE hf1
   have o6 := aL F11_ F11_ g1
   have o7 := aM F11_ out_Rows1 ([Row_e] : List (List S_api_Edge))
   obtain rfl := someE hf1
   exact awpBack X0 TTab_ok hC hm [1, 2, 3, 4] 4000 [aLn m_.Rows.length, bT, .a (F10_ Row_e), .l (Row_e.map F7_), bF, .l ((out_Rows1 ++ ([Row_e] : List (List S_api_Edge))).map F11_)] J2 [(1, .own (.box (F19_ m_))), (2, .own (.box (.agg [I 0, I 0, eOs 1 true F10_ []]))), (3, .own (.box (.agg [I m_.Inputs, I m_.Outputs, eOs 1 false F11_ (out_Rows1 ++ ([Row_e] : List (List S_api_Edge)))]))), (4, .d (I (w64 (s_ + 1))))] [ob o0, ob c0, ob (i0 h0), ob o1, ob o2, ob o3, ob o4, ob o5, ob o6, ob o7] (by kernel_rfl) fun st0 h0 => hJ2 st0 _ (((out_Rows1 ++ ([Row_e] : List (List S_api_Edge))), w64 (s_ + 1)), m2) hl1 (Nat.lt_succ_self m2) h0 inferInstance
  ·obtain rfl := someE hf1
   obtain rfl := hl1
   exact awpBack X0 TTab_ok hC hm [2, 3] 4000 [aLn m_.Rows.length, bF] J1 [(2, .own (.box (.agg [I 0, I 0, eOs 1 true F10_ []]))), (3, .own (.box (.agg [I m_.Inputs, I m_.Outputs, eOs 1 false F11_ out_Rows1])))] [ob o0, ob c0] (by kernel_rfl) fun st0 h0 => hJ1 st0 _ out_Rows1 hf0 h0 inferInstance
noncomputable def bd_ref04_Check : Code := (Try.f47.body).getD .skip
noncomputable def sp_ref04_Check : Spec := spF (α := S_api_Machine) (ρ := Int) 47 (fun x => [F19_ x]) (fun r => (eI .i64) r) (fun x => ref04_Check x) [] (by
  rintro a0 b0 h
  simp only [List.cons.injEq, and_true] at h
  have e0 := EncI.inj (f := F19_) _ _ h
  subst e0
  rfl)
abbrev ST_ref04_Check_J1 : List (Nat × T) := []
abbrev ST_ref04_Check_J3 (m_ : S_api_Machine) (s_ : Int) : List (Nat × T) := [(1, .own (.box (F19_ m_))), (3, .d (I s_))]
abbrev ST_ref04_Check_J5 (m_ : S_api_Machine) (s_ : Int) (i_ : Int) : List (Nat × T) := [(1, .own (.box (F19_ m_))), (3, .d (I s_)), (4, .d (I i_))]
abbrev ST_ref04_Check_J6 (m_ : S_api_Machine) (s_ : Int) (i_ : Int) (Row_e_e : S_api_Edge) : List (Nat × T) := [(1, .own (.box (F19_ m_))), (3, .d (I s_)), (4, .d (I i_)), (5, .own (.box (F7_ Row_e_e)))]
abbrev ST_ref04_Check_L4 (m_ : S_api_Machine) (s_ : Int) (i_ : Int) : List (Nat × T) := [(1, .own (.box (F19_ m_))), (3, .d (I s_)), (4, .d (I i_))]
abbrev ST_ref04_Check_L2 (m_ : S_api_Machine) (s_ : Int) : List (Nat × T) := [(1, .own (.box (F19_ m_))), (3, .d (I s_))]
theorem w_ref04_Check {ctr : Ctr} (hC : CtrOk Try.prog ctr) (hm : Try.prog.follows .mixedOrders = true) : sp_ref04_Check.Ok Try.prog := by
 refine spF_ok ?_
 rintro m_ r0 hf0
 try unfold ref04_Check at hf0
 refine callOk_h (tt := TTab) (keep := true) (rs := [(2, none)]) (n := ⟨95, []⟩) (body := bd_ref04_Check) TTab_ok Try.func47 rfl (by kernel_rfl) rfl rfl (by show (1 : Nat) ≤ 95; decide) fun E hE => ?_
 rcases bifE hf0 with ⟨c0, hf0⟩ | ⟨c0, hf0⟩
 ·obtain rfl := someE hf0
  exact awpEnd X0 TTab_ok hC hm hE 4000 (hs := (rpN 10 bT [])) (x := (I 3)) (rpN 4 (ob c0) (rpN 6 oT [])) (by kernel_rfl) (LeV.refl _)
 ·rcases bifE hf0 with ⟨c1, hf0⟩ | ⟨c1, hf0⟩
  ·obtain rfl := someE hf0
   exact awpEnd X0 TTab_ok hC hm hE 4000 (hs := (rpN 4 bF (rpN 6 bT []))) (x := (I 3)) (rpN 4 (ob c0) (rpN 5 (ob c1) [oT])) (by kernel_rfl) (LeV.refl _)
  ·have o0 := lnM F10_ m_.Rows
   rcases bifE hf0 with ⟨c2, hf0⟩ | ⟨c2, hf0⟩
   ·obtain rfl := someE hf0
    exact awpEnd X0 TTab_ok hC hm hE 4000 (hs := (rpN 7 bF [aLn m_.Rows.length, bF, bF, bT])) (x := (I 3)) (rpN 4 (ob c0) [ob c1, ob c1, ob c1, ob o0, ob c1, ob c1, ob c2]) (by kernel_rfl) (LeV.refl _)
   ·rcases bifE hf0 with ⟨c3, hf0⟩ | ⟨c3, hf0⟩
    ·obtain rfl := someE hf0
     exact awpEnd X0 TTab_ok hC hm hE 4000 (hs := (rpN 7 bF (aLn m_.Rows.length :: bF :: bF :: bF :: (rpN 10 bT [])))) (x := (I 1)) (rpN 4 (ob c0) (ob c1 :: ob c1 :: ob c1 :: ob o0 :: ob c1 :: ob c1 :: ob c2 :: (rpN 4 (ob c3) (rpN 6 oT [])))) (by kernel_rfl) (LeV.refl _)
    ·rcases bifE hf0 with ⟨c4, hf0⟩ | ⟨c4, hf0⟩
     ·obtain rfl := someE hf0
      exact awpEnd X0 TTab_ok hC hm hE 4000 (hs := (rpN 7 bF (aLn m_.Rows.length :: (rpN 7 bF (rpN 6 bT []))))) (x := (I 1)) (rpN 4 (ob c0) (ob c1 :: ob c1 :: ob c1 :: ob o0 :: ob c1 :: ob c1 :: ob c2 :: (rpN 4 (ob c3) (rpN 5 (ob c4) [oT])))) (by kernel_rfl) (LeV.refl _)
     ·have o1 := lnM F10_ m_.Rows
      rcases bifE hf0 with ⟨c5, hf0⟩ | ⟨c5, hf0⟩
      ·obtain rfl := someE hf0
       exact awpEnd X0 TTab_ok hC hm hE 4000 (hs := (rpN 7 bF (aLn m_.Rows.length :: (rpN 10 bF [aLn m_.Rows.length, bF, bF, bT])))) (x := (I 1)) (rpN 4 (ob c0) (ob c1 :: ob c1 :: ob c1 :: ob o0 :: ob c1 :: ob c1 :: ob c2 :: (rpN 4 (ob c3) [ob c4, ob c4, ob c4, ob o1, ob c4, ob c4, ob c5]))) (by kernel_rfl) (LeV.refl _)
      ·refine awpAt X0 TTab_ok hC hm [1] 4000 (rpN 7 bF (aLn m_.Rows.length :: (rpN 10 bF [aLn m_.Rows.length, bF, bF, bF, .cut 0]))) (sub [1, 1, 1] bd_ref04_Check) (frs [1, 1, 1] [] bd_ref04_Check []) [(1, .own (.box (F19_ m_)))] (rpN 4 (ob c0) (ob c1 :: ob c1 :: ob c1 :: ob o0 :: ob c1 :: ob c1 :: ob c2 :: (rpN 4 (ob c3) [ob c4, ob c4, ob c4, ob o1, ob c4, ob c4, ob c5]))) (by kernel_rfl) fun st0 h0 => ?_
       refine awpJoin' (X := Unit) (x := (sub [1, 1, 1, 2] bd_ref04_Check)) (y := (sub [1, 1, 1, 1] bd_ref04_Check)) (by kernel_rfl) [] [1] _ h0 (fun z => ref04_Check_J1 = some r0) (fun z => ST_ref04_Check_J1) ?_ fun J1 hJ1 => ?_
       ·rintro ⟨⟩ hf0
        unfold ref04_Check_J1 at hf0
        obtain rfl := someE hf0
        exact awpEnd X0 TTab_ok hC hm hE 4000 (hs := []) (x := (I 0)) [] (by kernel_rfl) (LeV.refl _)
       ·obtain ⟨t2, ht2, hf0⟩ := bindE hf0
        refine awpAt X0 TTab_ok hC hm [1, 3] 4000 [] (sub [1, 1, 1, 2, 1, 0] bd_ref04_Check) (frs [1, 1, 1, 2, 1, 0] [J1] bd_ref04_Check []) [(1, .own (.box (F19_ m_))), (3, .d (I 0))] [] (by kernel_rfl) fun st0 h0 => ?_
        refine awpLoop' (X := Int × Nat) (c' := (sub [1, 1, 1, 2, 1, 0, 0] bd_ref04_Check)) (by kernel_rfl) [1, 3] (fun x => loopN (fun s => ref04_Check_L2 m_ s) x.2 x.1 = some t2) (fun x => x.2) (fun x => ST_ref04_Check_L2 m_ x.1) (0, fuel) _ h0 inferInstance ht2 ?_
        rintro ⟨s_, n2⟩ hn2 J2 hJ2
        obtain ⟨m2, lr1, rfl, hf1, hl1⟩ := loopE hn2
        try unfold ref04_Check_L2 at hf1
        have o2 := lnM F10_ m_.Rows
        rcases bifE hf1 with ⟨c6, hf1⟩ | ⟨c6, hf1⟩
        ·refine awpAt X0 TTab_ok hC hm [1, 3] 4000 [aLn m_.Rows.length, bT, .cut 0] (sub [1, 1, 1, 2, 1, 0, 0, 1] bd_ref04_Check) (frs [1, 1, 1, 2, 1, 0, 0, 1] [J1, J2] bd_ref04_Check []) [(1, .own (.box (F19_ m_))), (3, .d (I s_))] [ob o2, ob c6] (by kernel_rfl) fun st0 h0 => ?_
         refine awpJoin' (X := Unit) (x := (sub [1, 1, 1, 2, 1, 0, 0, 1, 2] bd_ref04_Check)) (y := (sub [1, 1, 1, 2, 1, 0, 0, 1, 1] bd_ref04_Check)) (by kernel_rfl) [1, 3] [1, 3] _ h0 (fun z => ref04_Check_J3 s_ = some lr1) (fun z => ST_ref04_Check_J3 m_ s_) ?_ fun J3 hJ3 => ?_
         ·rintro ⟨⟩ hf1
          unfold ref04_Check_J3 at hf1
          obtain rfl := someE hf1
          exact awpBack X0 TTab_ok hC hm [1, 3] 4000 [] J2 [(1, .own (.box (F19_ m_))), (3, .d (I (w64 (s_ + 1))))] [] (by kernel_rfl) fun st0 h0 => hJ2 st0 _ (w64 (s_ + 1), m2) hl1 (Nat.lt_succ_self m2) h0 inferInstance
         ·obtain ⟨Row_e, h0, hf1⟩ := bindE hf1
          have o3 := iM F10_ h0
          have o4 := lnM F7_ Row_e
          rcases bifE hf1 with ⟨c7, hf1⟩ | ⟨c7, hf1⟩
          ·obtain rfl := someE hf1
           obtain rfl := hl1
           obtain rfl := someE hf0
           exact awpEnd X0 TTab_ok hC hm hE 4000 (hs := [.a (F10_ Row_e), aLn Row_e.length, bT]) (x := (I 1)) [ob (i0 h0), ob o3, ob o4, ob c7] (by kernel_rfl) (LeV.refl _)
          ·obtain ⟨t4, ht4, hf1⟩ := bindE hf1
           refine awpAt X0 TTab_ok hC hm [1, 3, 4] 4000 [.a (F10_ Row_e), aLn Row_e.length, bF] (sub [1, 1, 1, 2, 1, 0, 0, 1, 2, 0, 1, 1, 0] bd_ref04_Check) (frs [1, 1, 1, 2, 1, 0, 0, 1, 2, 0, 1, 1, 0] [J1, J2, J3] bd_ref04_Check []) [(1, .own (.box (F19_ m_))), (3, .d (I s_)), (4, .d (I 0))] [ob (i0 h0), ob o3, ob o4, ob c7] (by kernel_rfl) fun st0 h0 => ?_
           refine awpLoop' (X := Int × Nat) (c' := (sub [1, 1, 1, 2, 1, 0, 0, 1, 2, 0, 1, 1, 0, 0] bd_ref04_Check)) (by kernel_rfl) [1, 3, 4] (fun x => loopN (fun s => ref04_Check_L4 m_ s_ s) x.2 x.1 = some t4) (fun x => x.2) (fun x => ST_ref04_Check_L4 m_ s_ x.1) (0, fuel) _ h0 inferInstance ht4 ?_
           rintro ⟨i_, n4⟩ hn4 J4 hJ4
           obtain ⟨m4, lr2, rfl, hf2, hl2⟩ := loopE hn4
           try unfold ref04_Check_L4 at hf2
           rcases bifE hf2 with ⟨c8, hf2⟩ | ⟨c8, hf2⟩
           ·refine awpAt X0 TTab_ok hC hm [1, 3, 4] 4000 [bT, .cut 0] (sub [1, 1, 1, 2, 1, 0, 0, 1, 2, 0, 1, 1, 0, 0, 1] bd_ref04_Check) (frs [1, 1, 1, 2, 1, 0, 0, 1, 2, 0, 1, 1, 0, 0, 1] [J1, J2, J3, J4] bd_ref04_Check []) [(1, .own (.box (F19_ m_))), (3, .d (I s_)), (4, .d (I i_))] [ob c8] (by kernel_rfl) fun st0 h0 => ?_
            refine awpJoin' (X := Unit) (x := (sub [1, 1, 1, 2, 1, 0, 0, 1, 2, 0, 1, 1, 0, 0, 1, 2] bd_ref04_Check)) (y := (sub [1, 1, 1, 2, 1, 0, 0, 1, 2, 0, 1, 1, 0, 0, 1, 1] bd_ref04_Check)) (by kernel_rfl) [1, 3, 4] [1, 3, 4] _ h0 (fun z => ref04_Check_J5 i_ = some lr2) (fun z => ST_ref04_Check_J5 m_ s_ i_) ?_ fun J5 hJ5 => ?_
            ·rintro ⟨⟩ hf2
             unfold ref04_Check_J5 at hf2
             obtain rfl := someE hf2
             exact awpBack X0 TTab_ok hC hm [1, 3, 4] 4000 [] J4 [(1, .own (.box (F19_ m_))), (3, .d (I s_)), (4, .d (I (w64 (i_ + 1))))] [] (by kernel_rfl) fun st0 h0 => hJ4 st0 _ (w64 (i_ + 1), m4) hl2 (Nat.lt_succ_self m4) h0 inferInstance
            ·obtain ⟨Row_e1, h1, hf2⟩ := bindE hf2
             have o5 := iM F10_ h1
             obtain ⟨Row_e_e, h2, hf2⟩ := bindE hf2
             have o6 := iM F7_ h2
             refine awpAt X0 TTab_ok hC hm [1, 3, 4, 5] 4000 [.a (F10_ Row_e1), .a (F7_ Row_e_e), .cut 0] (sub [1, 1, 1, 2, 1, 0, 0, 1, 2, 0, 1, 1, 0, 0, 1, 2, 0, 1] bd_ref04_Check) (frs [1, 1, 1, 2, 1, 0, 0, 1, 2, 0, 1, 1, 0, 0, 1, 2, 0, 1] [J1, J2, J3, J4, J5] bd_ref04_Check []) [(1, .own (.box (F19_ m_))), (3, .d (I s_)), (4, .d (I i_)), (5, .own (.box (F7_ Row_e_e)))] [ob (i0 h1), ob o5, ob (i0 h2), ob o6] (by kernel_rfl) fun st0 h0 => ?_
             refine awpJoin' (X := Unit) (x := (sub [1, 1, 1, 2, 1, 0, 0, 1, 2, 0, 1, 1, 0, 0, 1, 2, 0, 1, 2] bd_ref04_Check)) (y := (sub [1, 1, 1, 2, 1, 0, 0, 1, 2, 0, 1, 1, 0, 0, 1, 2, 0, 1, 1] bd_ref04_Check)) (by kernel_rfl) [1, 3, 4, 5] [1, 3, 4, 5] _ h0 (fun z => ref04_Check_J6 m_ i_ Row_e_e = some lr2) (fun z => ST_ref04_Check_J6 m_ s_ i_ Row_e_e) ?_ fun J6 hJ6 => ?_
             ·rintro ⟨⟩ hf2
              unfold ref04_Check_J6 at hf2
              rcases bifE hf2 with ⟨c9, hf2⟩ | ⟨c9, hf2⟩
              ·obtain rfl := someE hf2
               obtain rfl := hl2
               obtain rfl := someE hf1
               obtain rfl := hl1
               obtain rfl := someE hf0
               exact awpEnd X0 TTab_ok hC hm hE 4000 (hs := (rpN 18 bT [])) (x := (I 1)) (rpN 7 (ob c9) (rpN 11 oT [])) (by kernel_rfl) (LeV.refl _)
              ·have o7 := lnM F10_ m_.Rows
               rcases bifE hf2 with ⟨c10, hf2⟩ | ⟨c10, hf2⟩
               ·obtain rfl := someE hf2
                obtain rfl := hl2
                obtain rfl := someE hf1
                obtain rfl := hl1
                obtain rfl := someE hf0
                exact awpEnd X0 TTab_ok hC hm hE 4000 (hs := (rpN 5 bF (aLn m_.Rows.length :: bF :: bF :: (rpN 11 bT [])))) (x := (I 1)) (rpN 5 (ob c9) (ob o7 :: ob c9 :: ob c9 :: (rpN 4 (ob c10) (rpN 7 oT [])))) (by kernel_rfl) (LeV.refl _)
               ·rcases bifE hf2 with ⟨c11, hf2⟩ | ⟨c11, hf2⟩
                ·obtain rfl := someE hf2
                 obtain rfl := hl2
                 obtain rfl := someE hf1
                 obtain rfl := hl1
                 obtain rfl := someE hf0
                 exact awpEnd X0 TTab_ok hC hm hE 4000 (hs := (rpN 5 bF (aLn m_.Rows.length :: (rpN 6 bF (rpN 7 bT []))))) (x := (I 1)) (rpN 5 (ob c9) (ob o7 :: ob c9 :: ob c9 :: (rpN 4 (ob c10) (rpN 6 (ob c11) [oT])))) (by kernel_rfl) (LeV.refl _)
                ·rcases bifE hf2 with ⟨c12, hf2⟩ | ⟨c12, hf2⟩
                 ·obtain rfl := someE hf2
                  obtain rfl := hl2
                  obtain rfl := someE hf1
                  obtain rfl := hl1
                  obtain rfl := someE hf0
                  exact awpEnd X0 TTab_ok hC hm hE 4000 (hs := (rpN 5 bF (aLn m_.Rows.length :: (rpN 12 bF [bT])))) (x := (I 1)) (rpN 5 (ob c9) (ob o7 :: ob c9 :: ob c9 :: (rpN 4 (ob c10) (rpN 6 (ob c11) [ob c12])))) (by kernel_rfl) (LeV.refl _)
                 ·exact awpBack X0 TTab_ok hC hm [1, 3, 4] 4000 (rpN 5 bF (aLn m_.Rows.length :: (rpN 13 bF []))) J5 [(1, .own (.box (F19_ m_))), (3, .d (I s_)), (4, .d (I i_))] (rpN 5 (ob c9) (ob o7 :: ob c9 :: ob c9 :: (rpN 4 (ob c10) (rpN 6 (ob c11) [ob c12])))) (by kernel_rfl) fun st0 h0 => hJ5 st0 _ () hf2 h0 inferInstance
             ·rcases bifE hf2 with ⟨c13, hf2⟩ | ⟨c13, hf2⟩
              ·rcases bifE hf2 with ⟨c14, hf2⟩ | ⟨c14, hf2⟩
               ·exact awpBack X0 TTab_ok hC hm [1, 3, 4] 4000 (rpN 5 bT []) J5 [(1, .own (.box (F19_ m_))), (3, .d (I s_)), (4, .d (I i_))] (rpN 4 (ob c13) [ob c14]) (by kernel_rfl) fun st0 h0 => hJ5 st0 _ () hf2 h0 inferInstance
               ·exact awpBack X0 TTab_ok hC hm [1, 3, 4, 5] 4000 (rpN 4 bT [bF]) J6 [(1, .own (.box (F19_ m_))), (3, .d (I s_)), (4, .d (I i_)), (5, .own (.box (F7_ Row_e_e)))] (rpN 4 (ob c13) [ob c14]) (by kernel_rfl) fun st0 h0 => hJ6 st0 _ () hf2 h0 inferInstance
              ·exact awpBack X0 TTab_ok hC hm [1, 3, 4, 5] 4000 (rpN 5 bF []) J6 [(1, .own (.box (F19_ m_))), (3, .d (I s_)), (4, .d (I i_)), (5, .own (.box (F7_ Row_e_e)))] (rpN 4 (ob c13) [oF]) (by kernel_rfl) fun st0 h0 => hJ6 st0 _ () hf2 h0 inferInstance
           ·obtain rfl := someE hf2
            obtain rfl := hl2
            exact awpBack X0 TTab_ok hC hm [1, 3] 4000 [bF] J3 [(1, .own (.box (F19_ m_))), (3, .d (I s_))] [ob c8] (by kernel_rfl) fun st0 h0 => hJ3 st0 _ () hf1 h0 inferInstance
        ·obtain rfl := someE hf1
         obtain rfl := hl1
         exact awpBack X0 TTab_ok hC hm [] 4000 [aLn m_.Rows.length, bF] J1 [] [ob o2, ob c6] (by kernel_rfl) fun st0 h0 => hJ1 st0 _ () hf0 h0 inferInstance
noncomputable def bd_law10_D_Of : Code := (Try.f30.body).getD .skip
noncomputable def sp_law10_D_Of : Spec := spF (α := S_law10_D) (ρ := S_api_Machine × S_api_Machine) 30 (fun x => [F23_ x]) (fun r => .tup [F19_ r.1, F19_ r.2]) (fun x => law10_D_Of x) [] (by
  rintro a0 b0 h
  simp only [List.cons.injEq, and_true] at h
  have e0 := EncI.inj (f := F23_) _ _ h
  subst e0
  rfl)
abbrev ST_law10_D_Of_J3 (x_ : S_law10_D) (r_ : S_api_Machine) (r_2 : S_api_Machine) (b_Rows : List (List S_api_Edge)) : List (Nat × T) := [(1, .own (.box (.agg [F16_ x_.M, F16_ x_.X, B x_.Alike, (eArr2 (eI .u8)) x_.Swap, (eArr2 (eI .u8)) x_.Place, F7_ x_.To]))), (2, .own (.box (.agg [I 0, I 0, eOs 1 true F10_ []]))), (3, .own (.box (.agg [I 0, I 0, eOs 1 true F10_ []]))), (4, .own (.box (F19_ r_))), (5, .d (I ((r_.Rows.length : Nat) : Int))), (10, .own (.box (.agg [I r_2.Inputs, I r_2.Outputs, eOs 1 false F11_ b_Rows])))]
abbrev ST_law10_D_Of_J5 (x_ : S_law10_D) (r_ : S_api_Machine) (to1 : List Int) (r_2 : S_api_Machine) (s_ : Int) (b_Rows2 : List (List S_api_Edge)) : List (Nat × T) := [(1, .own (.box (.agg [F16_ x_.M, F16_ x_.X, B x_.Alike, (eArr2 (eI .u8)) x_.Swap, (eArr2 (eI .u8)) x_.Place, F7_ x_.To]))), (2, .own (.box (.agg [I 0, I 0, eOs 1 true F10_ []]))), (3, .own (.box (.agg [I 0, I 0, eOs 1 true F10_ []]))), (4, .own (.box (F19_ r_))), (5, .d (I ((r_.Rows.length : Nat) : Int))), (6, .own (eOs 1 false (eI .i64) to1)), (10, .own (.box (.agg [I r_2.Inputs, I r_2.Outputs, eOs 1 false F11_ b_Rows2]))), (11, .d (I s_))]
abbrev ST_law10_D_Of_J7 (x_ : S_law10_D) (r_ : S_api_Machine) (to1 : List Int) (r_2 : S_api_Machine) (s_ : Int) (b_Rows3 : List (List S_api_Edge)) (i_ : Int) (Row_e_e1 : S_api_Edge) (e_To : Int) : List (Nat × T) := [(1, .own (.box (.agg [F16_ x_.M, F16_ x_.X, B x_.Alike, (eArr2 (eI .u8)) x_.Swap, (eArr2 (eI .u8)) x_.Place, F7_ x_.To]))), (2, .own (.box (.agg [I 0, I 0, eOs 1 true F10_ []]))), (3, .own (.box (.agg [I 0, I 0, eOs 1 true F10_ []]))), (4, .own (.box (F19_ r_))), (5, .d (I ((r_.Rows.length : Nat) : Int))), (6, .own (eOs 1 false (eI .i64) to1)), (10, .own (.box (.agg [I r_2.Inputs, I r_2.Outputs, eOs 1 false F11_ b_Rows3]))), (11, .d (I s_)), (12, .d (I i_)), (13, .own (.box (.agg [I e_To, I Row_e_e1.Out])))]
abbrev ST_law10_D_Of_L6 (x_ : S_law10_D) (r_ : S_api_Machine) (to1 : List Int) (r_2 : S_api_Machine) (s_ : Int) (b_Rows3 : List (List S_api_Edge)) (i_ : Int) : List (Nat × T) := [(1, .own (.box (.agg [F16_ x_.M, F16_ x_.X, B x_.Alike, (eArr2 (eI .u8)) x_.Swap, (eArr2 (eI .u8)) x_.Place, F7_ x_.To]))), (2, .own (.box (.agg [I 0, I 0, eOs 1 true F10_ []]))), (3, .own (.box (.agg [I 0, I 0, eOs 1 true F10_ []]))), (4, .own (.box (F19_ r_))), (5, .d (I ((r_.Rows.length : Nat) : Int))), (6, .own (eOs 1 false (eI .i64) to1)), (10, .own (.box (.agg [I r_2.Inputs, I r_2.Outputs, eOs 1 false F11_ b_Rows3]))), (11, .d (I s_)), (12, .d (I i_))]
abbrev ST_law10_D_Of_L4 (x_ : S_law10_D) (r_ : S_api_Machine) (to1 : List Int) (r_2 : S_api_Machine) (b_Rows1 : List (List S_api_Edge)) (s_ : Int) : List (Nat × T) := [(1, .own (.box (.agg [F16_ x_.M, F16_ x_.X, B x_.Alike, (eArr2 (eI .u8)) x_.Swap, (eArr2 (eI .u8)) x_.Place, F7_ x_.To]))), (2, .own (.box (.agg [I 0, I 0, eOs 1 true F10_ []]))), (3, .own (.box (.agg [I 0, I 0, eOs 1 true F10_ []]))), (4, .own (.box (F19_ r_))), (5, .d (I ((r_.Rows.length : Nat) : Int))), (6, .own (eOs 1 false (eI .i64) to1)), (10, .own (.box (.agg [I r_2.Inputs, I r_2.Outputs, eOs 1 false F11_ b_Rows1]))), (11, .d (I s_))]
abbrev ST_law10_D_Of_J2 (x_ : S_law10_D) (r_ : S_api_Machine) (to1 : List Int) : List (Nat × T) := [(1, .own (.box (.agg [F16_ x_.M, F16_ x_.X, B x_.Alike, (eArr2 (eI .u8)) x_.Swap, (eArr2 (eI .u8)) x_.Place, F7_ x_.To]))), (2, .own (.box (.agg [I 0, I 0, eOs 1 true F10_ []]))), (3, .own (.box (.agg [I 0, I 0, eOs 1 true F10_ []]))), (4, .own (.box (F19_ r_))), (5, .d (I ((r_.Rows.length : Nat) : Int))), (6, .own (eOs 1 false (eI .i64) to1))]
abbrev ST_law10_D_Of_J1 (x_ : S_law10_D) (r_ : S_api_Machine) (to : List Int) : List (Nat × T) := [(1, .own (.box (.agg [F16_ x_.M, F16_ x_.X, B x_.Alike, (eArr2 (eI .u8)) x_.Swap, (eArr2 (eI .u8)) x_.Place, F7_ x_.To]))), (2, .own (.box (.agg [I 0, I 0, eOs 1 true F10_ []]))), (3, .own (.box (.agg [I 0, I 0, eOs 1 true F10_ []]))), (4, .own (.box (F19_ r_))), (5, .d (I ((r_.Rows.length : Nat) : Int))), (6, .own (eOs 1 false (eI .i64) to))]
abbrev ST_law10_D_Of_L8 (x_ : S_law10_D) (r_ : S_api_Machine) (to2 : List Int) (s_1 : Int) : List (Nat × T) := [(1, .own (.box (.agg [F16_ x_.M, F16_ x_.X, B x_.Alike, (eArr2 (eI .u8)) x_.Swap, (eArr2 (eI .u8)) x_.Place, F7_ x_.To]))), (2, .own (.box (.agg [I 0, I 0, eOs 1 true F10_ []]))), (3, .own (.box (.agg [I 0, I 0, eOs 1 true F10_ []]))), (4, .own (.box (F19_ r_))), (5, .d (I ((r_.Rows.length : Nat) : Int))), (6, .own (eOs 1 false (eI .i64) to2)), (7, .d (I s_1))]
theorem w_law10_D_Of {ctr : Ctr} (hC : CtrOk Try.prog ctr) (hm : Try.prog.follows .mixedOrders = true) (h_law04_M_Of : ctr.Has sp_law04_M_Of) (h_ref04_Copy : ctr.Has sp_ref04_Copy) (h_ref04_Check : ctr.Has sp_ref04_Check) : sp_law10_D_Of.Ok Try.prog := by
 refine spF_ok ?_
 rintro x_ r0 hf0
 try unfold law10_D_Of at hf0
 refine callOk_h (tt := TTab) (keep := false) (rs := [(2, some 34), (3, some 34)]) (n := ⟨144, []⟩) (body := bd_law10_D_Of) TTab_ok Try.func30 rfl (by kernel_rfl) rfl rfl (by show (1 : Nat) ≤ 144; decide) fun E hE => ?_
 obtain ⟨r_, h0, hf0⟩ := bindE hf0
 have o0 := hasF h_law04_M_Of (x := x_.M) h0 (loC F16_ x_.M <| loN)
 have o1 := lnM F10_ r_.Rows
 rcases bifE hf0 with ⟨c0, hf0⟩ | ⟨c0, hf0⟩
 ·obtain ⟨r_1, h1, hf0⟩ := bindE hf0
  have o2 := hasF h_law04_M_Of (x := (S_law04_M.mk x_.X.States x_.M.Inputs x_.X.Outputs x_.X.Partial x_.X.Edges)) h1 (loC F16_ (S_law04_M.mk x_.X.States x_.M.Inputs x_.X.Outputs x_.X.Partial x_.X.Edges) <| loN)
  obtain rfl := someE hf0
  exact awpEnd X0 TTab_ok hC hm hE 4000 (hs := [.g [], .a (F19_ r_), aLn r_.Rows.length, bT, .g [], .a (F19_ r_1)]) (x := (.tup [.agg [I r_.Inputs, I r_.Outputs, eSl 1 false F10_ r_.Rows], .agg [I r_1.Inputs, I r_1.Outputs, eSl 1 false F10_ r_1.Rows]])) [ob (hasG h_law04_M_Of), ob o0, ob o1, ob c0, ob (hasG h_law04_M_Of), ob o2] (by kernel_rfl) (LeV.refl _)
 ·refine awpAt X0 TTab_ok hC hm [1, 2, 3, 4, 5, 6] 4000 [.g [], .a (F19_ r_), aLn r_.Rows.length, bF, .cut 1] (sub [1, 1, 1, 1, 1] bd_law10_D_Of) (frs [1, 1, 1, 1, 1] [] bd_law10_D_Of []) [(1, .own (.box (.agg [F16_ x_.M, F16_ x_.X, B x_.Alike, (eArr2 (eI .u8)) x_.Swap, (eArr2 (eI .u8)) x_.Place, F7_ x_.To]))), (2, .own (.box (.agg [I 0, I 0, eOs 1 true F10_ []]))), (3, .own (.box (.agg [I 0, I 0, eOs 1 true F10_ []]))), (4, .own (.box (F19_ r_))), (5, .d (I ((r_.Rows.length : Nat) : Int))), (6, .own (eOs 1 true (eI .i64) []))] [ob (hasG h_law04_M_Of), ob o0, ob o1, ob c0] (by kernel_rfl) fun st0 h0 => ?_
  refine awpJoin' (X := List Int) (x := (sub [1, 1, 1, 1, 1, 2] bd_law10_D_Of)) (y := (sub [1, 1, 1, 1, 1, 1] bd_law10_D_Of)) (by kernel_rfl) [1, 2, 3, 4, 5, 6] [1, 2, 3, 4, 5, 6] _ h0 (fun z => law10_D_Of_J1 x_ r_ z = some r0) (fun z => ST_law10_D_Of_J1 x_ r_ z) ?_ fun J1 hJ1 => ?_
  ·rintro to hf0
   unfold law10_D_Of_J1 at hf0
   refine awpAt X0 TTab_ok hC hm [1, 2, 3, 4, 5, 6] 4000 [.cut 0] (sub [1, 1, 1, 1, 1, 1] bd_law10_D_Of) (frs [1, 1, 1, 1, 1, 1] [] bd_law10_D_Of []) [(1, .own (.box (.agg [F16_ x_.M, F16_ x_.X, B x_.Alike, (eArr2 (eI .u8)) x_.Swap, (eArr2 (eI .u8)) x_.Place, F7_ x_.To]))), (2, .own (.box (.agg [I 0, I 0, eOs 1 true F10_ []]))), (3, .own (.box (.agg [I 0, I 0, eOs 1 true F10_ []]))), (4, .own (.box (F19_ r_))), (5, .d (I ((r_.Rows.length : Nat) : Int))), (6, .own (eOs 1 false (eI .i64) to))] [] (by kernel_rfl) fun st0 h0 => awpOf h0 ?_
   refine awpPin1 (y := eOs 1 false (eI .i64) to) (by kernel_rfl) 6 (by kernel_rfl) (by kernel_rfl) fun pv6 hv6 => ?_
   refine awpAt X0 TTab_ok hC hm [1, 2, 3, 4, 5, 6] 4000 [.cut 0] (sub [1, 1, 1, 1, 1, 1] bd_law10_D_Of) (frs [1, 1, 1, 1, 1, 1] [] bd_law10_D_Of []) [(1, .own (.box (.agg [F16_ x_.M, F16_ x_.X, B x_.Alike, (eArr2 (eI .u8)) x_.Swap, (eArr2 (eI .u8)) x_.Place, F7_ x_.To]))), (2, .own (.box (.agg [I 0, I 0, eOs 1 true F10_ []]))), (3, .own (.box (.agg [I 0, I 0, eOs 1 true F10_ []]))), (4, .own (.box (F19_ r_))), (5, .d (I ((r_.Rows.length : Nat) : Int))), (6, .own (eOs 1 false (eI .i64) to))] [] (by kernel_rfl) fun st0 h0 => ?_
   refine awpJoin' (X := List Int) (x := (sub [1, 1, 1, 1, 1, 1, 2] bd_law10_D_Of)) (y := (sub [1, 1, 1, 1, 1, 1, 1] bd_law10_D_Of)) (by kernel_rfl) [1, 2, 3, 4, 5, 6] [1, 2, 3, 4, 5, 6] _ h0 (fun z => law10_D_Of_J2 x_ r_ z = some r0) (fun z => ST_law10_D_Of_J2 x_ r_ z) ?_ fun J2 hJ2 => ?_
   ·rintro to1 hf0
    unfold law10_D_Of_J2 at hf0
    obtain ⟨r_2, h2, hf0⟩ := bindE hf0
    have o3 := hasF h_ref04_Copy (x := r_) h2 (loC F19_ r_ <| loN)
    refine awpAt X0 TTab_ok hC hm [1, 2, 3, 4, 5, 6, 10] 4000 [.g [], .a (F20_ r_2), .cut 0] (sub [1, 1, 1, 1, 1, 1, 1, 1] bd_law10_D_Of) (frs [1, 1, 1, 1, 1, 1, 1, 1] [] bd_law10_D_Of []) [(1, .own (.box (.agg [F16_ x_.M, F16_ x_.X, B x_.Alike, (eArr2 (eI .u8)) x_.Swap, (eArr2 (eI .u8)) x_.Place, F7_ x_.To]))), (2, .own (.box (.agg [I 0, I 0, eOs 1 true F10_ []]))), (3, .own (.box (.agg [I 0, I 0, eOs 1 true F10_ []]))), (4, .own (.box (F19_ r_))), (5, .d (I ((r_.Rows.length : Nat) : Int))), (6, .own (eOs 1 false (eI .i64) to1)), (10, .own (.box (F20_ r_2)))] [ob (hasG h_ref04_Copy), ob o3] (by kernel_rfl) fun st0 h0 => ?_
    refine awpJoin' (X := List (List S_api_Edge)) (x := (sub [1, 1, 1, 1, 1, 1, 1, 1, 2] bd_law10_D_Of)) (y := (sub [1, 1, 1, 1, 1, 1, 1, 1, 1] bd_law10_D_Of)) (by kernel_rfl) [1, 2, 3, 4, 5, 10] [1, 2, 3, 4, 5, 6, 10] _ h0 (fun z => law10_D_Of_J3 x_ r_ r_2 z = some r0) (fun z => ST_law10_D_Of_J3 x_ r_ r_2 z) ?_ fun J3 hJ3 => ?_
    ·rintro b_Rows hf0
     unfold law10_D_Of_J3 at hf0
     have o4 := shM F11_ F10_ b_Rows
     obtain ⟨r_3, h3, hf0⟩ := bindE hf0
     have o5 := hasF h_ref04_Copy (x := (S_api_Machine.mk r_2.Inputs r_2.Outputs b_Rows)) h3 (loC F19_ (S_api_Machine.mk r_2.Inputs r_2.Outputs b_Rows) <| loN)
     have o6 := shM F11_ F10_ b_Rows
     have o7 := (⟨rfl, by decide⟩ : true = true ∧ 0 < 2)
     obtain ⟨g0, hf0⟩ := gdE hf0
     obtain ⟨Row_e, h4, hf0⟩ := bindE hf0
     have o8 := iL F11_ h4
     have o9 := iM F11_ h4
     have o10 := (⟨rfl, by decide⟩ : true = true ∧ 1 < 2)
     obtain ⟨g1, hf0⟩ := gdE hf0
     have o11 := iM F11_ h4
     obtain ⟨Row_e_e, h5, hf0⟩ := bindE hf0
     have o12 := iL F7_ h5
     have o13 := iM F11_ h4
     have o14 := iM F7_ h5
     have o15 := iM F11_ h4
     have o16 := iM F7_ h5
     have o17 := sM F7_ Row_e (Int.tmod (w64 (x_.Place.e1)) r_.Inputs) x_.To
     have o18 := sM F11_ r_3.Rows (Int.tmod (w64 (x_.Place.e0)) ((r_.Rows.length : Nat) : Int)) (Row_e.set (Int.tmod (w64 (x_.Place.e1)) r_.Inputs).toNat x_.To)
     have o19 := shM F11_ F10_ (r_3.Rows.set (Int.tmod (w64 (x_.Place.e0)) ((r_.Rows.length : Nat) : Int)).toNat (Row_e.set (Int.tmod (w64 (x_.Place.e1)) r_.Inputs).toNat x_.To))
     obtain ⟨r_4, h6, hf0⟩ := bindE hf0
     have o20 := hasF h_ref04_Check (x := (S_api_Machine.mk r_3.Inputs r_3.Outputs (r_3.Rows.set (Int.tmod (w64 (x_.Place.e0)) ((r_.Rows.length : Nat) : Int)).toNat (Row_e.set (Int.tmod (w64 (x_.Place.e1)) r_.Inputs).toNat x_.To)))) h6 (loC F19_ (S_api_Machine.mk r_3.Inputs r_3.Outputs (r_3.Rows.set (Int.tmod (w64 (x_.Place.e0)) ((r_.Rows.length : Nat) : Int)).toNat (Row_e.set (Int.tmod (w64 (x_.Place.e1)) r_.Inputs).toNat x_.To))) <| loN)
     rcases bifE hf0 with ⟨c1, hf0⟩ | ⟨c1, hf0⟩
     ·have o21 := shM F11_ F10_ (r_3.Rows.set (Int.tmod (w64 (x_.Place.e0)) ((r_.Rows.length : Nat) : Int)).toNat (Row_e.set (Int.tmod (w64 (x_.Place.e1)) r_.Inputs).toNat x_.To))
      obtain rfl := someE hf0
      exact awpEnd X0 TTab_ok hC hm hE 4000 (hs := [.g [], .l (b_Rows.map F10_), .a (F20_ r_3), .l (b_Rows.map F10_), .a (F11_ Row_e), .a (F11_ Row_e), .a (F11_ Row_e), .a (F7_ Row_e_e), .a (F11_ Row_e), .a (F7_ Row_e_e), .l ((Row_e.set (Int.tmod (w64 (x_.Place.e1)) r_.Inputs).toNat x_.To).map F7_), .l ((r_3.Rows.set (Int.tmod (w64 (x_.Place.e0)) ((r_.Rows.length : Nat) : Int)).toNat (Row_e.set (Int.tmod (w64 (x_.Place.e1)) r_.Inputs).toNat x_.To)).map F11_), .g [], .l ((r_3.Rows.set (Int.tmod (w64 (x_.Place.e0)) ((r_.Rows.length : Nat) : Int)).toNat (Row_e.set (Int.tmod (w64 (x_.Place.e1)) r_.Inputs).toNat x_.To)).map F10_), .a ((eI .i64) r_4), bT, .l ((r_3.Rows.set (Int.tmod (w64 (x_.Place.e0)) ((r_.Rows.length : Nat) : Int)).toNat (Row_e.set (Int.tmod (w64 (x_.Place.e1)) r_.Inputs).toNat x_.To)).map F10_)]) (x := (.tup [.agg [I r_.Inputs, I r_.Outputs, eSl 1 false F10_ r_.Rows], .agg [I r_3.Inputs, I r_3.Outputs, eSl 1 false F10_ (r_3.Rows.set (Int.tmod (w64 (x_.Place.e0)) ((r_.Rows.length : Nat) : Int)).toNat (Row_e.set (Int.tmod (w64 (x_.Place.e1)) r_.Inputs).toNat x_.To))]])) [ob (hasG h_ref04_Copy), ob o4, ob o5, ob o6, ob o7, ob g0, ob o8, ob o9, ob o10, ob g1, ob o11, ob o12, ob o13, ob o14, ob o15, ob o16, ob o17, ob o18, ob (hasG h_ref04_Check), ob o19, ob o20, ob c1, ob o21] (by kernel_rfl) (LeV.refl _)
     ·obtain rfl := someE hf0
      exact awpEnd X0 TTab_ok hC hm hE 4000 (hs := [.g [], .l (b_Rows.map F10_), .a (F20_ r_3), .l (b_Rows.map F10_), .a (F11_ Row_e), .a (F11_ Row_e), .a (F11_ Row_e), .a (F7_ Row_e_e), .a (F11_ Row_e), .a (F7_ Row_e_e), .l ((Row_e.set (Int.tmod (w64 (x_.Place.e1)) r_.Inputs).toNat x_.To).map F7_), .l ((r_3.Rows.set (Int.tmod (w64 (x_.Place.e0)) ((r_.Rows.length : Nat) : Int)).toNat (Row_e.set (Int.tmod (w64 (x_.Place.e1)) r_.Inputs).toNat x_.To)).map F11_), .g [], .l ((r_3.Rows.set (Int.tmod (w64 (x_.Place.e0)) ((r_.Rows.length : Nat) : Int)).toNat (Row_e.set (Int.tmod (w64 (x_.Place.e1)) r_.Inputs).toNat x_.To)).map F10_), .a ((eI .i64) r_4), bF]) (x := (.tup [.agg [I r_.Inputs, I r_.Outputs, eSl 1 false F10_ r_.Rows], .agg [I r_2.Inputs, I r_2.Outputs, eSl 1 false F10_ b_Rows]])) [ob (hasG h_ref04_Copy), ob o4, ob o5, ob o6, ob o7, ob g0, ob o8, ob o9, ob o10, ob g1, ob o11, ob o12, ob o13, ob o14, ob o15, ob o16, ob o17, ob o18, ob (hasG h_ref04_Check), ob o19, ob o20, ob c1] (by kernel_rfl) (LeV.refl _)
    ·obtain ⟨t4, ht4, hf0⟩ := bindE hf0
     refine awpAt X0 TTab_ok hC hm [1, 2, 3, 4, 5, 6, 10, 11] 4000 [] (sub [1, 1, 1, 1, 1, 1, 1, 1, 2, 1, 0] bd_law10_D_Of) (frs [1, 1, 1, 1, 1, 1, 1, 1, 2, 1, 0] [J3] bd_law10_D_Of []) [(1, .own (.box (.agg [F16_ x_.M, F16_ x_.X, B x_.Alike, (eArr2 (eI .u8)) x_.Swap, (eArr2 (eI .u8)) x_.Place, F7_ x_.To]))), (2, .own (.box (.agg [I 0, I 0, eOs 1 true F10_ []]))), (3, .own (.box (.agg [I 0, I 0, eOs 1 true F10_ []]))), (4, .own (.box (F19_ r_))), (5, .d (I ((r_.Rows.length : Nat) : Int))), (6, .own (eOs 1 false (eI .i64) to1)), (10, .own (.box (.agg [I r_2.Inputs, I r_2.Outputs, eOs 1 false F11_ r_2.Rows]))), (11, .d (I 0))] [] (by kernel_rfl) fun st0 h0 => ?_
     refine awpLoop' (X := (List (List S_api_Edge) × Int) × Nat) (c' := (sub [1, 1, 1, 1, 1, 1, 1, 1, 2, 1, 0, 0] bd_law10_D_Of)) (by kernel_rfl) [1, 2, 3, 4, 5, 6, 10, 11] (fun x => loopN (fun s => law10_D_Of_L4 r_ to1 s.1 s.2) x.2 x.1 = some t4) (fun x => x.2) (fun x => ST_law10_D_Of_L4 x_ r_ to1 r_2 x.1.1 x.1.2) ((r_2.Rows, 0), fuel) _ h0 inferInstance ht4 ?_
     rintro ⟨⟨b_Rows1, s_⟩, n4⟩ hn4 J4 hJ4
     obtain ⟨m4, lr1, rfl, hf1, hl1⟩ := loopE hn4
     try unfold law10_D_Of_L4 at hf1
     rcases bifE hf1 with ⟨c2, hf1⟩ | ⟨c2, hf1⟩
     ·refine awpAt X0 TTab_ok hC hm [1, 2, 3, 4, 5, 6, 10, 11] 4000 [bT, .cut 0] (sub [1, 1, 1, 1, 1, 1, 1, 1, 2, 1, 0, 0, 1] bd_law10_D_Of) (frs [1, 1, 1, 1, 1, 1, 1, 1, 2, 1, 0, 0, 1] [J3, J4] bd_law10_D_Of []) [(1, .own (.box (.agg [F16_ x_.M, F16_ x_.X, B x_.Alike, (eArr2 (eI .u8)) x_.Swap, (eArr2 (eI .u8)) x_.Place, F7_ x_.To]))), (2, .own (.box (.agg [I 0, I 0, eOs 1 true F10_ []]))), (3, .own (.box (.agg [I 0, I 0, eOs 1 true F10_ []]))), (4, .own (.box (F19_ r_))), (5, .d (I ((r_.Rows.length : Nat) : Int))), (6, .own (eOs 1 false (eI .i64) to1)), (10, .own (.box (.agg [I r_2.Inputs, I r_2.Outputs, eOs 1 false F11_ b_Rows1]))), (11, .d (I s_))] [ob c2] (by kernel_rfl) fun st0 h0 => ?_
      refine awpJoin' (X := List (List S_api_Edge)) (x := (sub [1, 1, 1, 1, 1, 1, 1, 1, 2, 1, 0, 0, 1, 2] bd_law10_D_Of)) (y := (sub [1, 1, 1, 1, 1, 1, 1, 1, 2, 1, 0, 0, 1, 1] bd_law10_D_Of)) (by kernel_rfl) [1, 2, 3, 4, 5, 6, 10, 11] [1, 2, 3, 4, 5, 6, 10, 11] _ h0 (fun z => law10_D_Of_J5 s_ z = some lr1) (fun z => ST_law10_D_Of_J5 x_ r_ to1 r_2 s_ z) ?_ fun J5 hJ5 => ?_
      ·rintro b_Rows2 hf1
       unfold law10_D_Of_J5 at hf1
       obtain rfl := someE hf1
       exact awpBack X0 TTab_ok hC hm [1, 2, 3, 4, 5, 6, 10, 11] 4000 [] J4 [(1, .own (.box (.agg [F16_ x_.M, F16_ x_.X, B x_.Alike, (eArr2 (eI .u8)) x_.Swap, (eArr2 (eI .u8)) x_.Place, F7_ x_.To]))), (2, .own (.box (.agg [I 0, I 0, eOs 1 true F10_ []]))), (3, .own (.box (.agg [I 0, I 0, eOs 1 true F10_ []]))), (4, .own (.box (F19_ r_))), (5, .d (I ((r_.Rows.length : Nat) : Int))), (6, .own (eOs 1 false (eI .i64) to1)), (10, .own (.box (.agg [I r_2.Inputs, I r_2.Outputs, eOs 1 false F11_ b_Rows2]))), (11, .d (I (w64 (s_ + 1))))] [] (by kernel_rfl) fun st0 h0 => hJ4 st0 _ ((b_Rows2, w64 (s_ + 1)), m4) hl1 (Nat.lt_succ_self m4) h0 inferInstance
      ·obtain ⟨t6, ht6, hf1⟩ := bindE hf1
       refine awpAt X0 TTab_ok hC hm [1, 2, 3, 4, 5, 6, 10, 11, 12] 4000 [] (sub [1, 1, 1, 1, 1, 1, 1, 1, 2, 1, 0, 0, 1, 2, 0, 1, 0] bd_law10_D_Of) (frs [1, 1, 1, 1, 1, 1, 1, 1, 2, 1, 0, 0, 1, 2, 0, 1, 0] [J3, J4, J5] bd_law10_D_Of []) [(1, .own (.box (.agg [F16_ x_.M, F16_ x_.X, B x_.Alike, (eArr2 (eI .u8)) x_.Swap, (eArr2 (eI .u8)) x_.Place, F7_ x_.To]))), (2, .own (.box (.agg [I 0, I 0, eOs 1 true F10_ []]))), (3, .own (.box (.agg [I 0, I 0, eOs 1 true F10_ []]))), (4, .own (.box (F19_ r_))), (5, .d (I ((r_.Rows.length : Nat) : Int))), (6, .own (eOs 1 false (eI .i64) to1)), (10, .own (.box (.agg [I r_2.Inputs, I r_2.Outputs, eOs 1 false F11_ b_Rows1]))), (11, .d (I s_)), (12, .d (I 0))] [] (by kernel_rfl) fun st0 h0 => ?_
       refine awpLoop' (X := (List (List S_api_Edge) × Int) × Nat) (c' := (sub [1, 1, 1, 1, 1, 1, 1, 1, 2, 1, 0, 0, 1, 2, 0, 1, 0, 0] bd_law10_D_Of)) (by kernel_rfl) [1, 2, 3, 4, 5, 6, 10, 11, 12] (fun x => loopN (fun s => law10_D_Of_L6 r_ to1 s_ s.1 s.2) x.2 x.1 = some t6) (fun x => x.2) (fun x => ST_law10_D_Of_L6 x_ r_ to1 r_2 s_ x.1.1 x.1.2) ((b_Rows1, 0), fuel) _ h0 inferInstance ht6 ?_
       rintro ⟨⟨b_Rows3, i_⟩, n6⟩ hn6 J6 hJ6
       obtain ⟨m6, lr2, rfl, hf2, hl2⟩ := loopE hn6
       try unfold law10_D_Of_L6 at hf2
       rcases bifE hf2 with ⟨c3, hf2⟩ | ⟨c3, hf2⟩
       ·obtain ⟨Row_e1, h7, hf2⟩ := bindE hf2
        have o22 := iM F10_ h7
        obtain ⟨Row_e_e1, h8, hf2⟩ := bindE hf2
        have o23 := iM F7_ h8
        refine awpAt X0 TTab_ok hC hm [1, 2, 3, 4, 5, 6, 10, 11, 12, 13] 4000 [bT, .a (F10_ Row_e1), .a (F7_ Row_e_e1), .cut 0] (sub [1, 1, 1, 1, 1, 1, 1, 1, 2, 1, 0, 0, 1, 2, 0, 1, 0, 0, 1, 0, 0, 1] bd_law10_D_Of) (frs [1, 1, 1, 1, 1, 1, 1, 1, 2, 1, 0, 0, 1, 2, 0, 1, 0, 0, 1, 0, 0, 1] [J3, J4, J5, J6] bd_law10_D_Of []) [(1, .own (.box (.agg [F16_ x_.M, F16_ x_.X, B x_.Alike, (eArr2 (eI .u8)) x_.Swap, (eArr2 (eI .u8)) x_.Place, F7_ x_.To]))), (2, .own (.box (.agg [I 0, I 0, eOs 1 true F10_ []]))), (3, .own (.box (.agg [I 0, I 0, eOs 1 true F10_ []]))), (4, .own (.box (F19_ r_))), (5, .d (I ((r_.Rows.length : Nat) : Int))), (6, .own (eOs 1 false (eI .i64) to1)), (10, .own (.box (.agg [I r_2.Inputs, I r_2.Outputs, eOs 1 false F11_ b_Rows3]))), (11, .d (I s_)), (12, .d (I i_)), (13, .own (.box (F7_ Row_e_e1)))] [ob c3, ob (i0 h7), ob o22, ob (i0 h8), ob o23] (by kernel_rfl) fun st0 h0 => ?_
        refine awpJoin' (X := Int) (x := (sub [1, 1, 1, 1, 1, 1, 1, 1, 2, 1, 0, 0, 1, 2, 0, 1, 0, 0, 1, 0, 0, 1, 2] bd_law10_D_Of)) (y := (sub [1, 1, 1, 1, 1, 1, 1, 1, 2, 1, 0, 0, 1, 2, 0, 1, 0, 0, 1, 0, 0, 1, 1] bd_law10_D_Of)) (by kernel_rfl) [1, 2, 3, 4, 5, 6, 10, 11, 12, 13] [1, 2, 3, 4, 5, 6, 10, 11, 12, 13] _ h0 (fun z => law10_D_Of_J7 to1 s_ b_Rows3 i_ Row_e_e1 z = some lr2) (fun z => ST_law10_D_Of_J7 x_ r_ to1 r_2 s_ b_Rows3 i_ Row_e_e1 z) ?_ fun J7 hJ7 => ?_
        ·rintro e_To hf2
         unfold law10_D_Of_J7 at hf2
         obtain ⟨to_e, h9, hf2⟩ := bindE hf2
         obtain ⟨b_Row_e, h10, hf2⟩ := bindE hf2
         have o24 := iL F11_ h10
         have o25 := iM F11_ h10
         have o26 := iM F11_ h10
         obtain ⟨b_Row_e_e, h11, hf2⟩ := bindE hf2
         have o27 := iL F7_ h11
         have o28 := iM F11_ h10
         have o29 := iM F7_ h11
         have o30 := iM F11_ h10
         have o31 := iM F7_ h11
         have o32 := sM F7_ b_Row_e i_ (S_api_Edge.mk e_To Row_e_e1.Out)
         have o33 := sM F11_ b_Rows3 to_e (b_Row_e.set i_.toNat (S_api_Edge.mk e_To Row_e_e1.Out))
         obtain rfl := someE hf2
         exact awpBack X0 TTab_ok hC hm [1, 2, 3, 4, 5, 6, 10, 11, 12] 4000 [.a ((eI .i64) to_e), .a (F11_ b_Row_e), .a (F11_ b_Row_e), .a (F11_ b_Row_e), .a (F7_ b_Row_e_e), .a (F11_ b_Row_e), .a (F7_ b_Row_e_e), .l ((b_Row_e.set i_.toNat (S_api_Edge.mk e_To Row_e_e1.Out)).map F7_), .l ((b_Rows3.set to_e.toNat (b_Row_e.set i_.toNat (S_api_Edge.mk e_To Row_e_e1.Out))).map F11_)] J6 [(1, .own (.box (.agg [F16_ x_.M, F16_ x_.X, B x_.Alike, (eArr2 (eI .u8)) x_.Swap, (eArr2 (eI .u8)) x_.Place, F7_ x_.To]))), (2, .own (.box (.agg [I 0, I 0, eOs 1 true F10_ []]))), (3, .own (.box (.agg [I 0, I 0, eOs 1 true F10_ []]))), (4, .own (.box (F19_ r_))), (5, .d (I ((r_.Rows.length : Nat) : Int))), (6, .own (eOs 1 false (eI .i64) to1)), (10, .own (.box (.agg [I r_2.Inputs, I r_2.Outputs, eOs 1 false F11_ (b_Rows3.set to_e.toNat (b_Row_e.set i_.toNat (S_api_Edge.mk e_To Row_e_e1.Out)))]))), (11, .d (I s_)), (12, .d (I (w64 (i_ + 1))))] [ob (iL (eI .i64) h9), ob (iM (eI .i64) h9), ob o24, ob o25, ob o26, ob o27, ob o28, ob o29, ob o30, ob o31, ob o32, ob o33] (by kernel_rfl) fun st0 h0 => hJ6 st0 _ (((b_Rows3.set to_e.toNat (b_Row_e.set i_.toNat (S_api_Edge.mk e_To Row_e_e1.Out))), w64 (i_ + 1)), m6) hl2 (Nat.lt_succ_self m6) h0 inferInstance
        ·rcases bifE hf2 with ⟨c4, hf2⟩ | ⟨c4, hf2⟩
         ·obtain ⟨to_e1, h12, hf2⟩ := bindE hf2
          exact awpBack X0 TTab_ok hC hm [1, 2, 3, 4, 5, 6, 10, 11, 12, 13] 4000 [bT, .a ((eI .i64) to_e1)] J7 [(1, .own (.box (.agg [F16_ x_.M, F16_ x_.X, B x_.Alike, (eArr2 (eI .u8)) x_.Swap, (eArr2 (eI .u8)) x_.Place, F7_ x_.To]))), (2, .own (.box (.agg [I 0, I 0, eOs 1 true F10_ []]))), (3, .own (.box (.agg [I 0, I 0, eOs 1 true F10_ []]))), (4, .own (.box (F19_ r_))), (5, .d (I ((r_.Rows.length : Nat) : Int))), (6, .own (eOs 1 false (eI .i64) to1)), (10, .own (.box (.agg [I r_2.Inputs, I r_2.Outputs, eOs 1 false F11_ b_Rows3]))), (11, .d (I s_)), (12, .d (I i_)), (13, .own (.box (.agg [I to_e1, I Row_e_e1.Out])))] [ob c4, ob (iL (eI .i64) h12), ob (iM (eI .i64) h12)] (by kernel_rfl) fun st0 h0 => hJ7 st0 _ to_e1 hf2 h0 inferInstance
         ·exact awpBack X0 TTab_ok hC hm [1, 2, 3, 4, 5, 6, 10, 11, 12, 13] 4000 [bF] J7 [(1, .own (.box (.agg [F16_ x_.M, F16_ x_.X, B x_.Alike, (eArr2 (eI .u8)) x_.Swap, (eArr2 (eI .u8)) x_.Place, F7_ x_.To]))), (2, .own (.box (.agg [I 0, I 0, eOs 1 true F10_ []]))), (3, .own (.box (.agg [I 0, I 0, eOs 1 true F10_ []]))), (4, .own (.box (F19_ r_))), (5, .d (I ((r_.Rows.length : Nat) : Int))), (6, .own (eOs 1 false (eI .i64) to1)), (10, .own (.box (.agg [I r_2.Inputs, I r_2.Outputs, eOs 1 false F11_ b_Rows3]))), (11, .d (I s_)), (12, .d (I i_)), (13, .own (.box (.agg [I Row_e_e1.To, I Row_e_e1.Out])))] [ob c4] (by kernel_rfl) fun st0 h0 => hJ7 st0 _ Row_e_e1.To hf2 h0 inferInstance
       ·obtain rfl := someE hf2
        obtain rfl := hl2
        exact awpBack X0 TTab_ok hC hm [1, 2, 3, 4, 5, 6, 10, 11] 4000 [bF] J5 [(1, .own (.box (.agg [F16_ x_.M, F16_ x_.X, B x_.Alike, (eArr2 (eI .u8)) x_.Swap, (eArr2 (eI .u8)) x_.Place, F7_ x_.To]))), (2, .own (.box (.agg [I 0, I 0, eOs 1 true F10_ []]))), (3, .own (.box (.agg [I 0, I 0, eOs 1 true F10_ []]))), (4, .own (.box (F19_ r_))), (5, .d (I ((r_.Rows.length : Nat) : Int))), (6, .own (eOs 1 false (eI .i64) to1)), (10, .own (.box (.agg [I r_2.Inputs, I r_2.Outputs, eOs 1 false F11_ b_Rows3]))), (11, .d (I s_))] [ob c3] (by kernel_rfl) fun st0 h0 => hJ5 st0 _ b_Rows3 hf1 h0 inferInstance
     ·obtain rfl := someE hf1
      obtain rfl := hl1
      exact awpBack X0 TTab_ok hC hm [1, 2, 3, 4, 5, 10] 4000 [bF] J3 [(1, .own (.box (.agg [F16_ x_.M, F16_ x_.X, B x_.Alike, (eArr2 (eI .u8)) x_.Swap, (eArr2 (eI .u8)) x_.Place, F7_ x_.To]))), (2, .own (.box (.agg [I 0, I 0, eOs 1 true F10_ []]))), (3, .own (.box (.agg [I 0, I 0, eOs 1 true F10_ []]))), (4, .own (.box (F19_ r_))), (5, .d (I ((r_.Rows.length : Nat) : Int))), (10, .own (.box (.agg [I r_2.Inputs, I r_2.Outputs, eOs 1 false F11_ b_Rows1])))] [ob c2] (by kernel_rfl) fun st0 h0 => hJ3 st0 _ b_Rows1 hf0 h0 inferInstance
   ·rcases bifE hf0 with ⟨c5, hf0⟩ | ⟨c5, hf0⟩
    ·have o34 := (⟨rfl, by decide⟩ : true = true ∧ 0 < 2)
     obtain ⟨g2, hf0⟩ := gdE hf0
     have o35 := (⟨rfl, by decide⟩ : true = true ∧ 1 < 2)
     obtain ⟨g3, hf0⟩ := gdE hf0
     obtain ⟨to_e2, h13, hf0⟩ := bindE hf0
     obtain ⟨to_e3, h14, hf0⟩ := bindE hf0
     obtain ⟨to_e4, h15, hf0⟩ := bindE hf0
     have o36 := sM (eI .i64) to (w64 (1 + (Int.tmod (w64 (x_.Swap.e0)) (w64 (((r_.Rows.length : Nat) : Int) - 1))))) to_e2
     obtain ⟨u_e, h16, hf0⟩ := bindE hf0
     have o37 := sM (eI .i64) (to.set (w64 (1 + (Int.tmod (w64 (x_.Swap.e0)) (w64 (((r_.Rows.length : Nat) : Int) - 1))))).toNat to_e2) (w64 (1 + (Int.tmod (w64 (x_.Swap.e1)) (w64 (((r_.Rows.length : Nat) : Int) - 1))))) to_e3
     exact awpBack ((xIx TTab_ok 73 6 pv6).or ((xMv Try.prog 62 6 pv6 hv6).or X0)) TTab_ok hC hm [1, 2, 3, 4, 5, 6] 4000 [bT, .a ((eI .i64) to_e2), .a ((eI .i64) to_e3), .a ((eI .i64) to_e4), .a ((eI .i64) to_e4), .l ((to.set (w64 (1 + (Int.tmod (w64 (x_.Swap.e0)) (w64 (((r_.Rows.length : Nat) : Int) - 1))))).toNat to_e2).map (eI .i64)), .a ((eI .i64) u_e), .a ((eI .i64) u_e), .l (((to.set (w64 (1 + (Int.tmod (w64 (x_.Swap.e0)) (w64 (((r_.Rows.length : Nat) : Int) - 1))))).toNat to_e2).set (w64 (1 + (Int.tmod (w64 (x_.Swap.e1)) (w64 (((r_.Rows.length : Nat) : Int) - 1))))).toNat to_e3).map (eI .i64))] J2 [(1, .own (.box (.agg [F16_ x_.M, F16_ x_.X, B x_.Alike, (eArr2 (eI .u8)) x_.Swap, (eArr2 (eI .u8)) x_.Place, F7_ x_.To]))), (2, .own (.box (.agg [I 0, I 0, eOs 1 true F10_ []]))), (3, .own (.box (.agg [I 0, I 0, eOs 1 true F10_ []]))), (4, .own (.box (F19_ r_))), (5, .d (I ((r_.Rows.length : Nat) : Int))), (6, .own (eOs 1 false (eI .i64) ((to.set (w64 (1 + (Int.tmod (w64 (x_.Swap.e0)) (w64 (((r_.Rows.length : Nat) : Int) - 1))))).toNat to_e2).set (w64 (1 + (Int.tmod (w64 (x_.Swap.e1)) (w64 (((r_.Rows.length : Nat) : Int) - 1))))).toNat to_e3)))] [ob c5, ob o34, ob g2, ob o35, ob g3, ob ((rfl : some pv6 = some pv6)), ob (iL (eI .i64) h13), ob (iM (eI .i64) h13), ob (iL (eI .i64) h14), ob (iM (eI .i64) h14), ob (iL (eI .i64) h15), ob (iM (eI .i64) h15), ob (iM (eI .i64) h15), ob o36, ob ((⟨rfl, rfl⟩ : T.d (.atom pv6) = T.d (.atom pv6) ∧ some pv6 = some pv6)), ob (iL (eI .i64) h16), ob (iM (eI .i64) h16), ob (iM (eI .i64) h16), ob o37] (by kernel_rfl) fun st0 h0 => hJ2 st0 _ ((to.set (w64 (1 + (Int.tmod (w64 (x_.Swap.e0)) (w64 (((r_.Rows.length : Nat) : Int) - 1))))).toNat to_e2).set (w64 (1 + (Int.tmod (w64 (x_.Swap.e1)) (w64 (((r_.Rows.length : Nat) : Int) - 1))))).toNat to_e3) hf0 h0 inferInstance
    ·exact awpBack X0 TTab_ok hC hm [1, 2, 3, 4, 5, 6] 4000 [bF] J2 [(1, .own (.box (.agg [F16_ x_.M, F16_ x_.X, B x_.Alike, (eArr2 (eI .u8)) x_.Swap, (eArr2 (eI .u8)) x_.Place, F7_ x_.To]))), (2, .own (.box (.agg [I 0, I 0, eOs 1 true F10_ []]))), (3, .own (.box (.agg [I 0, I 0, eOs 1 true F10_ []]))), (4, .own (.box (F19_ r_))), (5, .d (I ((r_.Rows.length : Nat) : Int))), (6, .own (eOs 1 false (eI .i64) to))] [ob c5] (by kernel_rfl) fun st0 h0 => hJ2 st0 _ to hf0 h0 inferInstance
  ·obtain ⟨t8, ht8, hf0⟩ := bindE hf0
   refine awpAt X0 TTab_ok hC hm [1, 2, 3, 4, 5, 6, 7] 4000 [] (sub [1, 1, 1, 1, 1, 2, 1, 0] bd_law10_D_Of) (frs [1, 1, 1, 1, 1, 2, 1, 0] [J1] bd_law10_D_Of []) [(1, .own (.box (.agg [F16_ x_.M, F16_ x_.X, B x_.Alike, (eArr2 (eI .u8)) x_.Swap, (eArr2 (eI .u8)) x_.Place, F7_ x_.To]))), (2, .own (.box (.agg [I 0, I 0, eOs 1 true F10_ []]))), (3, .own (.box (.agg [I 0, I 0, eOs 1 true F10_ []]))), (4, .own (.box (F19_ r_))), (5, .d (I ((r_.Rows.length : Nat) : Int))), (6, .own (eOs 1 true (eI .i64) [])), (7, .d (I 0))] [] (by kernel_rfl) fun st0 h0 => ?_
   refine awpLoop' (X := (List Int × Int) × Nat) (c' := (sub [1, 1, 1, 1, 1, 2, 1, 0, 0] bd_law10_D_Of)) (by kernel_rfl) [1, 2, 3, 4, 5, 6, 7] (fun x => loopN (fun s => law10_D_Of_L8 r_ s.1 s.2) x.2 x.1 = some t8) (fun x => x.2) (fun x => ST_law10_D_Of_L8 x_ r_ x.1.1 x.1.2) ((([] : List Int), 0), fuel) _ h0 inferInstance ht8 ?_
   rintro ⟨⟨to2, s_1⟩, n8⟩ hn8 J8 hJ8
   obtain ⟨m8, lr1, rfl, hf1, hl1⟩ := loopE hn8
   try unfold law10_D_Of_L8 at hf1
   rcases bifE hf1 with ⟨c6, hf1⟩ | ⟨c6, hf1⟩
   ·obtain ⟨g4, hf1⟩ := gdE hf1
    have o38 := aM (eI .i64) to2 ([s_1] : List Int)
    obtain rfl := someE hf1
    exact awpBack X0 TTab_ok hC hm [1, 2, 3, 4, 5, 6, 7] 4000 [bT, bT, .l ((to2 ++ ([s_1] : List Int)).map (eI .i64))] J8 [(1, .own (.box (.agg [F16_ x_.M, F16_ x_.X, B x_.Alike, (eArr2 (eI .u8)) x_.Swap, (eArr2 (eI .u8)) x_.Place, F7_ x_.To]))), (2, .own (.box (.agg [I 0, I 0, eOs 1 true F10_ []]))), (3, .own (.box (.agg [I 0, I 0, eOs 1 true F10_ []]))), (4, .own (.box (F19_ r_))), (5, .d (I ((r_.Rows.length : Nat) : Int))), (6, .own (eOs 1 false (eI .i64) (to2 ++ ([s_1] : List Int)))), (7, .d (I (w64 (s_1 + 1))))] [ob c6, ob (dM (eI .i64) ([s_1] : List Int)), ob (dM (eI .i64) ([s_1] : List Int)), ob (aL (eI .i64) (eI .i64) g4), ob o38] (by kernel_rfl) fun st0 h0 => hJ8 st0 _ (((to2 ++ ([s_1] : List Int)), w64 (s_1 + 1)), m8) hl1 (Nat.lt_succ_self m8) h0 inferInstance
   ·obtain rfl := someE hf1
    obtain rfl := hl1
    exact awpBack X0 TTab_ok hC hm [1, 2, 3, 4, 5, 6] 4000 [bF] J1 [(1, .own (.box (.agg [F16_ x_.M, F16_ x_.X, B x_.Alike, (eArr2 (eI .u8)) x_.Swap, (eArr2 (eI .u8)) x_.Place, F7_ x_.To]))), (2, .own (.box (.agg [I 0, I 0, eOs 1 true F10_ []]))), (3, .own (.box (.agg [I 0, I 0, eOs 1 true F10_ []]))), (4, .own (.box (F19_ r_))), (5, .d (I ((r_.Rows.length : Nat) : Int))), (6, .own (eOs 1 false (eI .i64) to2))] [ob c6] (by kernel_rfl) fun st0 h0 => hJ1 st0 _ to2 hf0 h0 inferInstance
noncomputable def bd_machines_none : Code := (Try.f133.body).getD .skip
noncomputable def sp_machines_none : Spec := spF (α := Unit) (ρ := S_api_Edge) 133 (fun x => []) (fun r => F7_ r) (fun x => machines_none) [] (fun _ _ _ => rfl)
theorem w_machines_none {ctr : Ctr} (hC : CtrOk Try.prog ctr) (hm : Try.prog.follows .mixedOrders = true) : sp_machines_none.Ok Try.prog := by
 refine spF_ok ?_
 rintro ⟨⟩ r0 hf0
 try unfold machines_none at hf0
 refine callOk_h (tt := TTab) (keep := false) (rs := [(0, some 67)]) (n := ⟨2, []⟩) (body := bd_machines_none) TTab_ok Try.func133 rfl (by kernel_rfl) rfl rfl (by show (0 : Nat) ≤ 2; decide) fun E hE => ?_
 obtain rfl := someE hf0
 exact awpEnd X0 TTab_ok hC hm hE 4000 (hs := []) (x := (.agg [I (-1), I (-1)])) [] (by kernel_rfl) (LeV.refl _)
noncomputable def bd_machines_fits : Code := (Try.f107.body).getD .skip
noncomputable def sp_machines_fits : Spec := spF (α := S_api_Machine × S_api_Edge) (ρ := Bool) 107 (fun x => [F19_ x.1, F7_ x.2]) (fun r => eB r) (fun x => machines_fits x.1 x.2) [] (by
  rintro ⟨a0, a1⟩ ⟨b0, b1⟩ h
  simp only [List.cons.injEq, and_true] at h
  have e0 := EncI.inj (f := F19_) _ _ h.1
  have e1 := EncI.inj (f := F7_) _ _ h.2
  subst e0 e1
  rfl)
theorem w_machines_fits {ctr : Ctr} (hC : CtrOk Try.prog ctr) (hm : Try.prog.follows .mixedOrders = true) (h_machines_none : ctr.Has sp_machines_none) : sp_machines_fits.Ok Try.prog := by
 refine spF_ok ?_
 rintro ⟨m_, x_⟩ r0 hf0
 try unfold machines_fits at hf0
 refine callOk_h (tt := TTab) (keep := true) (rs := [(4, none)]) (n := ⟨33, []⟩) (body := bd_machines_fits) TTab_ok Try.func107 rfl (by kernel_rfl) rfl rfl (by show (2 : Nat) ≤ 33; decide) fun E hE => ?_
 obtain ⟨r_, h0, hf0⟩ := bindE hf0
 have o0 := hasF h_machines_none (x := ()) h0 (loN)
 rcases bifE hf0 with ⟨c0, hf0⟩ | ⟨c0, hf0⟩
 ·obtain rfl := someE hf0
  exact awpEnd X0 TTab_ok hC hm hE 4000 (hs := (.g [] :: .a (F7_ r_) :: (rpN 10 bT []))) (x := (B true)) (ob (hasG h_machines_none) :: ob o0 :: (rpN 10 (ob c0) [])) (by kernel_rfl) (LeV.refl _)
 ·rcases bifE hf0 with ⟨c1, hf0⟩ | ⟨c1, hf0⟩
  ·have o1 := lnM F10_ m_.Rows
   rcases bifE hf0 with ⟨c2, hf0⟩ | ⟨c2, hf0⟩
   ·rcases bifE hf0 with ⟨c3, hf0⟩ | ⟨c3, hf0⟩
    ·obtain rfl := someE hf0
     exact awpEnd X0 TTab_ok hC hm hE 4000 (hs := (.g [] :: .a (F7_ r_) :: (rpN 4 bF (rpN 5 bT (aLn m_.Rows.length :: bT :: bF :: bT :: bF :: bT :: bT :: bT :: bF :: bT :: bF :: (rpN 5 bT [bF, bT, bF])))))) (x := (B (decide (x_.Out < m_.Outputs)))) (ob (hasG h_machines_none) :: ob o0 :: (rpN 4 (ob c0) (rpN 5 (ob c1) (ob o1 :: ob c1 :: ob c0 :: ob c1 :: ob c0 :: ob c2 :: ob c2 :: ob c2 :: ob c0 :: ob c2 :: ob c0 :: (rpN 5 (ob c3) [ob c0, ob c3, ob c0]))))) (by kernel_rfl) (LeV.refl _)
    ·obtain rfl := someE hf0
     exact awpEnd X0 TTab_ok hC hm hE 4000 (hs := (.g [] :: .a (F7_ r_) :: (rpN 4 bF (rpN 5 bT (aLn m_.Rows.length :: bT :: bF :: bT :: bF :: bT :: bT :: bT :: bF :: bT :: (rpN 9 bF [])))))) (x := (B false)) (ob (hasG h_machines_none) :: ob o0 :: (rpN 4 (ob c0) (rpN 5 (ob c1) (ob o1 :: ob c1 :: ob c0 :: ob c1 :: ob c0 :: ob c2 :: ob c2 :: ob c2 :: ob c0 :: ob c2 :: ob c0 :: (rpN 5 (ob c3) [ob c0, ob c3, ob c0]))))) (by kernel_rfl) (LeV.refl _)
   ·obtain rfl := someE hf0
    exact awpEnd X0 TTab_ok hC hm hE 4000 (hs := (.g [] :: .a (F7_ r_) :: (rpN 4 bF (rpN 5 bT (aLn m_.Rows.length :: bT :: bF :: bT :: (rpN 15 bF [])))))) (x := (B false)) (ob (hasG h_machines_none) :: ob o0 :: (rpN 4 (ob c0) (rpN 5 (ob c1) (ob o1 :: ob c1 :: ob c0 :: ob c1 :: ob c0 :: ob c2 :: ob c2 :: ob c2 :: ob c0 :: ob c2 :: ob c0 :: (rpN 5 oF [ob c0, oF, ob c0]))))) (by kernel_rfl) (LeV.refl _)
  ·obtain rfl := someE hf0
   exact awpEnd X0 TTab_ok hC hm hE 4000 (hs := (.g [] :: .a (F7_ r_) :: (rpN 27 bF []))) (x := (B false)) (ob (hasG h_machines_none) :: ob o0 :: (rpN 4 (ob c0) (rpN 6 (ob c1) (ob c0 :: ob c1 :: ob c0 :: oF :: oF :: oF :: ob c0 :: oF :: ob c0 :: (rpN 5 oF [ob c0, oF, ob c0]))))) (by kernel_rfl) (LeV.refl _)
noncomputable def bd_machines_Check_1 : Code := (Try.f106.body).getD .skip
noncomputable def sp_machines_Check_1 : Spec := spF (α := S_api_Edge × S_api_Machine) (ρ := Bool) 106 (fun x => [F7_ x.1, F22_ x.2]) (fun r => eB r) (fun x => machines_Check_1 x.1 x.2) [] (by
  rintro ⟨a0, a1⟩ ⟨b0, b1⟩ h
  simp only [List.cons.injEq, and_true] at h
  have e0 := EncI.inj (f := F7_) _ _ h.1
  have e1 := EncI.inj (f := F22_) _ _ h.2
  subst e0 e1
  rfl)
theorem w_machines_Check_1 {ctr : Ctr} (hC : CtrOk Try.prog ctr) (hm : Try.prog.follows .mixedOrders = true) (h_machines_fits : ctr.Has sp_machines_fits) : sp_machines_Check_1.Ok Try.prog := by
 refine spF_ok ?_
 rintro ⟨x_, x1⟩ r0 hf0
 try unfold machines_Check_1 at hf0
 refine callOk_h (tt := TTab) (keep := true) (rs := [(3, none)]) (n := ⟨8, []⟩) (body := bd_machines_Check_1) TTab_ok Try.func106 rfl (by kernel_rfl) rfl rfl (by show (2 : Nat) ≤ 8; decide) fun E hE => ?_
 obtain ⟨r_, h0, hf0⟩ := bindE hf0
 have o0 := hasF h_machines_fits (x := (x1, x_)) h0 (loC F19_ x1 <| loC F7_ x_ <| loN)
 obtain rfl := someE hf0
 exact awpEnd X0 TTab_ok hC hm hE 4000 (hs := [.g [], .a (eB r_)]) (x := (B (!r_))) [ob (hasG h_machines_fits), ob o0] (by kernel_rfl) (LeV.refl _)
noncomputable def bd_slices_IndexFunc_api_Edge_api_Edge : Code := (Try.f132.body).getD .skip
noncomputable def sp_slices_IndexFunc_api_Edge_api_Edge : Spec := spF (α := List S_api_Edge × S_api_Machine) (ρ := Int) 132 (fun x => [F10_ x.1, (eFn1 106 F22_) x.2]) (fun r => (eI .i64) r) (fun x => slices_IndexFunc_api_Edge_api_Edge x.1 x.2) [] (by
  rintro ⟨a0, a1⟩ ⟨b0, b1⟩ h
  simp only [List.cons.injEq, and_true] at h
  have e0 := EncI.inj (f := F10_) _ _ h.1
  have e1 := EncI.inj (f := (eFn1 106 F22_)) _ _ h.2
  subst e0 e1
  rfl)
abbrev ST_slices_IndexFunc_api_Edge_api_Edge_J1 : List (Nat × T) := []
abbrev ST_slices_IndexFunc_api_Edge_api_Edge_L2 (s_ : List S_api_Edge) (f_ : S_api_Machine) (x8 : Int) : List (Nat × T) := [(0, .d (eSl 2 false F7_ s_)), (1, .d (.fn 106 [.sptr (.agg [I f_.Inputs, I f_.Outputs, eSl 1 false F10_ f_.Rows])])), (7, .d (I ((s_.length : Nat) : Int))), (8, .d (I x8))]
theorem w_slices_IndexFunc_api_Edge_api_Edge {ctr : Ctr} (hC : CtrOk Try.prog ctr) (hm : Try.prog.follows .mixedOrders = true) (h_machines_Check_1 : ctr.Has sp_machines_Check_1) : sp_slices_IndexFunc_api_Edge_api_Edge.Ok Try.prog := by
 refine spF_ok ?_
 rintro ⟨s_, f_⟩ r0 hf0
 try unfold slices_IndexFunc_api_Edge_api_Edge at hf0
 refine callOk_h (tt := TTab) (keep := true) (rs := [(4, none)]) (n := ⟨19, []⟩) (body := bd_slices_IndexFunc_api_Edge_api_Edge) TTab_ok Try.func132 rfl (by kernel_rfl) rfl rfl (by show (2 : Nat) ≤ 19; decide) fun E hE => ?_
 refine awpAt X0 TTab_ok hC hm [0, 1] 4000 [.cut 1] (sub [1] bd_slices_IndexFunc_api_Edge_api_Edge) (frs [1] [] bd_slices_IndexFunc_api_Edge_api_Edge []) [(0, .d (eSl 2 false F7_ s_)), (1, .d (.fn 106 [.sptr (.agg [I f_.Inputs, I f_.Outputs, eSl 1 false F10_ f_.Rows])]))] [] (by kernel_rfl) fun st0 h0 => ?_
 refine awpJoin' (X := Unit) (x := (sub [1, 2] bd_slices_IndexFunc_api_Edge_api_Edge)) (y := (sub [1, 1] bd_slices_IndexFunc_api_Edge_api_Edge)) (by kernel_rfl) [] [0, 1] _ h0 (fun z => slices_IndexFunc_api_Edge_api_Edge_J1 = some r0) (fun z => ST_slices_IndexFunc_api_Edge_api_Edge_J1) ?_ fun J1 hJ1 => ?_
 ·rintro ⟨⟩ hf0
  unfold slices_IndexFunc_api_Edge_api_Edge_J1 at hf0
  obtain rfl := someE hf0
  exact awpEnd X0 TTab_ok hC hm hE 4000 (hs := []) (x := (I (-1))) [] (by kernel_rfl) (LeV.refl _)
 ·have o0 := lnM F7_ s_
  obtain ⟨t2, ht2, hf0⟩ := bindE hf0
  refine awpAt X0 TTab_ok hC hm [0, 1, 7, 8] 4000 [aLn s_.length] (sub [1, 2, 1, 0] bd_slices_IndexFunc_api_Edge_api_Edge) (frs [1, 2, 1, 0] [J1] bd_slices_IndexFunc_api_Edge_api_Edge []) [(0, .d (eSl 2 false F7_ s_)), (1, .d (.fn 106 [.sptr (.agg [I f_.Inputs, I f_.Outputs, eSl 1 false F10_ f_.Rows])])), (7, .d (I ((s_.length : Nat) : Int))), (8, .d (I 0))] [ob o0] (by kernel_rfl) fun st0 h0 => ?_
  refine awpLoop' (X := Int × Nat) (c' := (sub [1, 2, 1, 0, 0] bd_slices_IndexFunc_api_Edge_api_Edge)) (by kernel_rfl) [0, 1, 7, 8] (fun x => loopN (fun s => slices_IndexFunc_api_Edge_api_Edge_L2 s_ f_ s) x.2 x.1 = some t2) (fun x => x.2) (fun x => ST_slices_IndexFunc_api_Edge_api_Edge_L2 s_ f_ x.1) (0, fuel) _ h0 inferInstance ht2 ?_
  rintro ⟨x8, n2⟩ hn2 J2 hJ2
  obtain ⟨m2, lr1, rfl, hf1, hl1⟩ := loopE hn2
  try unfold slices_IndexFunc_api_Edge_api_Edge_L2 at hf1
  rcases bifE hf1 with ⟨c0, hf1⟩ | ⟨c0, hf1⟩
  ·obtain ⟨s__e, h0, hf1⟩ := bindE hf1
   have o1 := iM F7_ h0
   obtain ⟨r_, h1, hf1⟩ := bindE hf1
   have o2 := hasF h_machines_Check_1 (x := (s__e, f_)) h1 (loC F7_ s__e <| loC F22_ f_ <| loN)
   rcases bifE hf1 with ⟨c1, hf1⟩ | ⟨c1, hf1⟩
   ·obtain rfl := someE hf1
    obtain rfl := hl1
    obtain rfl := someE hf0
    exact awpEnd X0 TTab_ok hC hm hE 4000 (hs := [bT, .a (F7_ s__e), .g [], .a (eB r_), bT]) (x := (I x8)) [ob c0, ob (i0 h0), ob o1, ob (hasG h_machines_Check_1), ob o2, ob c1] (by kernel_rfl) (LeV.refl _)
   ·obtain rfl := someE hf1
    exact awpBack X0 TTab_ok hC hm [0, 1, 7, 8] 4000 [bT, .a (F7_ s__e), .g [], .a (eB r_), bF] J2 [(0, .d (eSl 2 false F7_ s_)), (1, .d (.fn 106 [.sptr (.agg [I f_.Inputs, I f_.Outputs, eSl 1 false F10_ f_.Rows])])), (7, .d (I ((s_.length : Nat) : Int))), (8, .d (I (w64 (x8 + 1))))] [ob c0, ob (i0 h0), ob o1, ob (hasG h_machines_Check_1), ob o2, ob c1] (by kernel_rfl) fun st0 h0 => hJ2 st0 _ (w64 (x8 + 1), m2) hl1 (Nat.lt_succ_self m2) h0 inferInstance
  ·obtain rfl := someE hf1
   obtain rfl := hl1
   exact awpBack X0 TTab_ok hC hm [] 4000 [bF] J1 [] [ob c0] (by kernel_rfl) fun st0 h0 => hJ1 st0 _ () hf0 h0 inferInstance
noncomputable def bd_slices_ContainsFunc_api_Edge_api_Edge : Code := (Try.f105.body).getD .skip
noncomputable def sp_slices_ContainsFunc_api_Edge_api_Edge : Spec := spF (α := List S_api_Edge × S_api_Machine) (ρ := Bool) 105 (fun x => [F10_ x.1, (eFn1 106 F22_) x.2]) (fun r => eB r) (fun x => slices_ContainsFunc_api_Edge_api_Edge x.1 x.2) [] (by
  rintro ⟨a0, a1⟩ ⟨b0, b1⟩ h
  simp only [List.cons.injEq, and_true] at h
  have e0 := EncI.inj (f := F10_) _ _ h.1
  have e1 := EncI.inj (f := (eFn1 106 F22_)) _ _ h.2
  subst e0 e1
  rfl)
theorem w_slices_ContainsFunc_api_Edge_api_Edge {ctr : Ctr} (hC : CtrOk Try.prog ctr) (hm : Try.prog.follows .mixedOrders = true) (h_slices_IndexFunc_api_Edge_api_Edge : ctr.Has sp_slices_IndexFunc_api_Edge_api_Edge) : sp_slices_ContainsFunc_api_Edge_api_Edge.Ok Try.prog := by
 refine spF_ok ?_
 rintro ⟨s_, f_⟩ r0 hf0
 try unfold slices_ContainsFunc_api_Edge_api_Edge at hf0
 refine callOk_h (tt := TTab) (keep := true) (rs := [(4, none)]) (n := ⟨9, []⟩) (body := bd_slices_ContainsFunc_api_Edge_api_Edge) TTab_ok Try.func105 rfl (by kernel_rfl) rfl rfl (by show (2 : Nat) ≤ 9; decide) fun E hE => ?_
 have o0 := hasG h_slices_IndexFunc_api_Edge_api_Edge
 obtain ⟨r_, h0, hf0⟩ := bindE hf0
 have o1 := hasF h_slices_IndexFunc_api_Edge_api_Edge (x := (s_, f_)) h0 (loC F10_ s_ <| loC (eFn1 106 F22_) f_ <| loN)
 obtain rfl := someE hf0
 exact awpEnd X0 TTab_ok hC hm hE 4000 (hs := [.g [], .a ((eI .i64) r_)]) (x := (B (decide (r_ ≥ 0)))) [ob o0, ob o1] (by kernel_rfl) (LeV.refl _)
noncomputable def bd_machines_Check : Code := (Try.f85.body).getD .skip
noncomputable def sp_machines_Check : Spec := spF (α := S_api_Machine) (ρ := Int) 85 (fun x => [F19_ x]) (fun r => (eI .i64) r) (fun x => machines_Check x) [] (by
  rintro a0 b0 h
  simp only [List.cons.injEq, and_true] at h
  have e0 := EncI.inj (f := F19_) _ _ h
  subst e0
  rfl)
abbrev ST_machines_Check_J1 : List (Nat × T) := []
abbrev ST_machines_Check_L2 (m_ : S_api_Machine) (x36 : Int) : List (Nat × T) := [(1, .d (.sptr (F19_ m_))), (34, .d (eSl 1 false F10_ m_.Rows)), (35, .d (I ((m_.Rows.length : Nat) : Int))), (36, .d (I x36))]
theorem w_machines_Check {ctr : Ctr} (hC : CtrOk Try.prog ctr) (hm : Try.prog.follows .mixedOrders = true) (h_slices_ContainsFunc_api_Edge_api_Edge : ctr.Has sp_slices_ContainsFunc_api_Edge_api_Edge) : sp_machines_Check.Ok Try.prog := by
 refine spF_ok ?_
 rintro m_ r0 hf0
 try unfold machines_Check at hf0
 refine callOk_h (tt := TTab) (keep := true) (rs := [(2, none)]) (n := ⟨51, []⟩) (body := bd_machines_Check) TTab_ok Try.func85 rfl (by kernel_rfl) rfl rfl (by show (1 : Nat) ≤ 51; decide) fun E hE => ?_
 rcases bifE hf0 with ⟨c0, hf0⟩ | ⟨c0, hf0⟩
 ·obtain rfl := someE hf0
  exact awpEnd X0 TTab_ok hC hm hE 4000 (hs := (rpN 10 bT [])) (x := (I 3)) (rpN 4 (ob c0) (rpN 6 oT [])) (by kernel_rfl) (LeV.refl _)
 ·rcases bifE hf0 with ⟨c1, hf0⟩ | ⟨c1, hf0⟩
  ·obtain rfl := someE hf0
   exact awpEnd X0 TTab_ok hC hm hE 4000 (hs := (rpN 4 bF (rpN 6 bT []))) (x := (I 3)) (rpN 4 (ob c0) (rpN 5 (ob c1) [oT])) (by kernel_rfl) (LeV.refl _)
  ·have o0 := lnM F10_ m_.Rows
   rcases bifE hf0 with ⟨c2, hf0⟩ | ⟨c2, hf0⟩
   ·obtain rfl := someE hf0
    exact awpEnd X0 TTab_ok hC hm hE 4000 (hs := (rpN 7 bF [aLn m_.Rows.length, bF, bF, bT])) (x := (I 3)) (rpN 4 (ob c0) [ob c1, ob c1, ob c1, ob o0, ob c1, ob c1, ob c2]) (by kernel_rfl) (LeV.refl _)
   ·rcases bifE hf0 with ⟨c3, hf0⟩ | ⟨c3, hf0⟩
    ·obtain rfl := someE hf0
     exact awpEnd X0 TTab_ok hC hm hE 4000 (hs := (rpN 7 bF (aLn m_.Rows.length :: bF :: bF :: bF :: (rpN 10 bT [])))) (x := (I 1)) (rpN 4 (ob c0) (ob c1 :: ob c1 :: ob c1 :: ob o0 :: ob c1 :: ob c1 :: ob c2 :: (rpN 4 (ob c3) (rpN 6 oT [])))) (by kernel_rfl) (LeV.refl _)
    ·rcases bifE hf0 with ⟨c4, hf0⟩ | ⟨c4, hf0⟩
     ·obtain rfl := someE hf0
      exact awpEnd X0 TTab_ok hC hm hE 4000 (hs := (rpN 7 bF (aLn m_.Rows.length :: (rpN 7 bF (rpN 6 bT []))))) (x := (I 1)) (rpN 4 (ob c0) (ob c1 :: ob c1 :: ob c1 :: ob o0 :: ob c1 :: ob c1 :: ob c2 :: (rpN 4 (ob c3) (rpN 5 (ob c4) [oT])))) (by kernel_rfl) (LeV.refl _)
     ·have o1 := lnM F10_ m_.Rows
      rcases bifE hf0 with ⟨c5, hf0⟩ | ⟨c5, hf0⟩
      ·obtain rfl := someE hf0
       exact awpEnd X0 TTab_ok hC hm hE 4000 (hs := (rpN 7 bF (aLn m_.Rows.length :: (rpN 10 bF [aLn m_.Rows.length, bF, bF, bT])))) (x := (I 1)) (rpN 4 (ob c0) (ob c1 :: ob c1 :: ob c1 :: ob o0 :: ob c1 :: ob c1 :: ob c2 :: (rpN 4 (ob c3) [ob c4, ob c4, ob c4, ob o1, ob c4, ob c4, ob c5]))) (by kernel_rfl) (LeV.refl _)
      ·refine awpAt X0 TTab_ok hC hm [1] 4000 (rpN 7 bF (aLn m_.Rows.length :: (rpN 10 bF [aLn m_.Rows.length, bF, bF, bF, .cut 0]))) (sub [1, 1, 1] bd_machines_Check) (frs [1, 1, 1] [] bd_machines_Check []) [(1, .own (.box (F19_ m_)))] (rpN 4 (ob c0) (ob c1 :: ob c1 :: ob c1 :: ob o0 :: ob c1 :: ob c1 :: ob c2 :: (rpN 4 (ob c3) [ob c4, ob c4, ob c4, ob o1, ob c4, ob c4, ob c5]))) (by kernel_rfl) fun st0 h0 => ?_
       refine awpJoin' (X := Unit) (x := (sub [1, 1, 1, 2] bd_machines_Check)) (y := (sub [1, 1, 1, 1] bd_machines_Check)) (by kernel_rfl) [] [1] _ h0 (fun z => machines_Check_J1 = some r0) (fun z => ST_machines_Check_J1) ?_ fun J1 hJ1 => ?_
       ·rintro ⟨⟩ hf0
        unfold machines_Check_J1 at hf0
        obtain rfl := someE hf0
        exact awpEnd X0 TTab_ok hC hm hE 4000 (hs := []) (x := (I 0)) [] (by kernel_rfl) (LeV.refl _)
       ·have o2 := lnM F10_ m_.Rows
        obtain ⟨t2, ht2, hf0⟩ := bindE hf0
        refine awpAt X0 TTab_ok hC hm [1, 34, 35, 36] 4000 [aLn m_.Rows.length, .n 1 [1]] (sub [1, 1, 1, 2, 1, 0] bd_machines_Check) (frs [1, 1, 1, 2, 1, 0] [J1] bd_machines_Check []) [(1, .d (.sptr (F19_ m_))), (34, .d (eSl 1 false F10_ m_.Rows)), (35, .d (I ((m_.Rows.length : Nat) : Int))), (36, .d (I 0))] [ob o2] (by kernel_rfl) fun st0 h0 => ?_
        refine awpLoop' (X := Int × Nat) (c' := (sub [1, 1, 1, 2, 1, 0, 0] bd_machines_Check)) (by kernel_rfl) [1, 34, 35, 36] (fun x => loopN (fun s => machines_Check_L2 m_ s) x.2 x.1 = some t2) (fun x => x.2) (fun x => ST_machines_Check_L2 m_ x.1) (0, fuel) _ h0 inferInstance ht2 ?_
        rintro ⟨x36, n2⟩ hn2 J2 hJ2
        obtain ⟨m2, lr1, rfl, hf1, hl1⟩ := loopE hn2
        try unfold machines_Check_L2 at hf1
        rcases bifE hf1 with ⟨c6, hf1⟩ | ⟨c6, hf1⟩
        ·obtain ⟨Row_e, h0, hf1⟩ := bindE hf1
         have o3 := iM F10_ h0
         have o4 := lnM F7_ Row_e
         rcases bifE hf1 with ⟨c7, hf1⟩ | ⟨c7, hf1⟩
         ·obtain rfl := someE hf1
          obtain rfl := hl1
          obtain rfl := someE hf0
          exact awpEnd X0 TTab_ok hC hm hE 4000 (hs := (bT :: .a (F10_ Row_e) :: aLn Row_e.length :: (rpN 5 bT []))) (x := (I 1)) (ob c6 :: ob (i0 h0) :: ob o3 :: ob o4 :: (rpN 4 (ob c7) [oT])) (by kernel_rfl) (LeV.refl _)
         ·have o5 := hasG h_slices_ContainsFunc_api_Edge_api_Edge
          obtain ⟨r_, h1, hf1⟩ := bindE hf1
          have o6 := hasF h_slices_ContainsFunc_api_Edge_api_Edge (x := (Row_e, m_)) h1 (loC F10_ Row_e <| loC (eFn1 106 F22_) m_ <| loN)
          rcases bifE hf1 with ⟨c8, hf1⟩ | ⟨c8, hf1⟩
          ·obtain rfl := someE hf1
           obtain rfl := hl1
           obtain rfl := someE hf0
           exact awpEnd X0 TTab_ok hC hm hE 4000 (hs := [bT, .a (F10_ Row_e), aLn Row_e.length, bF, bF, bF, .g [], .a (eB r_), bF, bT]) (x := (I 1)) [ob c6, ob (i0 h0), ob o3, ob o4, ob c7, ob c7, ob c7, ob o5, ob o6, ob c7, ob c8] (by kernel_rfl) (LeV.refl _)
          ·obtain rfl := someE hf1
           exact awpBack X0 TTab_ok hC hm [1, 34, 35, 36] 4000 [bT, .a (F10_ Row_e), aLn Row_e.length, bF, bF, bF, .g [], .a (eB r_), bF, bF] J2 [(1, .d (.sptr (F19_ m_))), (34, .d (eSl 1 false F10_ m_.Rows)), (35, .d (I ((m_.Rows.length : Nat) : Int))), (36, .d (I (w64 (x36 + 1))))] [ob c6, ob (i0 h0), ob o3, ob o4, ob c7, ob c7, ob c7, ob o5, ob o6, ob c7, ob c8] (by kernel_rfl) fun st0 h0 => hJ2 st0 _ (w64 (x36 + 1), m2) hl1 (Nat.lt_succ_self m2) h0 inferInstance
        ·obtain rfl := someE hf1
         obtain rfl := hl1
         exact awpBack X0 TTab_ok hC hm [] 4000 [bF] J1 [] [ob c6] (by kernel_rfl) fun st0 h0 => hJ1 st0 _ () hf0 h0 inferInstance
noncomputable def bd_cmp_Or_api_Errno : Code := (Try.f95.body).getD .skip
noncomputable def sp_cmp_Or_api_Errno : Spec := spF (α := List Int) (ρ := Int) 95 (fun x => [F3_ x]) (fun r => (eI .i64) r) (fun x => cmp_Or_api_Errno x) [] (by
  rintro a0 b0 h
  simp only [List.cons.injEq, and_true] at h
  have e0 := EncI.inj (f := F3_) _ _ h
  subst e0
  rfl)
abbrev ST_cmp_Or_api_Errno_J1 : List (Nat × T) := [(3, .d (I 0))]
abbrev ST_cmp_Or_api_Errno_L2 (vals : List Int) (x8 : Int) : List (Nat × T) := [(3, .d (I 0)), (6, .d (eSl 1 false (eI .i64) vals)), (7, .d (I ((vals.length : Nat) : Int))), (8, .d (I x8))]
theorem w_cmp_Or_api_Errno {ctr : Ctr} (hC : CtrOk Try.prog ctr) (hm : Try.prog.follows .mixedOrders = true) : sp_cmp_Or_api_Errno.Ok Try.prog := by
 refine spF_ok ?_
 rintro vals r0 hf0
 try unfold cmp_Or_api_Errno at hf0
 refine callOk_h (tt := TTab) (keep := true) (rs := [(2, none)]) (n := ⟨18, []⟩) (body := bd_cmp_Or_api_Errno) TTab_ok Try.func95 rfl (by kernel_rfl) rfl rfl (by show (1 : Nat) ≤ 18; decide) fun E hE => ?_
 refine awpAt X0 TTab_ok hC hm [0, 3] 4000 [.cut 2] (sub [1, 1] bd_cmp_Or_api_Errno) (frs [1, 1] [] bd_cmp_Or_api_Errno []) [(0, .d (eSl 1 false (eI .i64) vals)), (3, .d (I 0))] [] (by kernel_rfl) fun st0 h0 => ?_
 refine awpJoin' (X := Unit) (x := (sub [1, 1, 2] bd_cmp_Or_api_Errno)) (y := (sub [1, 1, 1] bd_cmp_Or_api_Errno)) (by kernel_rfl) [3] [0, 3] _ h0 (fun z => cmp_Or_api_Errno_J1 = some r0) (fun z => ST_cmp_Or_api_Errno_J1) ?_ fun J1 hJ1 => ?_
 ·rintro ⟨⟩ hf0
  unfold cmp_Or_api_Errno_J1 at hf0
  obtain rfl := someE hf0
  exact awpEnd X0 TTab_ok hC hm hE 4000 (hs := []) (x := (I 0)) [] (by kernel_rfl) (LeV.refl _)
 ·obtain ⟨t2, ht2, hf0⟩ := bindE hf0
  refine awpAt X0 TTab_ok hC hm [3, 6, 7, 8] 4000 [aLn vals.length] (sub [1, 1, 2, 1, 0] bd_cmp_Or_api_Errno) (frs [1, 1, 2, 1, 0] [J1] bd_cmp_Or_api_Errno []) [(3, .d (I 0)), (6, .d (eSl 1 false (eI .i64) vals)), (7, .d (I ((vals.length : Nat) : Int))), (8, .d (I 0))] [ob (lnM (eI .i64) vals)] (by kernel_rfl) fun st0 h0 => ?_
  refine awpLoop' (X := Int × Nat) (c' := (sub [1, 1, 2, 1, 0, 0] bd_cmp_Or_api_Errno)) (by kernel_rfl) [3, 6, 7, 8] (fun x => loopN (fun s => cmp_Or_api_Errno_L2 vals s) x.2 x.1 = some t2) (fun x => x.2) (fun x => ST_cmp_Or_api_Errno_L2 vals x.1) (0, fuel) _ h0 inferInstance ht2 ?_
  rintro ⟨x8, n2⟩ hn2 J2 hJ2
  obtain ⟨m2, lr1, rfl, hf1, hl1⟩ := loopE hn2
  try unfold cmp_Or_api_Errno_L2 at hf1
  rcases bifE hf1 with ⟨c0, hf1⟩ | ⟨c0, hf1⟩
  ·obtain ⟨val_e, h0, hf1⟩ := bindE hf1
   rcases bifE hf1 with ⟨c1, hf1⟩ | ⟨c1, hf1⟩
   ·obtain rfl := someE hf1
    obtain rfl := hl1
    obtain rfl := someE hf0
    exact awpEnd X0 TTab_ok hC hm hE 4000 (hs := [bT, .a ((eI .i64) val_e), bT]) (x := (I val_e)) [ob c0, ob (i0 h0), ob (iM (eI .i64) h0), ob c1] (by kernel_rfl) (LeV.refl _)
   ·obtain rfl := someE hf1
    exact awpBack X0 TTab_ok hC hm [3, 6, 7, 8] 4000 [bT, .a ((eI .i64) val_e), bF] J2 [(3, .d (I 0)), (6, .d (eSl 1 false (eI .i64) vals)), (7, .d (I ((vals.length : Nat) : Int))), (8, .d (I (w64 (x8 + 1))))] [ob c0, ob (i0 h0), ob (iM (eI .i64) h0), ob c1] (by kernel_rfl) fun st0 h0 => hJ2 st0 _ (w64 (x8 + 1), m2) hl1 (Nat.lt_succ_self m2) h0 inferInstance
  ·obtain rfl := someE hf1
   obtain rfl := hl1
   exact awpBack X0 TTab_ok hC hm [3] 4000 [bF] J1 [(3, .d (I 0))] [ob c0] (by kernel_rfl) fun st0 h0 => hJ1 st0 _ () hf0 h0 inferInstance
noncomputable def bd_equals_both : Code := (Try.f70.body).getD .skip
noncomputable def sp_equals_both : Spec := spF (α := S_api_Machine × S_api_Machine) (ρ := Int) 70 (fun x => [F19_ x.1, F19_ x.2]) (fun r => (eI .i64) r) (fun x => equals_both x.1 x.2) [] (by
  rintro ⟨a0, a1⟩ ⟨b0, b1⟩ h
  simp only [List.cons.injEq, and_true] at h
  have e0 := EncI.inj (f := F19_) _ _ h.1
  have e1 := EncI.inj (f := F19_) _ _ h.2
  subst e0 e1
  rfl)
abbrev ST_equals_both_J1 (e_ : Int) : List (Nat × T) := [(5, .d (I e_))]
theorem w_equals_both {ctr : Ctr} (hC : CtrOk Try.prog ctr) (hm : Try.prog.follows .mixedOrders = true) (h_machines_Check : ctr.Has sp_machines_Check) (h_cmp_Or_api_Errno : ctr.Has sp_cmp_Or_api_Errno) : sp_equals_both.Ok Try.prog := by
 refine spF_ok ?_
 rintro ⟨a_, b_⟩ r0 hf0
 try unfold equals_both at hf0
 refine callOk_h (tt := TTab) (keep := true) (rs := [(4, none)]) (n := ⟨22, []⟩) (body := bd_equals_both) TTab_ok Try.func70 rfl (by kernel_rfl) rfl rfl (by show (2 : Nat) ≤ 22; decide) fun E hE => ?_
 obtain ⟨r_, h0, hf0⟩ := bindE hf0
 have o0 := hasF h_machines_Check (x := a_) h0 (loC F19_ a_ <| loN)
 obtain ⟨r_1, h1, hf0⟩ := bindE hf0
 have o1 := hasF h_machines_Check (x := b_) h1 (loC F19_ b_ <| loN)
 have o2 := shM (eI .i64) (eI .i64) ([r_, r_1])
 obtain ⟨r_2, h2, hf0⟩ := bindE hf0
 have o3 := hasF h_cmp_Or_api_Errno (x := [r_, r_1]) h2 (loC F1_ ([r_, r_1] : List Int) <| loN)
 refine awpAt X0 TTab_ok hC hm [2, 3, 5] 4000 [.g [], .a ((eI .i64) r_), .g [], .a ((eI .i64) r_1), .g [], .l (([r_, r_1]).map (eI .i64)), .a ((eI .i64) r_2), .cut 0] (sub [1, 1] bd_equals_both) (frs [1, 1] [] bd_equals_both []) [(2, .own (.box (F19_ a_))), (3, .own (.box (F19_ b_))), (5, .d (I r_2))] [ob (hasG h_machines_Check), ob o0, ob (hasG h_machines_Check), ob o1, ob (hasG h_cmp_Or_api_Errno), ob o2, ob o3] (by kernel_rfl) fun st0 h0 => ?_
 refine awpJoin' (X := Int) (x := (sub [1, 1, 2] bd_equals_both)) (y := (sub [1, 1, 1] bd_equals_both)) (by kernel_rfl) [5] [2, 3, 5] _ h0 (fun z => equals_both_J1 z = some r0) (fun z => ST_equals_both_J1 z) ?_ fun J1 hJ1 => ?_
 ·rintro e_ hf0
  unfold equals_both_J1 at hf0
  obtain rfl := someE hf0
  exact awpEnd X0 TTab_ok hC hm hE 4000 (hs := []) (x := (I e_)) [] (by kernel_rfl) (LeV.refl _)
 ·rcases bifE hf0 with ⟨c0, hf0⟩ | ⟨c0, hf0⟩
  ·rcases bifE hf0 with ⟨c1, hf0⟩ | ⟨c1, hf0⟩
   ·exact awpBack X0 TTab_ok hC hm [5] 4000 (rpN 7 bT []) J1 [(5, .d (I 5))] (rpN 6 (ob c0) [ob c1]) (by kernel_rfl) fun st0 h0 => hJ1 st0 _ 5 hf0 h0 inferInstance
   ·exact awpBack X0 TTab_ok hC hm [5] 4000 (rpN 6 bT [bF]) J1 [(5, .d (I r_2))] (rpN 6 (ob c0) [ob c1]) (by kernel_rfl) fun st0 h0 => hJ1 st0 _ r_2 hf0 h0 inferInstance
  ·exact awpBack X0 TTab_ok hC hm [5] 4000 (rpN 7 bF []) J1 [(5, .d (I r_2))] (rpN 6 (ob c0) [oF]) (by kernel_rfl) fun st0 h0 => hJ1 st0 _ r_2 hf0 h0 inferInstance
noncomputable def bd_equals_meets : Code := (Try.f96.body).getD .skip
noncomputable def sp_equals_meets : Spec := spF (α := S_api_Machine × S_api_Machine) (ρ := S_api_Machine × S_api_Machine) 96 (fun x => [F19_ x.1, F19_ x.2]) (fun r => (eFn2 117 F22_ F22_) r) (fun x => equals_meets x.1 x.2) [] (by
  rintro ⟨a0, a1⟩ ⟨b0, b1⟩ h
  simp only [List.cons.injEq, and_true] at h
  have e0 := EncI.inj (f := F19_) _ _ h.1
  have e1 := EncI.inj (f := F19_) _ _ h.2
  subst e0 e1
  rfl)
theorem w_equals_meets {ctr : Ctr} (hC : CtrOk Try.prog ctr) (hm : Try.prog.follows .mixedOrders = true) : sp_equals_meets.Ok Try.prog := by
 refine spF_ok ?_
 rintro ⟨a_, b_⟩ r0 hf0
 try unfold equals_meets at hf0
 refine callOk_h (tt := TTab) (keep := true) (rs := [(4, none)]) (n := ⟨6, []⟩) (body := bd_equals_meets) TTab_ok Try.func96 rfl (by kernel_rfl) rfl rfl (by show (2 : Nat) ≤ 6; decide) fun E hE => ?_
 obtain rfl := someE hf0
 exact awpEnd X0 TTab_ok hC hm hE 4000 (hs := []) (x := (.fn 117 [.sptr (.agg [I a_.Inputs, I a_.Outputs, eSl 1 false F10_ a_.Rows]), .sptr (.agg [I b_.Inputs, I b_.Outputs, eSl 1 false F10_ b_.Rows])])) [] (by kernel_rfl) (show LeV (.fn 117 [.sptr (.agg [I a_.Inputs, I a_.Outputs, eSl 1 false F10_ a_.Rows]), .sptr (.agg [I b_.Inputs, I b_.Outputs, eSl 1 false F10_ b_.Rows])]) (.fn 117 [.sptr (.agg [I (((a_, b_).1).Inputs), I (((a_, b_).1).Outputs), eSl 1 false F10_ (((a_, b_).1).Rows)]), .sptr (.agg [I (((a_, b_).2).Inputs), I (((a_, b_).2).Outputs), eSl 1 false F10_ (((a_, b_).2).Rows)])]) from inferInstance)
noncomputable def bd_equals_meets_1 : Code := (Try.f117.body).getD .skip
abbrev ST_equals_meets_1_J2 {σ : Type} (x0 : S_api_Machine) (x1 : S_api_Machine) (YY : σ → Opq1) (at_ : Int) (sg2 : σ) (seen1 : List ((Arr2 Int) × Bool)) (l_1 : List S_equals_arrival) : List (Nat × T) := [(0, .own (.opq (YY sg2).q)), (1, .d (.sptr (F19_ x0))), (2, .d (.sptr (F19_ x1))), (4, .own (.opq (mapQ (entL F0_ eB seen1)))), (5, .own (eOs 4 false F12_ l_1)), (6, .d (I at_))]
abbrev ST_equals_meets_1_J4 {σ : Type} (x0 : S_api_Machine) (x1 : S_api_Machine) (YY : σ → Opq1) (at_ : Int) (l__e : S_equals_arrival) (l__e1 : S_equals_arrival) (x38 : Int) (sg4 : σ) (seen3 : List ((Arr2 Int) × Bool)) (l_3 : List S_equals_arrival) : List (Nat × T) := [(0, .own (.opq (YY sg4).q)), (1, .d (.sptr (F19_ x0))), (2, .d (.sptr (F19_ x1))), (4, .own (.opq (mapQ (entL F0_ eB seen3)))), (5, .own (eOs 4 false F12_ l_3)), (6, .d (I at_)), (7, .d (I l__e.pair_.e0)), (8, .d (I l__e1.pair_.e1)), (37, .d (I x0.Inputs)), (38, .d (I x38))]
abbrev ST_equals_meets_1_L3 {σ : Type} (x0 : S_api_Machine) (x1 : S_api_Machine) (YY : σ → Opq1) (at_ : Int) (l__e : S_equals_arrival) (l__e1 : S_equals_arrival) (sg3 : σ) (seen2 : List ((Arr2 Int) × Bool)) (l_2 : List S_equals_arrival) (x38 : Int) : List (Nat × T) := [(0, .own (.opq (YY sg3).q)), (1, .d (.sptr (F19_ x0))), (2, .d (.sptr (F19_ x1))), (4, .own (.opq (mapQ (entL F0_ eB seen2)))), (5, .own (eOs 4 false F12_ l_2)), (6, .d (I at_)), (7, .d (I l__e.pair_.e0)), (8, .d (I l__e1.pair_.e1)), (37, .d (I x0.Inputs)), (38, .d (I x38))]
abbrev ST_equals_meets_1_L1 {σ : Type} (x0 : S_api_Machine) (x1 : S_api_Machine) (YY : σ → Opq1) (sg1 : σ) (seen : List ((Arr2 Int) × Bool)) (l_ : List S_equals_arrival) (at_ : Int) : List (Nat × T) := [(0, .own (.opq (YY sg1).q)), (1, .d (.sptr (F19_ x0))), (2, .d (.sptr (F19_ x1))), (4, .own (.opq (mapQ (entL F0_ eB seen)))), (5, .own (eOs 4 false F12_ l_)), (6, .d (I at_))]
theorem w_equals_meets_1 {ctr : Ctr} (hC : CtrOk Try.prog ctr) (hm : Try.prog.follows .mixedOrders = true) (x0 : S_api_Machine) (x1 : S_api_Machine) : IterF Try.prog (.fn 117 [.sptr (.agg [I x0.Inputs, I x0.Outputs, eSl 1 false F10_ x0.Rows]), .sptr (.agg [I x1.Inputs, I x1.Outputs, eSl 1 false F10_ x1.Rows])]) (fun (x : S_equals_meet × List S_equals_arrival) (bb : Bool) (vv : Value) => [F21_ x.1, bif bb then .atom vv else F17_ x.2]) (@equals_meets_1 x0 x1) := by
 refine iterF_h (tt := TTab) (nt := 95) (body := bd_equals_meets_1) TTab_ok Try.func117 rfl (by kernel_rfl) rfl rfl (by show (3 : Nat) ≤ 95; decide) ?_
 intro σ yv YY yy hy sg r0 hf0 E hE
 unfold equals_meets_1 at hf0
 have o0 := (⟨rfl, rfl, rfl, rfl, ent_ok (fun _ => rfl) ([] : List ((Arr2 Int) × Bool))⟩ : T.own (.opq (mapQ (entL F0_ eB ([] : List ((Arr2 Int) × Bool))))) = T.own (.opq (mapQ (entL F0_ eB ([] : List ((Arr2 Int) × Bool))))) ∧ 1 = 1 ∧ (okAgg [.i64, .i64]) (F0_ (Arr2.mk 0 0)) = true ∧ (eB true).isD = true ∧ ∀ p ∈ entL F0_ eB ([] : List ((Arr2 Int) × Bool)), (okAgg [.i64, .i64]) p.1 = true)
 have o1 := put_set (f := F0_) (g := eB) (Arr2.mk 0 0) true ([] : List ((Arr2 Int) × Bool))
 obtain ⟨t1, ht1, hf0⟩ := bindE hf0
 refine awpAt ((xUpd mt_130 13 (entL F0_ eB ([] : List ((Arr2 Int) × Bool))) (entL F0_ eB (mset ([] : List ((Arr2 Int) × Bool)) (Arr2.mk 0 0) true))).or ((xMake Try.prog 13).or X0)) TTab_ok hC hm [0, 1, 2, 4, 5, 6] 4000 [] (sub [1, 1, 1, 0] bd_equals_meets_1) (frs [1, 1, 1, 0] [] bd_equals_meets_1 []) [(0, .own (.opq (YY sg).q)), (1, .d (.sptr (F19_ x0))), (2, .d (.sptr (F19_ x1))), (4, .own (.opq (mapQ (entL F0_ eB (mset ([] : List ((Arr2 Int) × Bool)) (Arr2.mk 0 0) true))))), (5, .own (eOs 4 true F12_ ([(S_equals_arrival.mk (Arr2.mk 0 0) (-1) 0)]))), (6, .d (I 0))] [ob o0, ob o1] (by kernel_rfl) fun st0 h0 => ?_
 refine awpLoop' (X := (σ × (List ((Arr2 Int) × Bool)) × List S_equals_arrival × Int) × Nat) (c' := (sub [1, 1, 1, 0, 0] bd_equals_meets_1)) (by kernel_rfl) [0, 1, 2, 4, 5, 6] (fun x => loopN (fun s => equals_meets_1_L1 x0 x1 yy s.1 s.2.1 s.2.2.1 s.2.2.2) x.2 x.1 = some t1) (fun x => x.2) (fun x => ST_equals_meets_1_L1 x0 x1 YY x.1.1 x.1.2.1 x.1.2.2.1 x.1.2.2.2) ((sg, (mset ([] : List ((Arr2 Int) × Bool)) (Arr2.mk 0 0) true), ([(S_equals_arrival.mk (Arr2.mk 0 0) (-1) 0)] : List S_equals_arrival), 0), fuel) _ h0 inferInstance ht1 ?_
 rintro ⟨⟨sg1, seen, l_, at_⟩, n1⟩ hn1 J1 hJ1
 obtain ⟨m1, lr1, rfl, hf1, hl1⟩ := loopE hn1
 try unfold equals_meets_1_L1 at hf1
 have o2 := lnM F12_ l_
 rcases bifE hf1 with ⟨c0, hf1⟩ | ⟨c0, hf1⟩
 ·refine awpAt X0 TTab_ok hC hm [0, 1, 2, 4, 5, 6] 4000 [aLn l_.length, bT, .cut 0] (sub [1, 1, 1, 0, 0, 1] bd_equals_meets_1) (frs [1, 1, 1, 0, 0, 1] [J1] bd_equals_meets_1 []) [(0, .own (.opq (YY sg1).q)), (1, .d (.sptr (F19_ x0))), (2, .d (.sptr (F19_ x1))), (4, .own (.opq (mapQ (entL F0_ eB seen)))), (5, .own (eOs 4 false F12_ l_)), (6, .d (I at_))] [ob o2, ob c0] (by kernel_rfl) fun st0 h0 => ?_
  refine awpJoin' (X := σ × (List ((Arr2 Int) × Bool)) × List S_equals_arrival) (x := (sub [1, 1, 1, 0, 0, 1, 2] bd_equals_meets_1)) (y := (sub [1, 1, 1, 0, 0, 1, 1] bd_equals_meets_1)) (by kernel_rfl) [0, 1, 2, 4, 5, 6] [0, 1, 2, 4, 5, 6] _ h0 (fun z => equals_meets_1_J2 at_ z.1 z.2.1 z.2.2 = some lr1) (fun z => ST_equals_meets_1_J2 x0 x1 YY at_ z.1 z.2.1 z.2.2) ?_ fun J2 hJ2 => ?_
  ·rintro ⟨sg2, seen1, l_1⟩ hf1
   unfold equals_meets_1_J2 at hf1
   obtain rfl := someE hf1
   exact awpBack X0 TTab_ok hC hm [0, 1, 2, 4, 5, 6] 4000 [] J1 [(0, .own (.opq (YY sg2).q)), (1, .d (.sptr (F19_ x0))), (2, .d (.sptr (F19_ x1))), (4, .own (.opq (mapQ (entL F0_ eB seen1)))), (5, .own (eOs 4 false F12_ l_1)), (6, .d (I (w64 (at_ + 1))))] [] (by kernel_rfl) fun st0 h0 => hJ1 st0 _ ((sg2, seen1, l_1, w64 (at_ + 1)), m1) hl1 (Nat.lt_succ_self m1) h0 inferInstance
  ·obtain ⟨l__e, h0, hf1⟩ := bindE hf1
   have o3 := iL F12_ h0
   have o4 := iM F12_ h0
   have o5 := iM F12_ h0
   have o6 := (⟨rfl, by decide⟩ : true = true ∧ 0 < 2)
   have o7 := iM F12_ h0
   obtain ⟨l__e1, h1, hf1⟩ := bindE hf1
   have o8 := iL F12_ h1
   have o9 := iM F12_ h1
   have o10 := iM F12_ h1
   have o11 := (⟨rfl, by decide⟩ : true = true ∧ 1 < 2)
   have o12 := iM F12_ h1
   obtain ⟨t3, ht3, hf1⟩ := bindE hf1
   refine awpAt X0 TTab_ok hC hm [0, 1, 2, 4, 5, 6, 7, 8, 37, 38] 4000 [.a (F12_ l__e), .a (F12_ l__e), .a (F12_ l__e), .a (F12_ l__e1), .a (F12_ l__e1), .a (F12_ l__e1)] (sub [1, 1, 1, 0, 0, 1, 2, 0, 1, 1, 0] bd_equals_meets_1) (frs [1, 1, 1, 0, 0, 1, 2, 0, 1, 1, 0] [J1, J2] bd_equals_meets_1 []) [(0, .own (.opq (YY sg1).q)), (1, .d (.sptr (F19_ x0))), (2, .d (.sptr (F19_ x1))), (4, .own (.opq (mapQ (entL F0_ eB seen)))), (5, .own (eOs 4 false F12_ l_)), (6, .d (I at_)), (7, .d (I l__e.pair_.e0)), (8, .d (I l__e1.pair_.e1)), (37, .d (I x0.Inputs)), (38, .d (I 0))] [ob o3, ob o4, ob o5, ob o6, ob o7, ob o8, ob o9, ob o10, ob o11, ob o12] (by kernel_rfl) fun st0 h0 => ?_
   refine awpLoop' (X := (σ × (List ((Arr2 Int) × Bool)) × List S_equals_arrival × Int) × Nat) (c' := (sub [1, 1, 1, 0, 0, 1, 2, 0, 1, 1, 0, 0] bd_equals_meets_1)) (by kernel_rfl) [0, 1, 2, 4, 5, 6, 7, 8, 37, 38] (fun x => loopN (fun s => equals_meets_1_L3 x0 x1 yy at_ l__e l__e1 s.1 s.2.1 s.2.2.1 s.2.2.2) x.2 x.1 = some t3) (fun x => x.2) (fun x => ST_equals_meets_1_L3 x0 x1 YY at_ l__e l__e1 x.1.1 x.1.2.1 x.1.2.2.1 x.1.2.2.2) ((sg1, seen, l_, 0), fuel) _ h0 inferInstance ht3 ?_
   rintro ⟨⟨sg3, seen2, l_2, x38⟩, n3⟩ hn3 J3 hJ3
   obtain ⟨m3, lr2, rfl, hf2, hl2⟩ := loopE hn3
   try unfold equals_meets_1_L3 at hf2
   rcases bifE hf2 with ⟨c1, hf2⟩ | ⟨c1, hf2⟩
   ·refine awpAt X0 TTab_ok hC hm [0, 1, 2, 4, 5, 6, 7, 8, 37, 38] 4000 [bT, .cut 0] (sub [1, 1, 1, 0, 0, 1, 2, 0, 1, 1, 0, 0, 1, 1] bd_equals_meets_1) (frs [1, 1, 1, 0, 0, 1, 2, 0, 1, 1, 0, 0, 1, 1] [J1, J2, J3] bd_equals_meets_1 []) [(0, .own (.opq (YY sg3).q)), (1, .d (.sptr (F19_ x0))), (2, .d (.sptr (F19_ x1))), (4, .own (.opq (mapQ (entL F0_ eB seen2)))), (5, .own (eOs 4 false F12_ l_2)), (6, .d (I at_)), (7, .d (I l__e.pair_.e0)), (8, .d (I l__e1.pair_.e1)), (37, .d (I x0.Inputs)), (38, .d (I x38))] [ob c1] (by kernel_rfl) fun st0 h0 => ?_
    refine awpJoin' (X := σ × (List ((Arr2 Int) × Bool)) × List S_equals_arrival) (x := (sub [1, 1, 1, 0, 0, 1, 2, 0, 1, 1, 0, 0, 1, 1, 2] bd_equals_meets_1)) (y := (sub [1, 1, 1, 0, 0, 1, 2, 0, 1, 1, 0, 0, 1, 1, 1] bd_equals_meets_1)) (by kernel_rfl) [0, 1, 2, 4, 5, 6, 7, 8, 37, 38] [0, 1, 2, 4, 5, 6, 7, 8, 37, 38] _ h0 (fun z => equals_meets_1_J4 x38 z.1 z.2.1 z.2.2 = some lr2) (fun z => ST_equals_meets_1_J4 x0 x1 YY at_ l__e l__e1 x38 z.1 z.2.1 z.2.2) ?_ fun J4 hJ4 => ?_
    ·rintro ⟨sg4, seen3, l_3⟩ hf2
     unfold equals_meets_1_J4 at hf2
     obtain rfl := someE hf2
     exact awpBack X0 TTab_ok hC hm [0, 1, 2, 4, 5, 6, 7, 8, 37, 38] 4000 [] J3 [(0, .own (.opq (YY sg4).q)), (1, .d (.sptr (F19_ x0))), (2, .d (.sptr (F19_ x1))), (4, .own (.opq (mapQ (entL F0_ eB seen3)))), (5, .own (eOs 4 false F12_ l_3)), (6, .d (I at_)), (7, .d (I l__e.pair_.e0)), (8, .d (I l__e1.pair_.e1)), (37, .d (I x0.Inputs)), (38, .d (I (w64 (x38 + 1))))] [] (by kernel_rfl) fun st0 h0 => hJ3 st0 _ ((sg4, seen3, l_3, w64 (x38 + 1)), m3) hl2 (Nat.lt_succ_self m3) h0 inferInstance
    ·obtain ⟨Row_e, h2, hf2⟩ := bindE hf2
     have o13 := iM F10_ h2
     obtain ⟨Row_e_e, h3, hf2⟩ := bindE hf2
     have o14 := iM F7_ h3
     obtain ⟨Row_e1, h4, hf2⟩ := bindE hf2
     have o15 := iM F10_ h4
     obtain ⟨Row_e_e1, h5, hf2⟩ := bindE hf2
     have o16 := iM F7_ h5
     refine awpAt X0 TTab_ok hC hm [0, 1, 2, 4, 5, 6, 7, 8, 9, 10, 11, 37, 38] 4000 [.a (F10_ Row_e), .a (F7_ Row_e_e), .a (F10_ Row_e1), .a (F7_ Row_e_e1), .cut 1] (sub [1, 1, 1, 0, 0, 1, 2, 0, 1, 1, 0, 0, 1, 1, 2, 0, 1, 1, 0] bd_equals_meets_1) (frs [1, 1, 1, 0, 0, 1, 2, 0, 1, 1, 0, 0, 1, 1, 2, 0, 1, 1, 0] [J1, J2, J3, J4] bd_equals_meets_1 []) [(0, .own (.opq (YY sg3).q)), (1, .d (.sptr (F19_ x0))), (2, .d (.sptr (F19_ x1))), (4, .own (.opq (mapQ (entL F0_ eB seen2)))), (5, .own (eOs 4 false F12_ l_2)), (6, .d (I at_)), (7, .d (I l__e.pair_.e0)), (8, .d (I l__e1.pair_.e1)), (9, .d (I x38)), (10, .own (.box (F7_ Row_e_e))), (11, .own (.box (F7_ Row_e_e1))), (37, .d (I x0.Inputs)), (38, .d (I x38))] [ob (i0 h2), ob o13, ob (i0 h3), ob o14, ob (i0 h4), ob o15, ob (i0 h5), ob o16] (by kernel_rfl) fun st0 h0 => awpOf h0 ?_
     have o17 := shM F12_ F12_ l_2
     obtain ⟨yr, h6, hf2⟩ := bindE hf2
     rcases bifE hf2 with ⟨c2, hf2⟩ | ⟨c2, hf2⟩
     ·refine awpPinSeq (by kernel_rfl) (x := (sub [1, 1, 1, 0, 0, 1, 2, 0, 1, 1, 0, 0, 1, 1, 2, 0, 1, 1, 0, 0] bd_equals_meets_1)) (y := (sub [1, 1, 1, 0, 0, 1, 2, 0, 1, 1, 0, 0, 1, 1, 2, 0, 1, 1, 0, 1] bd_equals_meets_1)) 5 (fun st1 => Own.canon [0, 1, 2, 4, 5, 6, 7, 8, 9, 10, 11, 37, 38, 65] st1 = ofL [(0, .own (.opq (YY yr.1).q)), (1, .d (.sptr (F19_ x0))), (2, .d (.sptr (F19_ x1))), (4, .own (.opq (mapQ (entL F0_ eB seen2)))), (5, .own (eOs 4 false F12_ l_2)), (6, .d (I at_)), (7, .d (I l__e.pair_.e0)), (8, .d (I l__e1.pair_.e1)), (9, .d (I x38)), (10, .own (.box (F7_ Row_e_e))), (11, .own (.box (F7_ Row_e_e1))), (37, .d (I x0.Inputs)), (38, .d (I x38)), (65, .d (B (!true)))]) (fun pv5 => awpFin ((xYield (P := Try.prog) TTab hy 64 (s := sg3) (x := ((S_equals_meet.mk at_ x38 Row_e_e Row_e_e1), l_2)) (s' := yr.1) (b := true) (pv5) (yrE h6 c2)).or X0) TTab_ok hC hm [0, 1, 2, 4, 5, 6, 7, 8, 9, 10, 11, 37, 38, 65] 4000 [] .normal [(0, .own (.opq (YY yr.1).q)), (1, .d (.sptr (F19_ x0))), (2, .d (.sptr (F19_ x1))), (4, .own (.opq (mapQ (entL F0_ eB seen2)))), (5, .own (eOs 4 false F12_ l_2)), (6, .d (I at_)), (7, .d (I l__e.pair_.e0)), (8, .d (I l__e1.pair_.e1)), (9, .d (I x38)), (10, .own (.box (F7_ Row_e_e))), (11, .own (.box (F7_ Row_e_e1))), (37, .d (I x0.Inputs)), (38, .d (I x38)), (65, .d (B (!true)))] [ob (tabY_at (yv := yv) (Y := YY) (enc := (fun (x : S_equals_meet × List S_equals_arrival) (bb : Bool) (vv : Value) => [F21_ x.1, bif bb then .atom vv else F17_ x.2])) (s := sg3) (x := ((S_equals_meet.mk at_ x38 Row_e_e Row_e_e1), l_2)) (s' := yr.1) (b := true) (v := pv5) [F21_ (S_equals_meet.mk at_ x38 Row_e_e Row_e_e1), .atom pv5] (show LeTs [F21_ (S_equals_meet.mk at_ x38 Row_e_e Row_e_e1), .atom pv5] [F21_ (S_equals_meet.mk at_ x38 Row_e_e Row_e_e1), .atom pv5] from inferInstance))] (by kernel_rfl) fun st0 h0 => ⟨rfl, h0⟩) fun st1 h1 => awpOf h1 ?_
      rcases bifE hf2 with ⟨c3, hf2⟩ | ⟨c3, hf2⟩
      ·rcases bifE hf2 with ⟨c4, hf2⟩ | ⟨c4, hf2⟩
       ·have o18 := (⟨rfl, rfl, ent_ok (fun _ => rfl) seen2⟩ : A.opq (mapQ (entL F0_ eB seen2)) = A.opq (mapQ (entL F0_ eB seen2)) ∧ (okAgg [.i64, .i64]) (F0_ (Arr2.mk Row_e_e.To Row_e_e1.To)) = true ∧ ∀ p ∈ entL F0_ eB seen2, (okAgg [.i64, .i64]) p.1 = true)
        obtain ⟨val, h7, hf2⟩ := bindE hf2
        replace h7 := someE h7
        have o19 := (get1 (f := F0_) (g := eB) (z0 := false) (z := .atom (.bool false)) rfl (Arr2.mk Row_e_e.To Row_e_e1.To) seen2).trans (congrArg eB h7)
        rcases bifE hf2 with ⟨c5, hf2⟩ | ⟨c5, hf2⟩
        ·have o20 := (⟨rfl, rfl, rfl, rfl, ent_ok (fun _ => rfl) seen2⟩ : T.own (.opq (mapQ (entL F0_ eB seen2))) = T.own (.opq (mapQ (entL F0_ eB seen2))) ∧ 0 = 0 ∧ (okAgg [.i64, .i64]) (F0_ (Arr2.mk Row_e_e.To Row_e_e1.To)) = true ∧ (eB true).isD = true ∧ ∀ p ∈ entL F0_ eB seen2, (okAgg [.i64, .i64]) p.1 = true)
         have o21 := put_set (f := F0_) (g := eB) (Arr2.mk Row_e_e.To Row_e_e1.To) true seen2
         have o22 := dM F12_ ([(S_equals_arrival.mk (Arr2.mk Row_e_e.To Row_e_e1.To) at_ x38)] : List S_equals_arrival)
         have o23 := dM F12_ ([(S_equals_arrival.mk (Arr2.mk Row_e_e.To Row_e_e1.To) at_ x38)] : List S_equals_arrival)
         obtain ⟨g0, hf2⟩ := gdE hf2
         have o24 := aL F12_ F12_ g0
         have o25 := aM F12_ l_2 ([(S_equals_arrival.mk (Arr2.mk Row_e_e.To Row_e_e1.To) at_ x38)] : List S_equals_arrival)
         exact awpBack ((xUpd mt_130 85 (entL F0_ eB seen2) (entL F0_ eB (mset seen2 (Arr2.mk Row_e_e.To Row_e_e1.To) true))).or ((xLook mt_130 82 (entL F0_ eB seen2)).or X0)) TTab_ok hC hm [0, 1, 2, 4, 5, 6, 7, 8, 37, 38] 4000 (bF :: (rpN 7 bT (.a (eB val) :: (rpN 4 bT [.l ((l_2 ++ ([(S_equals_arrival.mk (Arr2.mk Row_e_e.To Row_e_e1.To) at_ x38)] : List S_equals_arrival)).map F12_)])))) J4 [(0, .own (.opq (YY yr.1).q)), (1, .d (.sptr (F19_ x0))), (2, .d (.sptr (F19_ x1))), (4, .own (.opq (mapQ (entL F0_ eB (mset seen2 (Arr2.mk Row_e_e.To Row_e_e1.To) true))))), (5, .own (eOs 4 false F12_ (l_2 ++ ([(S_equals_arrival.mk (Arr2.mk Row_e_e.To Row_e_e1.To) at_ x38)] : List S_equals_arrival)))), (6, .d (I at_)), (7, .d (I l__e.pair_.e0)), (8, .d (I l__e1.pair_.e1)), (37, .d (I x0.Inputs)), (38, .d (I x38))] (ob (congrArg Bool.not (Eq.refl true)) :: (rpN 4 (ob c3) [ob c4, ob c4, ob c4, ob o18, ob o19, ob c4, ob c4, ob c5, ob o20, ob o21, ob o22, ob o23, ob o24, ob o25])) (by kernel_rfl) fun st0 h0 => hJ4 st0 _ (yr.1, (mset seen2 (Arr2.mk Row_e_e.To Row_e_e1.To) true), (l_2 ++ ([(S_equals_arrival.mk (Arr2.mk Row_e_e.To Row_e_e1.To) at_ x38)] : List S_equals_arrival))) hf2 h0 inferInstance
        ·exact awpBack ((xLook mt_130 82 (entL F0_ eB seen2)).or X0) TTab_ok hC hm [0, 1, 2, 4, 5, 6, 7, 8, 37, 38] 4000 (bF :: (rpN 7 bT [.a (eB val), bT, bT, bF])) J4 [(0, .own (.opq (YY yr.1).q)), (1, .d (.sptr (F19_ x0))), (2, .d (.sptr (F19_ x1))), (4, .own (.opq (mapQ (entL F0_ eB seen2)))), (5, .own (eOs 4 false F12_ l_2)), (6, .d (I at_)), (7, .d (I l__e.pair_.e0)), (8, .d (I l__e1.pair_.e1)), (37, .d (I x0.Inputs)), (38, .d (I x38))] (ob (congrArg Bool.not (Eq.refl true)) :: (rpN 4 (ob c3) [ob c4, ob c4, ob c4, ob o18, ob o19, ob c4, ob c4, ob c5])) (by kernel_rfl) fun st0 h0 => hJ4 st0 _ (yr.1, seen2, l_2) hf2 h0 inferInstance
       ·exact awpBack X0 TTab_ok hC hm [0, 1, 2, 4, 5, 6, 7, 8, 37, 38] 4000 (bF :: (rpN 4 bT (rpN 6 bF []))) J4 [(0, .own (.opq (YY yr.1).q)), (1, .d (.sptr (F19_ x0))), (2, .d (.sptr (F19_ x1))), (4, .own (.opq (mapQ (entL F0_ eB seen2)))), (5, .own (eOs 4 false F12_ l_2)), (6, .d (I at_)), (7, .d (I l__e.pair_.e0)), (8, .d (I l__e1.pair_.e1)), (37, .d (I x0.Inputs)), (38, .d (I x38))] (ob (congrArg Bool.not (Eq.refl true)) :: (rpN 4 (ob c3) (rpN 5 (ob c4) [oF]))) (by kernel_rfl) fun st0 h0 => hJ4 st0 _ (yr.1, seen2, l_2) hf2 h0 inferInstance
      ·exact awpBack X0 TTab_ok hC hm [0, 1, 2, 4, 5, 6, 7, 8, 37, 38] 4000 (rpN 11 bF []) J4 [(0, .own (.opq (YY yr.1).q)), (1, .d (.sptr (F19_ x0))), (2, .d (.sptr (F19_ x1))), (4, .own (.opq (mapQ (entL F0_ eB seen2)))), (5, .own (eOs 4 false F12_ l_2)), (6, .d (I at_)), (7, .d (I l__e.pair_.e0)), (8, .d (I l__e1.pair_.e1)), (37, .d (I x0.Inputs)), (38, .d (I x38))] (ob (congrArg Bool.not (Eq.refl true)) :: (rpN 4 (ob c3) (rpN 6 oF []))) (by kernel_rfl) fun st0 h0 => hJ4 st0 _ (yr.1, seen2, l_2) hf2 h0 inferInstance
     ·have o26 := shM F12_ F12_ l_2
      have o27 := tabY_at (yv := yv) (Y := YY) (enc := (fun (x : S_equals_meet × List S_equals_arrival) (bb : Bool) (vv : Value) => [F21_ x.1, bif bb then .atom vv else F17_ x.2])) (s := sg3) (x := ((S_equals_meet.mk at_ x38 Row_e_e Row_e_e1), l_2)) (s' := yr.1) (b := false) (v := .nilFunc) [F21_ (S_equals_meet.mk at_ x38 Row_e_e Row_e_e1), F17_ l_2] (show LeTs [F21_ (S_equals_meet.mk at_ x38 Row_e_e Row_e_e1), F17_ l_2] [F21_ (S_equals_meet.mk at_ x38 Row_e_e Row_e_e1), F17_ l_2] from inferInstance)
      refine awpSeqC (by kernel_rfl) (x := (sub [1, 1, 1, 0, 0, 1, 2, 0, 1, 1, 0, 0, 1, 1, 2, 0, 1, 1, 0, 0] bd_equals_meets_1)) (y := (sub [1, 1, 1, 0, 0, 1, 2, 0, 1, 1, 0, 0, 1, 1, 2, 0, 1, 1, 0, 1] bd_equals_meets_1)) (fun st1 => Own.canon [0, 1, 2, 4, 5, 6, 7, 8, 9, 10, 11, 37, 38, 65] st1 = ofL [(0, .own (.opq (YY yr.1).q)), (1, .d (.sptr (F19_ x0))), (2, .d (.sptr (F19_ x1))), (4, .own (.opq (mapQ (entL F0_ eB seen2)))), (5, .d (eSl 4 false F12_ l_2)), (6, .d (I at_)), (7, .d (I l__e.pair_.e0)), (8, .d (I l__e1.pair_.e1)), (9, .d (I x38)), (10, .own (.box (F7_ Row_e_e))), (11, .own (.box (F7_ Row_e_e1))), (37, .d (I x0.Inputs)), (38, .d (I x38)), (65, .d (B (!false)))]) (awpFin ((xYield (P := Try.prog) TTab hy 64 (s := sg3) (x := ((S_equals_meet.mk at_ x38 Row_e_e Row_e_e1), l_2)) (s' := yr.1) (b := false) (.nilFunc) (yrE h6 c2)).or X0) TTab_ok hC hm [0, 1, 2, 4, 5, 6, 7, 8, 9, 10, 11, 37, 38, 65] 4000 [.l (l_2.map F12_)] .normal [(0, .own (.opq (YY yr.1).q)), (1, .d (.sptr (F19_ x0))), (2, .d (.sptr (F19_ x1))), (4, .own (.opq (mapQ (entL F0_ eB seen2)))), (5, .d (eSl 4 false F12_ l_2)), (6, .d (I at_)), (7, .d (I l__e.pair_.e0)), (8, .d (I l__e1.pair_.e1)), (9, .d (I x38)), (10, .own (.box (F7_ Row_e_e))), (11, .own (.box (F7_ Row_e_e1))), (37, .d (I x0.Inputs)), (38, .d (I x38)), (65, .d (B (!false)))] [ob o26, ob o27] (by kernel_rfl) fun st0 h0 => ⟨rfl, h0⟩) fun st1 h1 => awpOf h1 ?_
      obtain rfl := someE hf2
      obtain rfl := hl2
      obtain rfl := someE hf1
      obtain rfl := hl1
      obtain rfl := someE hf0
      exact awpFin X0 TTab_ok hC hm [0] 4000 [bT] .ret [(0, .own (.opq (YY yr.1).q))] [ob (congrArg Bool.not (Eq.refl false))] (by kernel_rfl) fun st0 h0 => hE _ st0 (.inr rfl) h0
   ·obtain rfl := someE hf2
    obtain rfl := hl2
    exact awpBack X0 TTab_ok hC hm [0, 1, 2, 4, 5, 6] 4000 [bF] J2 [(0, .own (.opq (YY sg3).q)), (1, .d (.sptr (F19_ x0))), (2, .d (.sptr (F19_ x1))), (4, .own (.opq (mapQ (entL F0_ eB seen2)))), (5, .own (eOs 4 false F12_ l_2)), (6, .d (I at_))] [ob c1] (by kernel_rfl) fun st0 h0 => hJ2 st0 _ (sg3, seen2, l_2) hf1 h0 inferInstance
 ·obtain rfl := someE hf1
  obtain rfl := hl1
  obtain rfl := someE hf0
  exact awpFin X0 TTab_ok hC hm [0] 4000 [aLn l_.length, bF] .normal [(0, .own (.opq (YY sg1).q))] [ob o2, ob c0] (by kernel_rfl) fun st0 h0 => hE _ st0 (.inl rfl) h0
noncomputable def bd_slices_Clip_int_int : Code := (Try.f54.body).getD .skip
noncomputable def sp_slices_Clip_int_int : Spec := spF (α := List Int) (ρ := List Int) 54 (fun x => [F3_ x]) (fun r => F1_ r) (fun x => slices_Clip_int_int x) [] (by
  rintro a0 b0 h
  simp only [List.cons.injEq, and_true] at h
  have e0 := EncI.inj (f := F3_) _ _ h
  subst e0
  rfl)
theorem w_slices_Clip_int_int {ctr : Ctr} (hC : CtrOk Try.prog ctr) (hm : Try.prog.follows .mixedOrders = true) : sp_slices_Clip_int_int.Ok Try.prog := by
 refine spF_ok ?_
 rintro s_ r0 hf0
 try unfold slices_Clip_int_int at hf0
 refine callOk_h (tt := TTab) (keep := true) (rs := [(2, none)]) (n := ⟨9, []⟩) (body := bd_slices_Clip_int_int) TTab_ok Try.func54 rfl (by kernel_rfl) rfl rfl (by show (1 : Nat) ≤ 9; decide) fun E hE => ?_
 obtain ⟨g0, hf0⟩ := gdE hf0
 have o0 := slT1 1 (eI .i64) s_ 0 ((s_.length : Nat) : Int).toNat
 obtain rfl := someE hf0
 exact awpEnd X0 TTab_ok hC hm hE 4000 (hs := [aLn s_.length, aLn s_.length, .a (eSl 1 true (eI .i64) ((s_.drop 0).take (((s_.length : Nat) : Int).toNat - 0)))]) (x := (eSl 1 true (eI .i64) ((s_.drop 0).take (((s_.length : Nat) : Int).toNat - 0)))) [ob (lnM (eI .i64) s_), ob (lnM (eI .i64) s_), ob (slB g0), ob (slC g0), ob (sl011 (eI .i64) g0), ob o0] (by kernel_rfl) (LeV.refl _)
noncomputable def bd_equals_word : Code := (Try.f97.body).getD .skip
noncomputable def sp_equals_word : Spec := spF (α := List S_equals_arrival × Int × List Int) (ρ := List Int) 97 (fun x => [F17_ x.1, (eI .i64) x.2.1, F3_ x.2.2]) (fun r => F1_ r) (fun x => equals_word x.1 x.2.1 x.2.2) [] (by
  rintro ⟨a0, a1, a2⟩ ⟨b0, b1, b2⟩ h
  simp only [List.cons.injEq, and_true] at h
  have e0 := EncI.inj (f := F17_) _ _ h.1
  have e1 := EncI.inj (f := (eI .i64)) _ _ h.2.1
  have e2 := EncI.inj (f := F3_) _ _ h.2.2
  subst e0 e1 e2
  rfl)
abbrev ST_equals_word_J1 (more1 : List Int) : List (Nat × T) := [(2, .d (eSl 1 false (eI .i64) more1))]
abbrev ST_equals_word_L2 (l_ : List S_equals_arrival) (at_1 : Int) (more2 : List Int) : List (Nat × T) := [(0, .d (eSl 4 false F12_ l_)), (1, .d (I at_1)), (2, .d (eSl 1 false (eI .i64) more2))]
theorem w_equals_word {ctr : Ctr} (hC : CtrOk Try.prog ctr) (hm : Try.prog.follows .mixedOrders = true) (h_slices_Clip_int_int : ctr.Has sp_slices_Clip_int_int) : sp_equals_word.Ok Try.prog := by
 refine spF_ok ?_
 rintro ⟨l_, at_, more⟩ r0 hf0
 try unfold equals_word at hf0
 refine callOk_h (tt := TTab) (keep := true) (rs := [(6, none)]) (n := ⟨28, []⟩) (body := bd_equals_word) TTab_ok Try.func97 rfl (by kernel_rfl) rfl rfl (by show (3 : Nat) ≤ 28; decide) fun E hE => ?_
 refine awpAt X0 TTab_ok hC hm [0, 1, 2] 4000 [.cut 1] (sub [1] bd_equals_word) (frs [1] [] bd_equals_word []) [(0, .d (eSl 4 false F12_ l_)), (1, .d (I at_)), (2, .d (eSl 1 false (eI .i64) more))] [] (by kernel_rfl) fun st0 h0 => ?_
 refine awpJoin' (X := List Int) (x := (sub [1, 2] bd_equals_word)) (y := (sub [1, 1] bd_equals_word)) (by kernel_rfl) [2] [0, 1, 2] _ h0 (fun z => equals_word_J1 z = some r0) (fun z => ST_equals_word_J1 z) ?_ fun J1 hJ1 => ?_
 ·rintro more1 hf0
  unfold equals_word_J1 at hf0
  obtain ⟨r_, h0, hf0⟩ := bindE hf0
  have o0 := hasF h_slices_Clip_int_int (x := more1) h0 (loC F3_ more1 <| loN)
  obtain rfl := someE hf0
  exact awpEnd X0 TTab_ok hC hm hE 4000 (hs := [.g [], .a (F1_ r_)]) (x := (eSl 1 true (eI .i64) r_)) [ob (hasG h_slices_Clip_int_int), ob o0] (by kernel_rfl) (LeV.refl _)
 ·obtain ⟨t2, ht2, hf0⟩ := bindE hf0
  refine awpAt X0 TTab_ok hC hm [0, 1, 2] 4000 [] (sub [1, 2, 0] bd_equals_word) (frs [1, 2, 0] [J1] bd_equals_word []) [(0, .d (eSl 4 false F12_ l_)), (1, .d (I at_)), (2, .d (eSl 1 false (eI .i64) more))] [] (by kernel_rfl) fun st0 h0 => ?_
  refine awpLoop' (X := (Int × List Int) × Nat) (c' := (sub [1, 2, 0, 0] bd_equals_word)) (by kernel_rfl) [0, 1, 2] (fun x => loopN (fun s => equals_word_L2 l_ s.1 s.2) x.2 x.1 = some t2) (fun x => x.2) (fun x => ST_equals_word_L2 l_ x.1.1 x.1.2) ((at_, more), fuel) _ h0 inferInstance ht2 ?_
  rintro ⟨⟨at_1, more2⟩, n2⟩ hn2 J2 hJ2
  obtain ⟨m2, lr1, rfl, hf1, hl1⟩ := loopE hn2
  try unfold equals_word_L2 at hf1
  obtain ⟨l__e, h1, hf1⟩ := bindE hf1
  have o1 := iM F12_ h1
  rcases bifE hf1 with ⟨c0, hf1⟩ | ⟨c0, hf1⟩
  ·obtain ⟨l__e1, h2, hf1⟩ := bindE hf1
   have o2 := iM F12_ h2
   obtain ⟨g0, hf1⟩ := gdE hf1
   have o3 := aM (eI .i64) ([l__e1.input_] : List Int) more2
   have o4 := shM (eI .i64) (eI .i64) (([l__e1.input_]) ++ more2)
   obtain ⟨l__e2, h3, hf1⟩ := bindE hf1
   have o5 := iM F12_ h3
   obtain rfl := someE hf1
   exact awpBack X0 TTab_ok hC hm [0, 1, 2] 4000 [.a (F12_ l__e), bT, .a (F12_ l__e1), .l ((([l__e1.input_]) ++ more2).map (eI .i64)), .n 0 [2], .l ((([l__e1.input_]) ++ more2).map (eI .i64)), .a (F12_ l__e2)] J2 [(0, .d (eSl 4 false F12_ l_)), (1, .d (I l__e2.from_)), (2, .d (eSl 1 false (eI .i64) (([l__e1.input_]) ++ more2)))] [ob (i0 h1), ob o1, ob c0, ob (i0 h2), ob o2, ob (dM (eI .i64) more2), ob (aL (eI .i64) (eI .i64) g0), ob o3, ob o4, ob (i0 h3), ob o5] (by kernel_rfl) fun st0 h0 => hJ2 st0 _ ((l__e2.from_, (([l__e1.input_]) ++ more2)), m2) hl1 (Nat.lt_succ_self m2) h0 inferInstance
  ·obtain rfl := someE hf1
   obtain rfl := hl1
   exact awpBack X0 TTab_ok hC hm [2] 4000 [.a (F12_ l__e), bF] J1 [(2, .d (eSl 1 false (eI .i64) more2))] [ob (i0 h1), ob o1, ob c0] (by kernel_rfl) fun st0 h0 => hJ1 st0 _ more2 hf0 h0 inferInstance
noncomputable def bd_slices_Index_2_int_2_int : Code := (Try.f118.body).getD .skip
noncomputable def sp_slices_Index_2_int_2_int : Spec := spF (α := List (Arr2 Int) × Arr2 Int) (ρ := Int) 118 (fun x => [F6_ x.1, F0_ x.2]) (fun r => (eI .i64) r) (fun x => slices_Index_2_int_2_int x.1 x.2) [] (by
  rintro ⟨a0, a1⟩ ⟨b0, b1⟩ h
  simp only [List.cons.injEq, and_true] at h
  have e0 := EncI.inj (f := F6_) _ _ h.1
  have e1 := EncI.inj (f := F0_) _ _ h.2
  subst e0 e1
  rfl)
abbrev ST_slices_Index_2_int_2_int_J1 : List (Nat × T) := []
abbrev ST_slices_Index_2_int_2_int_L2 (s_ : List (Arr2 Int)) (v_ : Arr2 Int) (x8 : Int) : List (Nat × T) := [(0, .d (eSl 2 false F0_ s_)), (3, .own (.box (F0_ v_))), (7, .d (I ((s_.length : Nat) : Int))), (8, .d (I x8))]
theorem w_slices_Index_2_int_2_int {ctr : Ctr} (hC : CtrOk Try.prog ctr) (hm : Try.prog.follows .mixedOrders = true) : sp_slices_Index_2_int_2_int.Ok Try.prog := by
 refine spF_ok ?_
 rintro ⟨s_, v_⟩ r0 hf0
 try unfold slices_Index_2_int_2_int at hf0
 refine callOk_h (tt := TTab) (keep := true) (rs := [(4, none)]) (n := ⟨19, []⟩) (body := bd_slices_Index_2_int_2_int) TTab_ok Try.func118 rfl (by kernel_rfl) rfl rfl (by show (2 : Nat) ≤ 19; decide) fun E hE => ?_
 refine awpAt X0 TTab_ok hC hm [0, 3] 4000 [.cut 1] (sub [1] bd_slices_Index_2_int_2_int) (frs [1] [] bd_slices_Index_2_int_2_int []) [(0, .d (eSl 2 false F0_ s_)), (3, .own (.box (F0_ v_)))] [] (by kernel_rfl) fun st0 h0 => ?_
 refine awpJoin' (X := Unit) (x := (sub [1, 2] bd_slices_Index_2_int_2_int)) (y := (sub [1, 1] bd_slices_Index_2_int_2_int)) (by kernel_rfl) [] [0, 3] _ h0 (fun z => slices_Index_2_int_2_int_J1 = some r0) (fun z => ST_slices_Index_2_int_2_int_J1) ?_ fun J1 hJ1 => ?_
 ·rintro ⟨⟩ hf0
  unfold slices_Index_2_int_2_int_J1 at hf0
  obtain rfl := someE hf0
  exact awpEnd X0 TTab_ok hC hm hE 4000 (hs := []) (x := (I (-1))) [] (by kernel_rfl) (LeV.refl _)
 ·obtain ⟨t2, ht2, hf0⟩ := bindE hf0
  refine awpAt X0 TTab_ok hC hm [0, 3, 7, 8] 4000 [aLn s_.length] (sub [1, 2, 1, 0] bd_slices_Index_2_int_2_int) (frs [1, 2, 1, 0] [J1] bd_slices_Index_2_int_2_int []) [(0, .d (eSl 2 false F0_ s_)), (3, .own (.box (F0_ v_))), (7, .d (I ((s_.length : Nat) : Int))), (8, .d (I 0))] [ob (lnM F0_ s_)] (by kernel_rfl) fun st0 h0 => ?_
  refine awpLoop' (X := Int × Nat) (c' := (sub [1, 2, 1, 0, 0] bd_slices_Index_2_int_2_int)) (by kernel_rfl) [0, 3, 7, 8] (fun x => loopN (fun s => slices_Index_2_int_2_int_L2 s_ v_ s) x.2 x.1 = some t2) (fun x => x.2) (fun x => ST_slices_Index_2_int_2_int_L2 s_ v_ x.1) (0, fuel) _ h0 inferInstance ht2 ?_
  rintro ⟨x8, n2⟩ hn2 J2 hJ2
  obtain ⟨m2, lr1, rfl, hf1, hl1⟩ := loopE hn2
  try unfold slices_Index_2_int_2_int_L2 at hf1
  rcases bifE hf1 with ⟨c0, hf1⟩ | ⟨c0, hf1⟩
  ·obtain ⟨s__e, h0, hf1⟩ := bindE hf1
   rcases bifE hf1 with ⟨c1, hf1⟩ | ⟨c1, hf1⟩
   ·obtain rfl := someE hf1
    obtain rfl := hl1
    obtain rfl := someE hf0
    exact awpEnd X0 TTab_ok hC hm hE 4000 (hs := [bT, .a (F0_ s__e), bT]) (x := (I x8)) [ob c0, ob (i0 h0), ob (iM F0_ h0), ob c1] (by kernel_rfl) (LeV.refl _)
   ·obtain rfl := someE hf1
    exact awpBack X0 TTab_ok hC hm [0, 3, 7, 8] 4000 [bT, .a (F0_ s__e), bF] J2 [(0, .d (eSl 2 false F0_ s_)), (3, .own (.box (F0_ v_))), (7, .d (I ((s_.length : Nat) : Int))), (8, .d (I (w64 (x8 + 1))))] [ob c0, ob (i0 h0), ob (iM F0_ h0), ob c1] (by kernel_rfl) fun st0 h0 => hJ2 st0 _ (w64 (x8 + 1), m2) hl1 (Nat.lt_succ_self m2) h0 inferInstance
  ·obtain rfl := someE hf1
   obtain rfl := hl1
   exact awpBack X0 TTab_ok hC hm [] 4000 [bF] J1 [] [ob c0] (by kernel_rfl) fun st0 h0 => hJ1 st0 _ () hf0 h0 inferInstance
noncomputable def bd_slices_Contains_2_int_2_int : Code := (Try.f98.body).getD .skip
noncomputable def sp_slices_Contains_2_int_2_int : Spec := spF (α := List (Arr2 Int) × Arr2 Int) (ρ := Bool) 98 (fun x => [F6_ x.1, F0_ x.2]) (fun r => eB r) (fun x => slices_Contains_2_int_2_int x.1 x.2) [] (by
  rintro ⟨a0, a1⟩ ⟨b0, b1⟩ h
  simp only [List.cons.injEq, and_true] at h
  have e0 := EncI.inj (f := F6_) _ _ h.1
  have e1 := EncI.inj (f := F0_) _ _ h.2
  subst e0 e1
  rfl)
theorem w_slices_Contains_2_int_2_int {ctr : Ctr} (hC : CtrOk Try.prog ctr) (hm : Try.prog.follows .mixedOrders = true) (h_slices_Index_2_int_2_int : ctr.Has sp_slices_Index_2_int_2_int) : sp_slices_Contains_2_int_2_int.Ok Try.prog := by
 refine spF_ok ?_
 rintro ⟨s_, v_⟩ r0 hf0
 try unfold slices_Contains_2_int_2_int at hf0
 refine callOk_h (tt := TTab) (keep := true) (rs := [(4, none)]) (n := ⟨9, []⟩) (body := bd_slices_Contains_2_int_2_int) TTab_ok Try.func98 rfl (by kernel_rfl) rfl rfl (by show (2 : Nat) ≤ 9; decide) fun E hE => ?_
 obtain ⟨r_, h0, hf0⟩ := bindE hf0
 have o0 := hasF h_slices_Index_2_int_2_int (x := (s_, v_)) h0 (loC F6_ s_ <| loC F0_ v_ <| loN)
 obtain rfl := someE hf0
 exact awpEnd X0 TTab_ok hC hm hE 4000 (hs := [.g [], .a ((eI .i64) r_)]) (x := (B (decide (r_ ≥ 0)))) [ob (hasG h_slices_Index_2_int_2_int), ob o0] (by kernel_rfl) (LeV.refl _)
noncomputable def bd_equals_differ : Code := (Try.f71.body).getD .skip
noncomputable def sp_equals_differ : Spec := spF (α := S_api_Machine × S_api_Machine) (ρ := List Int × List (Arr2 Int)) 71 (fun x => [F19_ x.1, F19_ x.2]) (fun r => .opq (tupQ [some (F1_ r.1), some ((eOs 2 false F0_) r.2)])) (fun x => equals_differ x.1 x.2) [] (by
  rintro ⟨a0, a1⟩ ⟨b0, b1⟩ h
  simp only [List.cons.injEq, and_true] at h
  have e0 := EncI.inj (f := F19_) _ _ h.1
  have e1 := EncI.inj (f := F19_) _ _ h.2
  subst e0 e1
  rfl)
abbrev ST_equals_differ_J1 (x4 : List Int) (pairs : List (Arr2 Int)) : List (Nat × T) := [(4, .own (.box (eSl 1 true (eI .i64) x4))), (5, .own (.box (eOs 2 true F0_ []))), (6, .own (.box (eOs 2 false F0_ pairs)))]
abbrev ST_equals_differ_I2 (r_ : S_api_Machine × S_api_Machine) (x41 : List Int) (pairs1 : List (Arr2 Int)) : List (Nat × T) := [(4, .own (.box (eSl 1 true (eI .i64) x41))), (5, .own (.box (eOs 2 true F0_ []))), (6, .own (.box (eOs 2 false F0_ pairs1))), (14, .d (.fn 117 [.sptr (.agg [I r_.1.Inputs, I r_.1.Outputs, eSl 1 false F10_ r_.1.Rows]), .sptr (.agg [I r_.2.Inputs, I r_.2.Outputs, eSl 1 false F10_ r_.2.Rows])]))]
theorem w_equals_differ {ctr : Ctr} (hC : CtrOk Try.prog ctr) (hm : Try.prog.follows .mixedOrders = true) (h_equals_meets : ctr.Has sp_equals_meets) (h_equals_word : ctr.Has sp_equals_word) (h_slices_Contains_2_int_2_int : ctr.Has sp_slices_Contains_2_int_2_int) : sp_equals_differ.Ok Try.prog := by
 refine spF_ok ?_
 rintro ⟨a_, b_⟩ r0 hf0
 try unfold equals_differ at hf0
 refine callOk_p (tt := TTab) (rs := [(false, 4, some 45), (true, 5, some 89)]) (n := ⟨53, []⟩) (body := bd_equals_differ) TTab_ok Try.func71 rfl (by kernel_rfl) rfl rfl (by show (2 : Nat) ≤ 53; decide) fun E hE => ?_
 refine awpAt X0 TTab_ok hC hm [2, 3, 4, 5, 6] 4000 [.v 2 [4], .l ([].map (eI .i64)), .cut 1] (sub [1, 1] bd_equals_differ) (frs [1, 1] [] bd_equals_differ []) [(2, .own (.box (F19_ a_))), (3, .own (.box (F19_ b_))), (4, .own (.box (eSl 1 true (eI .i64) []))), (5, .own (.box (eOs 2 true F0_ []))), (6, .own (.box (eOs 2 true F0_ ([(Arr2.mk 0 0)]))))] [ob (shM (eI .i64) (eI .i64) [])] (by kernel_rfl) fun st0 h0 => ?_
 refine awpJoin' (X := List Int × List (Arr2 Int)) (x := (sub [1, 1, 2] bd_equals_differ)) (y := (sub [1, 1, 1] bd_equals_differ)) (by kernel_rfl) [4, 5, 6] [2, 3, 4, 5, 6] _ h0 (fun z => equals_differ_J1 z.1 z.2 = some r0) (fun z => ST_equals_differ_J1 z.1 z.2) ?_ fun J1 hJ1 => ?_
 ·rintro ⟨x4, pairs⟩ hf0
  unfold equals_differ_J1 at hf0
  obtain rfl := someE hf0
  exact awpEndP X0 TTab_ok hC hm hE 4000 (hs := [.l ([].map (eI .i64))]) (x := (.opq (tupQ [some (eSl 1 true (eI .i64) []), some (eOs 2 false F0_ pairs)]))) [ob (shM (eI .i64) (eI .i64) [])] (by kernel_rfl) (show LeV (.opq (tupQ [some (eSl 1 true (eI .i64) []), some (eOs 2 false F0_ pairs)])) (.opq (tupQ [some (eSl 1 true (eI .i64) ([] : List Int)), some (eOs 2 false F0_ pairs)])) from inferInstance)
 ·obtain ⟨r_, h0, hf0⟩ := bindE hf0
  have o0 := hasF h_equals_meets (x := (a_, b_)) h0 (loC F19_ a_ <| loC F19_ b_ <| loN)
  obtain ⟨t2, ht2, hf0⟩ := bindE hf0
  refine awpAt X0 TTab_ok hC hm [4, 5, 6, 14] 4000 [.g [], .a ((eFn2 117 F22_ F22_) r_)] (sub [1, 1, 2, 1, 0] bd_equals_differ) (frs [1, 1, 2, 1, 0] [J1] bd_equals_differ []) [(4, .own (.box (eSl 1 true (eI .i64) []))), (5, .own (.box (eOs 2 true F0_ []))), (6, .own (.box (eOs 2 true F0_ ([(Arr2.mk 0 0)])))), (14, .d (.fn 117 [.sptr (.agg [I r_.1.Inputs, I r_.1.Outputs, eSl 1 false F10_ r_.1.Rows]), .sptr (.agg [I r_.2.Inputs, I r_.2.Outputs, eSl 1 false F10_ r_.2.Rows])]))] [ob (hasG h_equals_meets), ob o0] (by kernel_rfl) fun st0 h0 => ?_
  refine awpIter (g := .tmp 14) (ps := [15, 16]) (assign := (sub [1, 1, 2, 1, 0, 0] bd_equals_differ)) (body := (sub [1, 1, 2, 1, 0, 1] bd_equals_differ)) (K := 117) (caps := [.sptr (.agg [I r_.1.Inputs, I r_.1.Outputs, eSl 1 false F10_ r_.1.Rows]), .sptr (.agg [I r_.2.Inputs, I r_.2.Outputs, eSl 1 false F10_ r_.2.Rows])]) (by kernel_rfl) [4, 5, 6, 14] (fun s => ST_equals_differ_I2 r_ s.1 s.2) (fun s => ST_equals_differ_I2 r_ s.1 s.2) (fun s => Code.ret) ((fun (x : S_equals_meet × List S_equals_arrival) (bb : Bool) (vv : Value) => [F21_ x.1, bif bb then .atom vv else F17_ x.2])) (F := @equals_meets_1 r_.1 r_.2) (fun s x => equals_differ_I2 s.1 s.2 x.1 x.2) (([] : List Int), ([(Arr2.mk 0 0)] : List (Arr2 Int))) t2 _ h0 inferInstance (by kernel_rfl) (by decide) (fun _ => rfl) (fun _ => rfl) (by kernel_rfl) (fun _ _ _ => rfl) (w_equals_meets_1 hC hm r_.1 r_.2) ht2 ?_ ?_
  ·rintro tv2 ⟨x41, pairs1⟩ ⟨x15, x16⟩ vr lr1 hf1
   replace hf1 : equals_differ_I2 x41 pairs1 x15 x16 = some lr1 := hf1
   unfold equals_differ_I2 at hf1
   generalize hnb : isNx lr1 = nb
   cases nb
   ·refine awpFin X0 TTab_ok hC hm [4, 5, 6, 7, 8, 14] 4000 [] .normal [(4, .own (.box (eSl 1 true (eI .i64) x41))), (5, .own (.box (eOs 2 true F0_ []))), (6, .own (.box (eOs 2 false F0_ pairs1))), (7, .own (.box (F21_ x15))), (8, .d (eSl 4 false F12_ x16)), (14, .d (.fn 117 [.sptr (.agg [I r_.1.Inputs, I r_.1.Outputs, eSl 1 false F10_ r_.1.Rows]), .sptr (.agg [I r_.2.Inputs, I r_.2.Outputs, eSl 1 false F10_ r_.2.Rows])]))] [] (by kernel_rfl) fun st0 h0 => ⟨rfl, awpOf h0 ?_⟩
    rcases bifE hf1 with ⟨c0, hf1⟩ | ⟨c0, hf1⟩
    ·have o1 := shM (eI .i64) (eI .i64) ([x15.input_])
     obtain ⟨r_1, h1, hf1⟩ := bindE hf1
     have o2 := hasF h_equals_word (x := (x16, x15.at_, [x15.input_])) h1 (loC F17_ x16 <| loC (eI .i64) x15.at_ <| loC F1_ ([x15.input_] : List Int) <| loN)
     have o3 := shM (eI .i64) (eI .i64) ([x15.input_])
     obtain rfl := someE hf1
     exact awpFin X0 TTab_ok hC hm [4, 5, 6, 14] 4000 [bT, .g [], .l (([x15.input_]).map (eI .i64)), .a (F1_ r_1), .l (([x15.input_]).map (eI .i64))] .ret [(4, .own (.box (eSl 1 true (eI .i64) r_1))), (5, .own (.box (eOs 2 true F0_ []))), (6, .own (.box (eOs 2 false F0_ pairs1))), (14, .d (.fn 117 [.sptr (.agg [I r_.1.Inputs, I r_.1.Outputs, eSl 1 false F10_ r_.1.Rows]), .sptr (.agg [I r_.2.Inputs, I r_.2.Outputs, eSl 1 false F10_ r_.2.Rows])]))] [ob c0, ob (hasG h_equals_word), ob o1, ob o2, ob o3] (by kernel_rfl) fun st0 h0 => ⟨rfl, _, h0, (inferInstance : LeL [(4, .own (.box (eSl 1 true (eI .i64) r_1))), (5, .own (.box (eOs 2 true F0_ []))), (6, .own (.box (eOs 2 false F0_ pairs1))), (14, .d (.fn 117 [.sptr (.agg [I r_.1.Inputs, I r_.1.Outputs, eSl 1 false F10_ r_.1.Rows]), .sptr (.agg [I r_.2.Inputs, I r_.2.Outputs, eSl 1 false F10_ r_.2.Rows])]))] (ST_equals_differ_I2 r_ r_1 pairs1))⟩
    ·rcases bifE hf1 with ⟨c1, hf1⟩ | ⟨c1, hf1⟩
     ·have o4 := shM F0_ F0_ pairs1
      obtain ⟨r_2, h2, hf1⟩ := bindE hf1
      have o5 := hasF h_slices_Contains_2_int_2_int (x := (pairs1, (Arr2.mk x15.x_.To x15.y_.To))) h2 (loC F6_ pairs1 <| loC F0_ (Arr2.mk x15.x_.To x15.y_.To) <| loN)
      rcases bifE hf1 with ⟨c2, hf1⟩ | ⟨c2, hf1⟩
      ·have o6 := dM F0_ ([(Arr2.mk x15.x_.To x15.y_.To)] : List (Arr2 Int))
       have o7 := dM F0_ ([(Arr2.mk x15.x_.To x15.y_.To)] : List (Arr2 Int))
       obtain ⟨g0, hf1⟩ := gdE hf1
       have o8 := aL F0_ F0_ g0
       have o9 := aM F0_ pairs1 ([(Arr2.mk x15.x_.To x15.y_.To)] : List (Arr2 Int))
       obtain rfl := someE hf1
       cases hnb
      ·obtain rfl := someE hf1
       cases hnb
     ·obtain rfl := someE hf1
      cases hnb
   ·refine awpFin X0 TTab_ok hC hm [4, 5, 6, 7, 14] 4000 [] .normal [(4, .own (.box (eSl 1 true (eI .i64) x41))), (5, .own (.box (eOs 2 true F0_ []))), (6, .own (.box (eOs 2 false F0_ pairs1))), (7, .own (.box (F21_ x15))), (14, .d (.fn 117 [.sptr (.agg [I r_.1.Inputs, I r_.1.Outputs, eSl 1 false F10_ r_.1.Rows]), .sptr (.agg [I r_.2.Inputs, I r_.2.Outputs, eSl 1 false F10_ r_.2.Rows])]))] [] (by kernel_rfl) fun st0 h0 => ⟨rfl, awpOf h0 ?_⟩
    rcases bifE hf1 with ⟨c0, hf1⟩ | ⟨c0, hf1⟩
    ·refine absurd hnb (noNx ?_ hf1)
     repeat (first | with_reducible exact nx_done _ | with_reducible exact nxNone | with_reducible refine nx_bind fun _ => ?_ | with_reducible refine nx_gd ?_ | with_reducible refine nx_bif ?_ ?_ | split)
    ·rcases bifE hf1 with ⟨c1, hf1⟩ | ⟨c1, hf1⟩
     ·have o1 := shM F0_ F0_ pairs1
      obtain ⟨r_1, h1, hf1⟩ := bindE hf1
      have o2 := hasF h_slices_Contains_2_int_2_int (x := (pairs1, (Arr2.mk x15.x_.To x15.y_.To))) h1 (loC F6_ pairs1 <| loC F0_ (Arr2.mk x15.x_.To x15.y_.To) <| loN)
      rcases bifE hf1 with ⟨c2, hf1⟩ | ⟨c2, hf1⟩
      ·have o3 := dM F0_ ([(Arr2.mk x15.x_.To x15.y_.To)] : List (Arr2 Int))
       have o4 := dM F0_ ([(Arr2.mk x15.x_.To x15.y_.To)] : List (Arr2 Int))
       obtain ⟨g0, hf1⟩ := gdE hf1
       have o5 := aL F0_ F0_ g0
       have o6 := aM F0_ pairs1 ([(Arr2.mk x15.x_.To x15.y_.To)] : List (Arr2 Int))
       obtain rfl := someE hf1
       exact awpFin X0 TTab_ok hC hm [4, 5, 6, 14] 4000 (bF :: bT :: bT :: bT :: .g [] :: .l (pairs1.map F0_) :: .a (eB r_1) :: (rpN 4 bT [.l ((pairs1 ++ ([(Arr2.mk x15.x_.To x15.y_.To)] : List (Arr2 Int))).map F0_)])) .normal [(4, .own (.box (eSl 1 true (eI .i64) x41))), (5, .own (.box (eOs 2 true F0_ []))), (6, .own (.box (eOs 2 false F0_ (pairs1 ++ ([(Arr2.mk x15.x_.To x15.y_.To)] : List (Arr2 Int)))))), (14, .d (.fn 117 [.sptr (.agg [I r_.1.Inputs, I r_.1.Outputs, eSl 1 false F10_ r_.1.Rows]), .sptr (.agg [I r_.2.Inputs, I r_.2.Outputs, eSl 1 false F10_ r_.2.Rows])]))] [ob c0, ob c1, ob c1, ob c1, ob (hasG h_slices_Contains_2_int_2_int), ob o1, ob o2, ob c1, ob c1, ob c2, ob o3, ob o4, ob o5, ob o6] (by kernel_rfl) fun st0 h0 => ⟨rfl, _, h0, (inferInstance : LeL [(4, .own (.box (eSl 1 true (eI .i64) x41))), (5, .own (.box (eOs 2 true F0_ []))), (6, .own (.box (eOs 2 false F0_ (pairs1 ++ ([(Arr2.mk x15.x_.To x15.y_.To)] : List (Arr2 Int)))))), (14, .d (.fn 117 [.sptr (.agg [I r_.1.Inputs, I r_.1.Outputs, eSl 1 false F10_ r_.1.Rows]), .sptr (.agg [I r_.2.Inputs, I r_.2.Outputs, eSl 1 false F10_ r_.2.Rows])]))] (ST_equals_differ_I2 r_ x41 (pairs1 ++ ([(Arr2.mk x15.x_.To x15.y_.To)] : List (Arr2 Int)))))⟩
      ·obtain rfl := someE hf1
       exact awpFin X0 TTab_ok hC hm [4, 5, 6, 14] 4000 [bF, bT, bT, bT, .g [], .l (pairs1.map F0_), .a (eB r_1), bT, bT, bF] .normal [(4, .own (.box (eSl 1 true (eI .i64) x41))), (5, .own (.box (eOs 2 true F0_ []))), (6, .own (.box (eOs 2 false F0_ pairs1))), (14, .d (.fn 117 [.sptr (.agg [I r_.1.Inputs, I r_.1.Outputs, eSl 1 false F10_ r_.1.Rows]), .sptr (.agg [I r_.2.Inputs, I r_.2.Outputs, eSl 1 false F10_ r_.2.Rows])]))] [ob c0, ob c1, ob c1, ob c1, ob (hasG h_slices_Contains_2_int_2_int), ob o1, ob o2, ob c1, ob c1, ob c2] (by kernel_rfl) fun st0 h0 => ⟨rfl, _, h0, (inferInstance : LeL [(4, .own (.box (eSl 1 true (eI .i64) x41))), (5, .own (.box (eOs 2 true F0_ []))), (6, .own (.box (eOs 2 false F0_ pairs1))), (14, .d (.fn 117 [.sptr (.agg [I r_.1.Inputs, I r_.1.Outputs, eSl 1 false F10_ r_.1.Rows]), .sptr (.agg [I r_.2.Inputs, I r_.2.Outputs, eSl 1 false F10_ r_.2.Rows])]))] (ST_equals_differ_I2 r_ x41 pairs1))⟩
     ·obtain rfl := someE hf1
      exact awpFin X0 TTab_ok hC hm [4, 5, 6, 14] 4000 (rpN 7 bF []) .normal [(4, .own (.box (eSl 1 true (eI .i64) x41))), (5, .own (.box (eOs 2 true F0_ []))), (6, .own (.box (eOs 2 false F0_ pairs1))), (14, .d (.fn 117 [.sptr (.agg [I r_.1.Inputs, I r_.1.Outputs, eSl 1 false F10_ r_.1.Rows]), .sptr (.agg [I r_.2.Inputs, I r_.2.Outputs, eSl 1 false F10_ r_.2.Rows])]))] (ob c0 :: (rpN 5 (ob c1) [oF])) (by kernel_rfl) fun st0 h0 => ⟨rfl, _, h0, (inferInstance : LeL [(4, .own (.box (eSl 1 true (eI .i64) x41))), (5, .own (.box (eOs 2 true F0_ []))), (6, .own (.box (eOs 2 false F0_ pairs1))), (14, .d (.fn 117 [.sptr (.agg [I r_.1.Inputs, I r_.1.Outputs, eSl 1 false F10_ r_.1.Rows]), .sptr (.agg [I r_.2.Inputs, I r_.2.Outputs, eSl 1 false F10_ r_.2.Rows])]))] (ST_equals_differ_I2 r_ x41 pairs1))⟩
  ·rcases t2 with ⟨x41, pairs1⟩ | z
   ·dsimp only at hf0
    exact awpGoBack (by kernel_rfl) (hJ1 _ [(4, .own (.box (eSl 1 true (eI .i64) x41))), (5, .own (.box (eOs 2 true F0_ []))), (6, .own (.box (eOs 2 false F0_ pairs1)))] (x41, pairs1) hf0 (show Own.canon [4, 5, 6] _ = ofL _ by kernel_rfl) inferInstance)
   ·obtain ⟨x41, pairs1⟩ := z
    dsimp only at hf0
    show AWP _ _ (Code.ret) _ _
    obtain rfl := someE hf0
    exact awpEndP X0 TTab_ok hC hm hE 4000 (hs := []) (x := (.opq (tupQ [some (eSl 1 true (eI .i64) x41), some (eOs 2 true F0_ [])]))) [] (by kernel_rfl) (show LeV (.opq (tupQ [some (eSl 1 true (eI .i64) x41), some (eOs 2 true F0_ [])])) (.opq (tupQ [some (eSl 1 true (eI .i64) x41), some (eOs 2 false F0_ ([] : List (Arr2 Int)))])) from inferInstance)
noncomputable def bd_equals_Differ : Code := (Try.f31.body).getD .skip
noncomputable def sp_equals_Differ : Spec := spF (α := S_api_Machine × S_api_Machine) (ρ := List Int × Bool × Int) 31 (fun x => [F19_ x.1, F19_ x.2]) (fun r => .tup [F1_ r.1, eB r.2.1, (eI .i64) r.2.2]) (fun x => equals_Differ x.1 x.2) [] (by
  rintro ⟨a0, a1⟩ ⟨b0, b1⟩ h
  simp only [List.cons.injEq, and_true] at h
  have e0 := EncI.inj (f := F19_) _ _ h.1
  have e1 := EncI.inj (f := F19_) _ _ h.2
  subst e0 e1
  rfl)
theorem w_equals_Differ {ctr : Ctr} (hC : CtrOk Try.prog ctr) (hm : Try.prog.follows .mixedOrders = true) (h_equals_both : ctr.Has sp_equals_both) (h_equals_differ : ctr.Has sp_equals_differ) : sp_equals_Differ.Ok Try.prog := by
 refine spF_ok ?_
 rintro ⟨a_, b_⟩ r0 hf0
 try unfold equals_Differ at hf0
 refine callOk_h (tt := TTab) (keep := false) (rs := [(4, none), (5, none), (6, none)]) (n := ⟨26, []⟩) (body := bd_equals_Differ) TTab_ok Try.func31 rfl (by kernel_rfl) rfl rfl (by show (2 : Nat) ≤ 26; decide) fun E hE => ?_
 obtain ⟨r_, h0, hf0⟩ := bindE hf0
 have o0 := hasF h_equals_both (x := (a_, b_)) h0 (loC F19_ a_ <| loC F19_ b_ <| loN)
 rcases bifE hf0 with ⟨c0, hf0⟩ | ⟨c0, hf0⟩
 ·obtain rfl := someE hf0
  exact awpEnd X0 TTab_ok hC hm hE 4000 (hs := [.g [], .a ((eI .i64) r_), bT, .l ([].map (eI .i64))]) (x := (.tup [eSl 1 true (eI .i64) [], B false, I r_])) [ob (hasG h_equals_both), ob o0, ob c0, ob (shM (eI .i64) (eI .i64) [])] (by kernel_rfl) (show LeV (.tup [eSl 1 true (eI .i64) [], B false, I r_]) (.tup [eSl 1 true (eI .i64) ([] : List Int), B false, I r_]) from inferInstance)
 ·obtain ⟨r_1, h1, hf0⟩ := bindE hf0
  have o1 := hasF h_equals_differ (x := (a_, b_)) h1 (loC F19_ a_ <| loC F19_ b_ <| loN)
  have o2 := (⟨rfl, rfl⟩ : T.own (.opq (tupQ [some (eSl 1 true (eI .i64) r_1.1), some (eOs 2 false F0_ r_1.2)])) = T.own (.opq (tupQ [some (eSl 1 true (eI .i64) r_1.1), some (eOs 2 false F0_ r_1.2)])) ∧ 1 = 1)
  have o3 := (⟨rfl, rfl⟩ : T.own (.opq (tupQ [some (eSl 1 true (eI .i64) r_1.1), some (eOs 2 false F0_ r_1.2)])) = T.own (.opq (tupQ [some (eSl 1 true (eI .i64) r_1.1), some (eOs 2 false F0_ r_1.2)])) ∧ 1 = 1)
  obtain rfl := someE hf0
  exact awpEnd ((xExtr Try.prog 21 [some (eSl 1 true (eI .i64) r_1.1), some (eOs 2 false F0_ r_1.2)]).or ((xExtr Try.prog 20 [some (eSl 1 true (eI .i64) r_1.1), some (eOs 2 false F0_ r_1.2)]).or X0)) TTab_ok hC hm hE 4000 (hs := [.g [], .a ((eI .i64) r_), bF, .g [], .a (.opq (tupQ [some (eSl 1 true (eI .i64) r_1.1), some (eOs 2 false F0_ r_1.2)])), aLn r_1.1.length]) (x := (.tup [eSl 1 true (eI .i64) r_1.1, B (decide (((r_1.1.length : Nat) : Int) > 0)), I 0])) [ob (hasG h_equals_both), ob o0, ob c0, ob (hasG h_equals_differ), ob o1, ob o2, ob o3, ob (lnM (eI .i64) r_1.1)] (by kernel_rfl) (LeV.refl _)
noncomputable def bd_equals_Within : Code := (Try.f41.body).getD .skip
noncomputable def sp_equals_Within : Spec := spF (α := S_api_Machine × S_api_Machine × Int) (ρ := Bool × Int) 41 (fun x => [F19_ x.1, F19_ x.2.1, (eI .i64) x.2.2]) (fun r => .tup [eB r.1, (eI .i64) r.2]) (fun x => equals_Within x.1 x.2.1 x.2.2) [] (by
  rintro ⟨a0, a1, a2⟩ ⟨b0, b1, b2⟩ h
  simp only [List.cons.injEq, and_true] at h
  have e0 := EncI.inj (f := F19_) _ _ h.1
  have e1 := EncI.inj (f := F19_) _ _ h.2.1
  have e2 := EncI.inj (f := (eI .i64)) _ _ h.2.2
  subst e0 e1 e2
  rfl)
theorem w_equals_Within {ctr : Ctr} (hC : CtrOk Try.prog ctr) (hm : Try.prog.follows .mixedOrders = true) (h_equals_Differ : ctr.Has sp_equals_Differ) : sp_equals_Within.Ok Try.prog := by
 refine spF_ok ?_
 rintro ⟨a_, b_, k_⟩ r0 hf0
 try unfold equals_Within at hf0
 refine callOk_h (tt := TTab) (keep := false) (rs := [(6, none), (7, none)]) (n := ⟨33, []⟩) (body := bd_equals_Within) TTab_ok Try.func41 rfl (by kernel_rfl) rfl rfl (by show (3 : Nat) ≤ 33; decide) fun E hE => ?_
 obtain ⟨r_, h0, hf0⟩ := bindE hf0
 have o0 := hasF h_equals_Differ (x := (a_, b_)) h0 (loC F19_ a_ <| loC F19_ b_ <| loN)
 rcases bifE hf0 with ⟨c0, hf0⟩ | ⟨c0, hf0⟩
 ·obtain rfl := someE hf0
  exact awpEnd X0 TTab_ok hC hm hE 4000 (hs := [.g [], .a (.tup [eSl 1 true (eI .i64) r_.1, B r_.2.1, I r_.2.2]), bT]) (x := (.tup [B false, I r_.2.2])) [ob (hasG h_equals_Differ), ob o0, ob c0] (by kernel_rfl) (LeV.refl _)
 ·rcases bifE hf0 with ⟨c1, hf0⟩ | ⟨c1, hf0⟩
  ·obtain rfl := someE hf0
   exact awpEnd X0 TTab_ok hC hm hE 4000 (hs := [.g [], .a (.tup [eSl 1 true (eI .i64) r_.1, B r_.2.1, I r_.2.2]), bF, bT]) (x := (.tup [B false, I 1])) [ob (hasG h_equals_Differ), ob o0, ob c0, ob c1] (by kernel_rfl) (LeV.refl _)
  ·rcases bifE hf0 with ⟨c2, hf0⟩ | ⟨c2, hf0⟩
   ·obtain rfl := someE hf0
    exact awpEnd X0 TTab_ok hC hm hE 4000 (hs := (.g [] :: .a (.tup [eSl 1 true (eI .i64) r_.1, B r_.2.1, I r_.2.2]) :: bF :: bF :: (rpN 5 bT []))) (x := (.tup [B true, I 0])) (ob (hasG h_equals_Differ) :: ob o0 :: ob c0 :: ob c1 :: (rpN 5 (ob c2) [])) (by kernel_rfl) (LeV.refl _)
   ·obtain rfl := someE hf0
    exact awpEnd X0 TTab_ok hC hm hE 4000 (hs := (.g [] :: .a (.tup [eSl 1 true (eI .i64) r_.1, B r_.2.1, I r_.2.2]) :: (rpN 4 bF [aLn r_.1.length, bF, bF, bF]))) (x := (.tup [B (decide (((r_.1.length : Nat) : Int) > k_)), I 0])) [ob (hasG h_equals_Differ), ob o0, ob c0, ob c1, ob c2, ob c2, ob (lnM (eI .i64) r_.1), ob c2, ob c2, ob c2] (by kernel_rfl) (LeV.refl _)
noncomputable def bd_law10_edge : Code := (Try.f48.body).getD .skip
noncomputable def sp_law10_edge : Spec := spF (α := Int × Int) (ρ := S_api_Edge) 48 (fun x => [(eI .i64) x.1, (eI .i64) x.2]) (fun r => F7_ r) (fun x => law10_edge x.1 x.2) [] (by
  rintro ⟨a0, a1⟩ ⟨b0, b1⟩ h
  simp only [List.cons.injEq, and_true] at h
  have e0 := EncI.inj (f := (eI .i64)) _ _ h.1
  have e1 := EncI.inj (f := (eI .i64)) _ _ h.2
  subst e0 e1
  rfl)
theorem w_law10_edge {ctr : Ctr} (hC : CtrOk Try.prog ctr) (hm : Try.prog.follows .mixedOrders = true) : sp_law10_edge.Ok Try.prog := by
 refine spF_ok ?_
 rintro ⟨to, out⟩ r0 hf0
 try unfold law10_edge at hf0
 refine callOk_h (tt := TTab) (keep := false) (rs := [(4, some 67)]) (n := ⟨8, []⟩) (body := bd_law10_edge) TTab_ok Try.func48 rfl (by kernel_rfl) rfl rfl (by show (2 : Nat) ≤ 8; decide) fun E hE => ?_
 obtain rfl := someE hf0
 exact awpEnd X0 TTab_ok hC hm hE 4000 (hs := []) (x := (.agg [I to, I out])) [] (by kernel_rfl) (LeV.refl _)
noncomputable def bd_equals_Equal : Code := (Try.f38.body).getD .skip
noncomputable def sp_equals_Equal : Spec := spF (α := S_api_Machine × S_api_Machine) (ρ := Bool × Int) 38 (fun x => [F19_ x.1, F19_ x.2]) (fun r => .tup [eB r.1, (eI .i64) r.2]) (fun x => equals_Equal x.1 x.2) [] (by
  rintro ⟨a0, a1⟩ ⟨b0, b1⟩ h
  simp only [List.cons.injEq, and_true] at h
  have e0 := EncI.inj (f := F19_) _ _ h.1
  have e1 := EncI.inj (f := F19_) _ _ h.2
  subst e0 e1
  rfl)
theorem w_equals_Equal {ctr : Ctr} (hC : CtrOk Try.prog ctr) (hm : Try.prog.follows .mixedOrders = true) (h_equals_Differ : ctr.Has sp_equals_Differ) : sp_equals_Equal.Ok Try.prog := by
 refine spF_ok ?_
 rintro ⟨a_, b_⟩ r0 hf0
 try unfold equals_Equal at hf0
 refine callOk_h (tt := TTab) (keep := false) (rs := [(4, none), (5, none)]) (n := ⟨23, []⟩) (body := bd_equals_Equal) TTab_ok Try.func38 rfl (by kernel_rfl) rfl rfl (by show (2 : Nat) ≤ 23; decide) fun E hE => ?_
 obtain ⟨r_, h0, hf0⟩ := bindE hf0
 have o0 := hasF h_equals_Differ (x := (a_, b_)) h0 (loC F19_ a_ <| loC F19_ b_ <| loN)
 rcases bifE hf0 with ⟨c0, hf0⟩ | ⟨c0, hf0⟩
 ·obtain rfl := someE hf0
  exact awpEnd X0 TTab_ok hC hm hE 4000 (hs := [.g [], .a (.tup [eSl 1 true (eI .i64) r_.1, B r_.2.1, I r_.2.2]), bT, bT, bT]) (x := (.tup [B (!r_.2.1), I r_.2.2])) [ob (hasG h_equals_Differ), ob o0, ob c0, ob c0, ob c0] (by kernel_rfl) (LeV.refl _)
 ·obtain rfl := someE hf0
  exact awpEnd X0 TTab_ok hC hm hE 4000 (hs := [.g [], .a (.tup [eSl 1 true (eI .i64) r_.1, B r_.2.1, I r_.2.2]), bF, bF, bF]) (x := (.tup [B false, I r_.2.2])) [ob (hasG h_equals_Differ), ob o0, ob c0, ob c0, ob c0] (by kernel_rfl) (LeV.refl _)
noncomputable def bd_cmp_isNaN_int : Code := (Try.f131.body).getD .skip
noncomputable def sp_cmp_isNaN_int : Spec := spF (α := Int) (ρ := Bool) 131 (fun x => [(eI .i64) x]) (fun r => eB r) (fun x => cmp_isNaN_int x) [] (by
  rintro a0 b0 h
  simp only [List.cons.injEq, and_true] at h
  have e0 := EncI.inj (f := (eI .i64)) _ _ h
  subst e0
  rfl)
theorem w_cmp_isNaN_int {ctr : Ctr} (hC : CtrOk Try.prog ctr) (hm : Try.prog.follows .mixedOrders = true) : sp_cmp_isNaN_int.Ok Try.prog := by
 refine spF_ok ?_
 rintro x_ r0 hf0
 try unfold cmp_isNaN_int at hf0
 refine callOk_h (tt := TTab) (keep := true) (rs := [(2, none)]) (n := ⟨6, []⟩) (body := bd_cmp_isNaN_int) TTab_ok Try.func131 rfl (by kernel_rfl) rfl rfl (by show (1 : Nat) ≤ 6; decide) fun E hE => ?_
 obtain rfl := someE hf0
 exact awpEnd X0 TTab_ok hC hm hE 4000 (hs := []) (x := (B (x_ != x_))) [] (by kernel_rfl) (LeV.refl _)
noncomputable def bd_cmp_Compare_int : Code := (Try.f104.body).getD .skip
noncomputable def sp_cmp_Compare_int : Spec := spF (α := Int × Int) (ρ := Int) 104 (fun x => [(eI .i64) x.1, (eI .i64) x.2]) (fun r => (eI .i64) r) (fun x => cmp_Compare_int x.1 x.2) [] (by
  rintro ⟨a0, a1⟩ ⟨b0, b1⟩ h
  simp only [List.cons.injEq, and_true] at h
  have e0 := EncI.inj (f := (eI .i64)) _ _ h.1
  have e1 := EncI.inj (f := (eI .i64)) _ _ h.2
  subst e0 e1
  rfl)
theorem w_cmp_Compare_int {ctr : Ctr} (hC : CtrOk Try.prog ctr) (hm : Try.prog.follows .mixedOrders = true) (h_cmp_isNaN_int : ctr.Has sp_cmp_isNaN_int) : sp_cmp_Compare_int.Ok Try.prog := by
 refine spF_ok ?_
 rintro ⟨x_, y_⟩ r0 hf0
 try unfold cmp_Compare_int at hf0
 refine callOk_h (tt := TTab) (keep := true) (rs := [(4, none)]) (n := ⟨20, []⟩) (body := bd_cmp_Compare_int) TTab_ok Try.func104 rfl (by kernel_rfl) rfl rfl (by show (2 : Nat) ≤ 20; decide) fun E hE => ?_
 obtain ⟨r_, h0, hf0⟩ := bindE hf0
 have o0 := hasF h_cmp_isNaN_int (x := x_) h0 (loC (eI .i64) x_ <| loN)
 obtain ⟨r_1, h1, hf0⟩ := bindE hf0
 have o1 := hasF h_cmp_isNaN_int (x := y_) h1 (loC (eI .i64) y_ <| loN)
 rcases bifE hf0 with ⟨c0, hf0⟩ | ⟨c0, hf0⟩
 ·rcases bifE hf0 with ⟨c1, hf0⟩ | ⟨c1, hf0⟩
  ·obtain rfl := someE hf0
   exact awpEnd X0 TTab_ok hC hm hE 4000 (hs := [.g [], .a (eB r_), .g [], .a (eB r_1), bT, bT]) (x := (I 0)) [ob (hasG h_cmp_isNaN_int), ob o0, ob (hasG h_cmp_isNaN_int), ob o1, ob c0, ob c1] (by kernel_rfl) (LeV.refl _)
  ·obtain rfl := someE hf0
   exact awpEnd X0 TTab_ok hC hm hE 4000 (hs := [.g [], .a (eB r_), .g [], .a (eB r_1), bT, bF]) (x := (I (-1))) [ob (hasG h_cmp_isNaN_int), ob o0, ob (hasG h_cmp_isNaN_int), ob o1, ob c0, ob c1] (by kernel_rfl) (LeV.refl _)
 ·rcases bifE hf0 with ⟨c2, hf0⟩ | ⟨c2, hf0⟩
  ·obtain rfl := someE hf0
   exact awpEnd X0 TTab_ok hC hm hE 4000 (hs := [.g [], .a (eB r_), .g [], .a (eB r_1), bF, bT]) (x := (I 1)) [ob (hasG h_cmp_isNaN_int), ob o0, ob (hasG h_cmp_isNaN_int), ob o1, ob c0, ob c2] (by kernel_rfl) (LeV.refl _)
  ·rcases bifE hf0 with ⟨c3, hf0⟩ | ⟨c3, hf0⟩
   ·obtain rfl := someE hf0
    exact awpEnd X0 TTab_ok hC hm hE 4000 (hs := [.g [], .a (eB r_), .g [], .a (eB r_1), bF, bF, bT]) (x := (I (-1))) [ob (hasG h_cmp_isNaN_int), ob o0, ob (hasG h_cmp_isNaN_int), ob o1, ob c0, ob c2, ob c3] (by kernel_rfl) (LeV.refl _)
   ·rcases bifE hf0 with ⟨c4, hf0⟩ | ⟨c4, hf0⟩
    ·obtain rfl := someE hf0
     exact awpEnd X0 TTab_ok hC hm hE 4000 (hs := [.g [], .a (eB r_), .g [], .a (eB r_1), bF, bF, bF, bT]) (x := (I 1)) [ob (hasG h_cmp_isNaN_int), ob o0, ob (hasG h_cmp_isNaN_int), ob o1, ob c0, ob c2, ob c3, ob c4] (by kernel_rfl) (LeV.refl _)
    ·obtain rfl := someE hf0
     exact awpEnd X0 TTab_ok hC hm hE 4000 (hs := (.g [] :: .a (eB r_) :: .g [] :: .a (eB r_1) :: (rpN 4 bF []))) (x := (I 0)) [ob (hasG h_cmp_isNaN_int), ob o0, ob (hasG h_cmp_isNaN_int), ob o1, ob c0, ob c2, ob c3, ob c4] (by kernel_rfl) (LeV.refl _)
noncomputable def bd_slices_Compare_int_int : Code := (Try.f80.body).getD .skip
noncomputable def sp_slices_Compare_int_int : Spec := spF (α := List Int × List Int) (ρ := Int) 80 (fun x => [F3_ x.1, F3_ x.2]) (fun r => (eI .i64) r) (fun x => slices_Compare_int_int x.1 x.2) [] (by
  rintro ⟨a0, a1⟩ ⟨b0, b1⟩ h
  simp only [List.cons.injEq, and_true] at h
  have e0 := EncI.inj (f := F3_) _ _ h.1
  have e1 := EncI.inj (f := F3_) _ _ h.2
  subst e0 e1
  rfl)
abbrev ST_slices_Compare_int_int_J1 (s1 : List Int) (s2 : List Int) : List (Nat × T) := [(0, .d (eSl 1 false (eI .i64) s1)), (1, .d (eSl 1 false (eI .i64) s2))]
abbrev ST_slices_Compare_int_int_L2 (s1 : List Int) (s2 : List Int) (x11 : Int) : List (Nat × T) := [(0, .d (eSl 1 false (eI .i64) s1)), (1, .d (eSl 1 false (eI .i64) s2)), (9, .d (eSl 1 false (eI .i64) s1)), (10, .d (I ((s1.length : Nat) : Int))), (11, .d (I x11))]
theorem w_slices_Compare_int_int {ctr : Ctr} (hC : CtrOk Try.prog ctr) (hm : Try.prog.follows .mixedOrders = true) (h_cmp_Compare_int : ctr.Has sp_cmp_Compare_int) : sp_slices_Compare_int_int.Ok Try.prog := by
 refine spF_ok ?_
 rintro ⟨s1, s2⟩ r0 hf0
 try unfold slices_Compare_int_int at hf0
 refine callOk_h (tt := TTab) (keep := true) (rs := [(4, none)]) (n := ⟨36, []⟩) (body := bd_slices_Compare_int_int) TTab_ok Try.func80 rfl (by kernel_rfl) rfl rfl (by show (2 : Nat) ≤ 36; decide) fun E hE => ?_
 refine awpAt X0 TTab_ok hC hm [0, 1] 4000 [.cut 1] (sub [1] bd_slices_Compare_int_int) (frs [1] [] bd_slices_Compare_int_int []) [(0, .d (eSl 1 false (eI .i64) s1)), (1, .d (eSl 1 false (eI .i64) s2))] [] (by kernel_rfl) fun st0 h0 => ?_
 refine awpJoin' (X := Unit) (x := (sub [1, 2] bd_slices_Compare_int_int)) (y := (sub [1, 1] bd_slices_Compare_int_int)) (by kernel_rfl) [0, 1] [0, 1] _ h0 (fun z => slices_Compare_int_int_J1 s1 s2 = some r0) (fun z => ST_slices_Compare_int_int_J1 s1 s2) ?_ fun J1 hJ1 => ?_
 ·rintro ⟨⟩ hf0
  unfold slices_Compare_int_int_J1 at hf0
  rcases bifE hf0 with ⟨c0, hf0⟩ | ⟨c0, hf0⟩
  ·obtain rfl := someE hf0
   exact awpEnd X0 TTab_ok hC hm hE 4000 (hs := [aLn s1.length, aLn s2.length, bT]) (x := (I (-1))) [ob (lnM (eI .i64) s1), ob (lnM (eI .i64) s2), ob c0] (by kernel_rfl) (LeV.refl _)
  ·obtain rfl := someE hf0
   exact awpEnd X0 TTab_ok hC hm hE 4000 (hs := [aLn s1.length, aLn s2.length, bF]) (x := (I 0)) [ob (lnM (eI .i64) s1), ob (lnM (eI .i64) s2), ob c0] (by kernel_rfl) (LeV.refl _)
 ·obtain ⟨t2, ht2, hf0⟩ := bindE hf0
  refine awpAt X0 TTab_ok hC hm [0, 1, 9, 10, 11] 4000 [aLn s1.length] (sub [1, 2, 1, 0] bd_slices_Compare_int_int) (frs [1, 2, 1, 0] [J1] bd_slices_Compare_int_int []) [(0, .d (eSl 1 false (eI .i64) s1)), (1, .d (eSl 1 false (eI .i64) s2)), (9, .d (eSl 1 false (eI .i64) s1)), (10, .d (I ((s1.length : Nat) : Int))), (11, .d (I 0))] [ob (lnM (eI .i64) s1)] (by kernel_rfl) fun st0 h0 => ?_
  refine awpLoop' (X := Int × Nat) (c' := (sub [1, 2, 1, 0, 0] bd_slices_Compare_int_int)) (by kernel_rfl) [0, 1, 9, 10, 11] (fun x => loopN (fun s => slices_Compare_int_int_L2 s1 s2 s) x.2 x.1 = some t2) (fun x => x.2) (fun x => ST_slices_Compare_int_int_L2 s1 s2 x.1) (0, fuel) _ h0 inferInstance ht2 ?_
  rintro ⟨x11, n2⟩ hn2 J2 hJ2
  obtain ⟨m2, lr1, rfl, hf1, hl1⟩ := loopE hn2
  try unfold slices_Compare_int_int_L2 at hf1
  rcases bifE hf1 with ⟨c1, hf1⟩ | ⟨c1, hf1⟩
  ·obtain ⟨s_e, h0, hf1⟩ := bindE hf1
   rcases bifE hf1 with ⟨c2, hf1⟩ | ⟨c2, hf1⟩
   ·obtain rfl := someE hf1
    obtain rfl := hl1
    obtain rfl := someE hf0
    exact awpEnd X0 TTab_ok hC hm hE 4000 (hs := [bT, .a ((eI .i64) s_e), aLn s2.length, bT]) (x := (I 1)) [ob c1, ob (i0 h0), ob (iM (eI .i64) h0), ob (lnM (eI .i64) s2), ob c2] (by kernel_rfl) (LeV.refl _)
   ·obtain ⟨s_e1, h1, hf1⟩ := bindE hf1
    obtain ⟨r_, h2, hf1⟩ := bindE hf1
    have o0 := hasF h_cmp_Compare_int (x := (s_e, s_e1)) h2 (loC (eI .i64) s_e <| loC (eI .i64) s_e1 <| loN)
    rcases bifE hf1 with ⟨c3, hf1⟩ | ⟨c3, hf1⟩
    ·obtain rfl := someE hf1
     obtain rfl := hl1
     obtain rfl := someE hf0
     exact awpEnd X0 TTab_ok hC hm hE 4000 (hs := [bT, .a ((eI .i64) s_e), aLn s2.length, bF, .a ((eI .i64) s_e1), .g [], .a ((eI .i64) r_), bT]) (x := (I r_)) [ob c1, ob (i0 h0), ob (iM (eI .i64) h0), ob (lnM (eI .i64) s2), ob c2, ob (i0 h1), ob (iM (eI .i64) h1), ob (hasG h_cmp_Compare_int), ob o0, ob c3] (by kernel_rfl) (LeV.refl _)
    ·obtain rfl := someE hf1
     exact awpBack X0 TTab_ok hC hm [0, 1, 9, 10, 11] 4000 [bT, .a ((eI .i64) s_e), aLn s2.length, bF, .a ((eI .i64) s_e1), .g [], .a ((eI .i64) r_), bF] J2 [(0, .d (eSl 1 false (eI .i64) s1)), (1, .d (eSl 1 false (eI .i64) s2)), (9, .d (eSl 1 false (eI .i64) s1)), (10, .d (I ((s1.length : Nat) : Int))), (11, .d (I (w64 (x11 + 1))))] [ob c1, ob (i0 h0), ob (iM (eI .i64) h0), ob (lnM (eI .i64) s2), ob c2, ob (i0 h1), ob (iM (eI .i64) h1), ob (hasG h_cmp_Compare_int), ob o0, ob c3] (by kernel_rfl) fun st0 h0 => hJ2 st0 _ (w64 (x11 + 1), m2) hl1 (Nat.lt_succ_self m2) h0 inferInstance
  ·obtain rfl := someE hf1
   obtain rfl := hl1
   exact awpBack X0 TTab_ok hC hm [0, 1] 4000 [bF] J1 [(0, .d (eSl 1 false (eI .i64) s1)), (1, .d (eSl 1 false (eI .i64) s2))] [ob c1] (by kernel_rfl) fun st0 h0 => hJ1 st0 _ () hf0 h0 inferInstance
noncomputable def bd_equals_Relate_1 : Code := (Try.f79.body).getD .skip
noncomputable def sp_equals_Relate_1 : Spec := spF (α := Arr2 Int × Arr2 Int) (ρ := Int) 79 (fun x => [F0_ x.1, F0_ x.2]) (fun r => (eI .i64) r) (fun x => equals_Relate_1 x.1 x.2) [] (by
  rintro ⟨a0, a1⟩ ⟨b0, b1⟩ h
  simp only [List.cons.injEq, and_true] at h
  have e0 := EncI.inj (f := F0_) _ _ h.1
  have e1 := EncI.inj (f := F0_) _ _ h.2
  subst e0 e1
  rfl)
theorem w_equals_Relate_1 {ctr : Ctr} (hC : CtrOk Try.prog ctr) (hm : Try.prog.follows .mixedOrders = true) (h_slices_Compare_int_int : ctr.Has sp_slices_Compare_int_int) : sp_equals_Relate_1.Ok Try.prog := by
 refine spF_ok ?_
 rintro ⟨p_, q_⟩ r0 hf0
 try unfold equals_Relate_1 at hf0
 refine callOk_h (tt := TTab) (keep := true) (rs := [(4, none)]) (n := ⟨8, []⟩) (body := bd_equals_Relate_1) TTab_ok Try.func79 rfl (by kernel_rfl) rfl rfl (by show (2 : Nat) ≤ 8; decide) fun E hE => ?_
 obtain ⟨r_, h0, hf0⟩ := bindE hf0
 have o0 := hasF h_slices_Compare_int_int (x := ([p_.e0, p_.e1], [q_.e0, q_.e1])) h0 (loC F1_ ([p_.e0, p_.e1] : List Int) <| loC F1_ ([q_.e0, q_.e1] : List Int) <| loN)
 obtain rfl := someE hf0
 exact awpEnd ((xArr TTab_ok 6).or ((xArr TTab_ok 5).or X0)) TTab_ok hC hm hE 4000 (hs := [.g [], .a ((eI .i64) r_)]) (x := (I r_)) [ob (hasG h_slices_Compare_int_int), ob o0] (by kernel_rfl) (LeV.refl _)
noncomputable def bd_slices_Clip_2_int_2_int : Code := (Try.f81.body).getD .skip
noncomputable def sp_slices_Clip_2_int_2_int : Spec := spF (α := List (Arr2 Int)) (ρ := List (Arr2 Int)) 81 (fun x => [F6_ x]) (fun r => F5_ r) (fun x => slices_Clip_2_int_2_int x) [] (by
  rintro a0 b0 h
  simp only [List.cons.injEq, and_true] at h
  have e0 := EncI.inj (f := F6_) _ _ h
  subst e0
  rfl)
theorem w_slices_Clip_2_int_2_int {ctr : Ctr} (hC : CtrOk Try.prog ctr) (hm : Try.prog.follows .mixedOrders = true) : sp_slices_Clip_2_int_2_int.Ok Try.prog := by
 refine spF_ok ?_
 rintro s_ r0 hf0
 try unfold slices_Clip_2_int_2_int at hf0
 refine callOk_h (tt := TTab) (keep := true) (rs := [(2, none)]) (n := ⟨9, []⟩) (body := bd_slices_Clip_2_int_2_int) TTab_ok Try.func81 rfl (by kernel_rfl) rfl rfl (by show (1 : Nat) ≤ 9; decide) fun E hE => ?_
 obtain ⟨g0, hf0⟩ := gdE hf0
 have o0 := slT1 2 F0_ s_ 0 ((s_.length : Nat) : Int).toNat
 obtain rfl := someE hf0
 exact awpEnd X0 TTab_ok hC hm hE 4000 (hs := [aLn s_.length, aLn s_.length, .a (eSl 2 true F0_ ((s_.drop 0).take (((s_.length : Nat) : Int).toNat - 0)))]) (x := (eSl 2 true F0_ ((s_.drop 0).take (((s_.length : Nat) : Int).toNat - 0)))) [ob (lnM F0_ s_), ob (lnM F0_ s_), ob (slB g0), ob (slC g0), ob (sl011 F0_ g0), ob o0] (by kernel_rfl) (LeV.refl _)
noncomputable def bd_equals_Relate : Code := (Try.f42.body).getD .skip
noncomputable def sp_equals_Relate : Spec := spF (α := S_api_Machine × S_api_Machine) (ρ := List (Arr2 Int) × Bool × Int) 42 (fun x => [F19_ x.1, F19_ x.2]) (fun r => .tup [F5_ r.1, eB r.2.1, (eI .i64) r.2.2]) (fun x => equals_Relate x.1 x.2) [] (by
  rintro ⟨a0, a1⟩ ⟨b0, b1⟩ h
  simp only [List.cons.injEq, and_true] at h
  have e0 := EncI.inj (f := F19_) _ _ h.1
  have e1 := EncI.inj (f := F19_) _ _ h.2
  subst e0 e1
  rfl)
theorem w_equals_Relate {ctr : Ctr} (hC : CtrOk Try.prog ctr) (hm : Try.prog.follows .mixedOrders = true) (h_equals_both : ctr.Has sp_equals_both) (h_equals_differ : ctr.Has sp_equals_differ) (h_equals_Relate_1 : ctr.Has sp_equals_Relate_1) (h_slices_Clip_2_int_2_int : ctr.Has sp_slices_Clip_2_int_2_int) : sp_equals_Relate.Ok Try.prog := by
 refine spF_ok ?_
 rintro ⟨a_, b_⟩ r0 hf0
 try unfold equals_Relate at hf0
 refine callOk_h (tt := TTab) (keep := false) (rs := [(4, none), (5, none), (6, none)]) (n := ⟨29, []⟩) (body := bd_equals_Relate) TTab_ok Try.func42 rfl (by kernel_rfl) rfl rfl (by show (2 : Nat) ≤ 29; decide) fun E hE => ?_
 obtain ⟨r_, h0, hf0⟩ := bindE hf0
 have o0 := hasF h_equals_both (x := (a_, b_)) h0 (loC F19_ a_ <| loC F19_ b_ <| loN)
 rcases bifE hf0 with ⟨c0, hf0⟩ | ⟨c0, hf0⟩
 ·have o1 := shM F0_ F0_ []
  obtain rfl := someE hf0
  exact awpEnd X0 TTab_ok hC hm hE 4000 (hs := [.g [], .a ((eI .i64) r_), bT, .l ([].map F0_)]) (x := (.tup [eSl 2 true F0_ [], B false, I r_])) [ob (hasG h_equals_both), ob o0, ob c0, ob o1] (by kernel_rfl) (show LeV (.tup [eSl 2 true F0_ [], B false, I r_]) (.tup [eSl 2 true F0_ ([] : List (Arr2 Int)), B false, I r_]) from inferInstance)
 ·obtain ⟨r_1, h1, hf0⟩ := bindE hf0
  have o2 := hasF h_equals_differ (x := (a_, b_)) h1 (loC F19_ a_ <| loC F19_ b_ <| loN)
  have o3 := (⟨rfl, rfl⟩ : T.own (.opq (tupQ [some (eSl 1 true (eI .i64) r_1.1), some (eOs 2 false F0_ r_1.2)])) = T.own (.opq (tupQ [some (eSl 1 true (eI .i64) r_1.1), some (eOs 2 false F0_ r_1.2)])) ∧ 1 = 1)
  have o4 := (⟨rfl, rfl⟩ : T.own (.opq (tupQ [some (eSl 1 true (eI .i64) r_1.1), some (eOs 2 false F0_ r_1.2)])) = T.own (.opq (tupQ [some (eSl 1 true (eI .i64) r_1.1), some (eOs 2 false F0_ r_1.2)])) ∧ 1 = 1)
  refine awpAt ((xExtr Try.prog 21 [some (eSl 1 true (eI .i64) r_1.1), some (eOs 2 false F0_ r_1.2)]).or ((xExtr Try.prog 20 [some (eSl 1 true (eI .i64) r_1.1), some (eOs 2 false F0_ r_1.2)]).or X0)) TTab_ok hC hm [8, 9] 4000 [.g [], .a ((eI .i64) r_), bF, .g [], .a (.opq (tupQ [some (eSl 1 true (eI .i64) r_1.1), some (eOs 2 false F0_ r_1.2)])), .cut 0] (sub [1, 1, 1] bd_equals_Relate) (frs [1, 1, 1] [] bd_equals_Relate []) [(8, .d (eSl 1 true (eI .i64) r_1.1)), (9, .own (eOs 2 false F0_ r_1.2))] [ob (hasG h_equals_both), ob o0, ob c0, ob (hasG h_equals_differ), ob o2, ob o3, ob o4] (by kernel_rfl) fun st0 h0 => awpOf h0 ?_
  refine awpPin (by kernel_rfl) 9 fun pv9 => ?_
  obtain ⟨sorted, h2, hf0⟩ := bindE hf0
  have o5 := shM F0_ F0_ sorted
  obtain ⟨r_2, h3, hf0⟩ := bindE hf0
  have o6 := hasF h_slices_Clip_2_int_2_int (x := sorted) h3 (loC F6_ sorted <| loN)
  have o7 := shM F0_ F0_ sorted
  obtain rfl := someE hf0
  exact awpEnd ((xLend (P := Try.prog) TTab [9] (sort_lent so_78 (f := F0_) (t := false) (v := pv9) (fun _ => rfl) (fun _ => rfl) (fun x y c h => hasCall hC h_equals_Relate_1 (x := (x, y)) h) h2) 23).or X0) TTab_ok hC hm hE 4000 (hs := [.g [], .l (sorted.map F0_), .a (F5_ r_2), .l (sorted.map F0_), aLn r_1.1.length]) (x := (.tup [eSl 2 true F0_ r_2, B (((r_1.1.length : Nat) : Int) == 0), I 0])) [ob (tabC_at (f := .fn 78 []) (xs := [.atom pv9, .fn 79 []]) (ls := [(pv9, eOs 2 false F0_ r_1.2)]) (r := .tup []) (ys := [eOs 2 false F0_ sorted]) [.atom pv9, .fn 79 []] (show LeTs [.atom pv9, .fn 79 []] [.atom pv9, .fn 79 []] from inferInstance)), ob (hasG h_slices_Clip_2_int_2_int), ob o5, ob o6, ob o7, ob (lnM (eI .i64) r_1.1)] (by kernel_rfl) (LeV.refl _)
noncomputable def bd_equals_CheckRelation : Code := (Try.f45.body).getD .skip
noncomputable def sp_equals_CheckRelation : Spec := spF (α := S_api_Machine × S_api_Machine × List (Arr2 Int)) (ρ := Bool × Int) 45 (fun x => [F19_ x.1, F19_ x.2.1, F6_ x.2.2]) (fun r => .tup [eB r.1, (eI .i64) r.2]) (fun x => equals_CheckRelation x.1 x.2.1 x.2.2) [] (by
  rintro ⟨a0, a1, a2⟩ ⟨b0, b1, b2⟩ h
  simp only [List.cons.injEq, and_true] at h
  have e0 := EncI.inj (f := F19_) _ _ h.1
  have e1 := EncI.inj (f := F19_) _ _ h.2.1
  have e2 := EncI.inj (f := F6_) _ _ h.2.2
  subst e0 e1 e2
  rfl)
abbrev ST_equals_CheckRelation_J2 (is : Bool) : List (Nat × T) := [(12, .d (B is))]
abbrev ST_equals_CheckRelation_J4 (a_ : S_api_Machine) (b_ : S_api_Machine) (r_ : List (Arr2 Int)) (in_ : List ((Arr2 Int) × Bool)) (x64 : Int) (is2 : Bool) : List (Nat × T) := [(3, .own (.box (F19_ a_))), (4, .own (.box (F19_ b_))), (9, .own (.opq (mapQ (entL F0_ eB in_)))), (12, .d (B is2)), (62, .d (eSl 2 false F0_ r_)), (63, .d (I ((r_.length : Nat) : Int))), (64, .d (I x64))]
abbrev ST_equals_CheckRelation_L5 (a_ : S_api_Machine) (b_ : S_api_Machine) (r_ : List (Arr2 Int)) (in_ : List ((Arr2 Int) × Bool)) (x64 : Int) (r__e : Arr2 Int) (Row_e : List S_api_Edge) (is3 : Bool) (x75 : Int) : List (Nat × T) := [(3, .own (.box (F19_ a_))), (4, .own (.box (F19_ b_))), (9, .own (.opq (mapQ (entL F0_ eB in_)))), (12, .d (B is3)), (14, .own (.box (F0_ r__e))), (62, .d (eSl 2 false F0_ r_)), (63, .d (I ((r_.length : Nat) : Int))), (64, .d (I x64)), (73, .d (eSl 2 false F7_ Row_e)), (74, .d (I ((Row_e.length : Nat) : Int))), (75, .d (I x75))]
abbrev ST_equals_CheckRelation_L3 (a_ : S_api_Machine) (b_ : S_api_Machine) (r_ : List (Arr2 Int)) (in_ : List ((Arr2 Int) × Bool)) (is1 : Bool) (x64 : Int) : List (Nat × T) := [(3, .own (.box (F19_ a_))), (4, .own (.box (F19_ b_))), (9, .own (.opq (mapQ (entL F0_ eB in_)))), (12, .d (B is1)), (62, .d (eSl 2 false F0_ r_)), (63, .d (I ((r_.length : Nat) : Int))), (64, .d (I x64))]
abbrev ST_equals_CheckRelation_J1 (a_ : S_api_Machine) (b_ : S_api_Machine) (r_ : List (Arr2 Int)) (in_ : List ((Arr2 Int) × Bool)) : List (Nat × T) := [(2, .d (eSl 2 false F0_ r_)), (3, .own (.box (F19_ a_))), (4, .own (.box (F19_ b_))), (9, .own (.opq (mapQ (entL F0_ eB in_))))]
abbrev ST_equals_CheckRelation_L6 (a_ : S_api_Machine) (b_ : S_api_Machine) (r_ : List (Arr2 Int)) (in_1 : List ((Arr2 Int) × Bool)) (x30 : Int) : List (Nat × T) := [(2, .d (eSl 2 false F0_ r_)), (3, .own (.box (F19_ a_))), (4, .own (.box (F19_ b_))), (9, .own (.opq (mapQ (entL F0_ eB in_1)))), (28, .d (eSl 2 false F0_ r_)), (29, .d (I ((r_.length : Nat) : Int))), (30, .d (I x30))]
theorem w_equals_CheckRelation {ctr : Ctr} (hC : CtrOk Try.prog ctr) (hm : Try.prog.follows .mixedOrders = true) (h_equals_both : ctr.Has sp_equals_both) : sp_equals_CheckRelation.Ok Try.prog := by
 refine spF_ok ?_
 rintro ⟨a_, b_, r_⟩ r0 hf0
 try unfold equals_CheckRelation at hf0
 refine callOk_h (tt := TTab) (keep := false) (rs := [(6, none), (7, none)]) (n := ⟨114, []⟩) (body := bd_equals_CheckRelation) TTab_ok Try.func45 rfl (by kernel_rfl) rfl rfl (by show (3 : Nat) ≤ 114; decide) fun E hE => ?_
 obtain ⟨r_1, h0, hf0⟩ := bindE hf0
 have o0 := hasF h_equals_both (x := (a_, b_)) h0 (loC F19_ a_ <| loC F19_ b_ <| loN)
 rcases bifE hf0 with ⟨c0, hf0⟩ | ⟨c0, hf0⟩
 ·obtain rfl := someE hf0
  exact awpEnd X0 TTab_ok hC hm hE 4000 (hs := [.g [], .a ((eI .i64) r_1), bT]) (x := (.tup [B false, I r_1])) [ob (hasG h_equals_both), ob o0, ob c0] (by kernel_rfl) (LeV.refl _)
 ·rcases bifE hf0 with ⟨c1, hf0⟩ | ⟨c1, hf0⟩
  ·obtain rfl := someE hf0
   exact awpEnd X0 TTab_ok hC hm hE 4000 (hs := [.g [], .a ((eI .i64) r_1), bF, aLn r_.length, bT]) (x := (.tup [B false, I 3])) [ob (hasG h_equals_both), ob o0, ob c0, ob (lnM F0_ r_), ob c1] (by kernel_rfl) (LeV.refl _)
  ·refine awpAt ((xMake Try.prog 27).or X0) TTab_ok hC hm [2, 3, 4, 9] 4000 [.g [], .a ((eI .i64) r_1), bF, aLn r_.length, bF, .cut 1] (sub [1, 1, 1, 1] bd_equals_CheckRelation) (frs [1, 1, 1, 1] [] bd_equals_CheckRelation []) [(2, .d (eSl 2 false F0_ r_)), (3, .own (.box (F19_ a_))), (4, .own (.box (F19_ b_))), (9, .own (.opq (mapQ (entL F0_ eB ([] : List ((Arr2 Int) × Bool))))))] [ob (hasG h_equals_both), ob o0, ob c0, ob (lnM F0_ r_), ob c1] (by kernel_rfl) fun st0 h0 => ?_
   refine awpJoin' (X := List ((Arr2 Int) × Bool)) (x := (sub [1, 1, 1, 1, 2] bd_equals_CheckRelation)) (y := (sub [1, 1, 1, 1, 1] bd_equals_CheckRelation)) (by kernel_rfl) [2, 3, 4, 9] [2, 3, 4, 9] _ h0 (fun z => equals_CheckRelation_J1 a_ b_ r_ z = some r0) (fun z => ST_equals_CheckRelation_J1 a_ b_ r_ z) ?_ fun J1 hJ1 => ?_
   ·rintro in_ hf0
    unfold equals_CheckRelation_J1 at hf0
    have o1 := (⟨rfl, rfl, ent_ok (fun _ => rfl) in_⟩ : A.opq (mapQ (entL F0_ eB in_)) = A.opq (mapQ (entL F0_ eB in_)) ∧ (okAgg [.i64, .i64]) (F0_ (Arr2.mk 0 0)) = true ∧ ∀ p ∈ entL F0_ eB in_, (okAgg [.i64, .i64]) p.1 = true)
    obtain ⟨val, h1, hf0⟩ := bindE hf0
    replace h1 := someE h1
    have o2 := (get1 (f := F0_) (g := eB) (z0 := false) (z := .atom (.bool false)) rfl (Arr2.mk 0 0) in_).trans (congrArg eB h1)
    refine awpAt ((xLook mt_130 61 (entL F0_ eB in_)).or X0) TTab_ok hC hm [2, 3, 4, 9, 12] 4000 [.a (eB val), .cut 0] (sub [1, 1, 1, 1, 1, 1] bd_equals_CheckRelation) (frs [1, 1, 1, 1, 1, 1] [] bd_equals_CheckRelation []) [(2, .d (eSl 2 false F0_ r_)), (3, .own (.box (F19_ a_))), (4, .own (.box (F19_ b_))), (9, .own (.opq (mapQ (entL F0_ eB in_)))), (12, .d (B val))] [ob o1, ob o2] (by kernel_rfl) fun st0 h0 => ?_
    refine awpJoin' (X := Bool) (x := (sub [1, 1, 1, 1, 1, 1, 2] bd_equals_CheckRelation)) (y := (sub [1, 1, 1, 1, 1, 1, 1] bd_equals_CheckRelation)) (by kernel_rfl) [12] [2, 3, 4, 9, 12] _ h0 (fun z => equals_CheckRelation_J2 z = some r0) (fun z => ST_equals_CheckRelation_J2 z) ?_ fun J2 hJ2 => ?_
    ·rintro is hf0
     unfold equals_CheckRelation_J2 at hf0
     obtain rfl := someE hf0
     exact awpEnd X0 TTab_ok hC hm hE 4000 (hs := []) (x := (.tup [B is, I 0])) [] (by kernel_rfl) (LeV.refl _)
    ·obtain ⟨t3, ht3, hf0⟩ := bindE hf0
     refine awpAt X0 TTab_ok hC hm [3, 4, 9, 12, 62, 63, 64] 4000 [aLn r_.length] (sub [1, 1, 1, 1, 1, 1, 2, 1, 0] bd_equals_CheckRelation) (frs [1, 1, 1, 1, 1, 1, 2, 1, 0] [J2] bd_equals_CheckRelation []) [(3, .own (.box (F19_ a_))), (4, .own (.box (F19_ b_))), (9, .own (.opq (mapQ (entL F0_ eB in_)))), (12, .d (B val)), (62, .d (eSl 2 false F0_ r_)), (63, .d (I ((r_.length : Nat) : Int))), (64, .d (I 0))] [ob (lnM F0_ r_)] (by kernel_rfl) fun st0 h0 => ?_
     refine awpLoop' (X := (Bool × Int) × Nat) (c' := (sub [1, 1, 1, 1, 1, 1, 2, 1, 0, 0] bd_equals_CheckRelation)) (by kernel_rfl) [3, 4, 9, 12, 62, 63, 64] (fun x => loopN (fun s => equals_CheckRelation_L3 a_ b_ r_ in_ s.1 s.2) x.2 x.1 = some t3) (fun x => x.2) (fun x => ST_equals_CheckRelation_L3 a_ b_ r_ in_ x.1.1 x.1.2) ((val, 0), fuel) _ h0 inferInstance ht3 ?_
     rintro ⟨⟨is1, x64⟩, n3⟩ hn3 J3 hJ3
     obtain ⟨m3, lr1, rfl, hf1, hl1⟩ := loopE hn3
     try unfold equals_CheckRelation_L3 at hf1
     rcases bifE hf1 with ⟨c2, hf1⟩ | ⟨c2, hf1⟩
     ·refine awpAt X0 TTab_ok hC hm [3, 4, 9, 12, 62, 63, 64] 4000 [bT, .cut 0] (sub [1, 1, 1, 1, 1, 1, 2, 1, 0, 0, 1, 1] bd_equals_CheckRelation) (frs [1, 1, 1, 1, 1, 1, 2, 1, 0, 0, 1, 1] [J2, J3] bd_equals_CheckRelation []) [(3, .own (.box (F19_ a_))), (4, .own (.box (F19_ b_))), (9, .own (.opq (mapQ (entL F0_ eB in_)))), (12, .d (B is1)), (62, .d (eSl 2 false F0_ r_)), (63, .d (I ((r_.length : Nat) : Int))), (64, .d (I x64))] [ob c2] (by kernel_rfl) fun st0 h0 => ?_
      refine awpJoin' (X := Bool) (x := (sub [1, 1, 1, 1, 1, 1, 2, 1, 0, 0, 1, 1, 2] bd_equals_CheckRelation)) (y := (sub [1, 1, 1, 1, 1, 1, 2, 1, 0, 0, 1, 1, 1] bd_equals_CheckRelation)) (by kernel_rfl) [3, 4, 9, 12, 62, 63, 64] [3, 4, 9, 12, 62, 63, 64] _ h0 (fun z => equals_CheckRelation_J4 x64 z = some lr1) (fun z => ST_equals_CheckRelation_J4 a_ b_ r_ in_ x64 z) ?_ fun J4 hJ4 => ?_
      ·rintro is2 hf1
       unfold equals_CheckRelation_J4 at hf1
       obtain rfl := someE hf1
       exact awpBack X0 TTab_ok hC hm [3, 4, 9, 12, 62, 63, 64] 4000 [] J3 [(3, .own (.box (F19_ a_))), (4, .own (.box (F19_ b_))), (9, .own (.opq (mapQ (entL F0_ eB in_)))), (12, .d (B is2)), (62, .d (eSl 2 false F0_ r_)), (63, .d (I ((r_.length : Nat) : Int))), (64, .d (I (w64 (x64 + 1))))] [] (by kernel_rfl) fun st0 h0 => hJ3 st0 _ ((is2, w64 (x64 + 1)), m3) hl1 (Nat.lt_succ_self m3) h0 inferInstance
      ·obtain ⟨r__e, h2, hf1⟩ := bindE hf1
       have o3 := (⟨rfl, by decide⟩ : true = true ∧ 0 < 2)
       obtain ⟨Row_e, h3, hf1⟩ := bindE hf1
       have o4 := iM F10_ h3
       have o5 := lnM F7_ Row_e
       obtain ⟨t5, ht5, hf1⟩ := bindE hf1
       refine awpAt X0 TTab_ok hC hm [3, 4, 9, 12, 14, 62, 63, 64, 73, 74, 75] 4000 [.a (F0_ r__e), .a (F10_ Row_e), aLn Row_e.length] (sub [1, 1, 1, 1, 1, 1, 2, 1, 0, 0, 1, 1, 2, 0, 1, 1, 0] bd_equals_CheckRelation) (frs [1, 1, 1, 1, 1, 1, 2, 1, 0, 0, 1, 1, 2, 0, 1, 1, 0] [J2, J3, J4] bd_equals_CheckRelation []) [(3, .own (.box (F19_ a_))), (4, .own (.box (F19_ b_))), (9, .own (.opq (mapQ (entL F0_ eB in_)))), (12, .d (B is1)), (14, .own (.box (F0_ r__e))), (62, .d (eSl 2 false F0_ r_)), (63, .d (I ((r_.length : Nat) : Int))), (64, .d (I x64)), (73, .d (eSl 2 false F7_ Row_e)), (74, .d (I ((Row_e.length : Nat) : Int))), (75, .d (I 0))] [ob (i0 h2), ob (iM F0_ h2), ob o3, ob (i0 h3), ob o4, ob o5] (by kernel_rfl) fun st0 h0 => ?_
       refine awpLoop' (X := (Bool × Int) × Nat) (c' := (sub [1, 1, 1, 1, 1, 1, 2, 1, 0, 0, 1, 1, 2, 0, 1, 1, 0, 0] bd_equals_CheckRelation)) (by kernel_rfl) [3, 4, 9, 12, 14, 62, 63, 64, 73, 74, 75] (fun x => loopN (fun s => equals_CheckRelation_L5 b_ in_ r__e Row_e s.1 s.2) x.2 x.1 = some t5) (fun x => x.2) (fun x => ST_equals_CheckRelation_L5 a_ b_ r_ in_ x64 r__e Row_e x.1.1 x.1.2) ((is1, 0), fuel) _ h0 inferInstance ht5 ?_
       rintro ⟨⟨is3, x75⟩, n5⟩ hn5 J5 hJ5
       obtain ⟨m5, lr2, rfl, hf2, hl2⟩ := loopE hn5
       try unfold equals_CheckRelation_L5 at hf2
       rcases bifE hf2 with ⟨c3, hf2⟩ | ⟨c3, hf2⟩
       ·obtain ⟨Row_e_e, h4, hf2⟩ := bindE hf2
        have o6 := iM F7_ h4
        have o7 := (⟨rfl, by decide⟩ : true = true ∧ 1 < 2)
        obtain ⟨Row_e1, h5, hf2⟩ := bindE hf2
        have o8 := iM F10_ h5
        obtain ⟨Row_e_e1, h6, hf2⟩ := bindE hf2
        have o9 := iM F7_ h6
        rcases bifE hf2 with ⟨c4, hf2⟩ | ⟨c4, hf2⟩
        ·rcases bifE hf2 with ⟨c5, hf2⟩ | ⟨c5, hf2⟩
         ·rcases bifE hf2 with ⟨c6, hf2⟩ | ⟨c6, hf2⟩
          ·obtain rfl := someE hf2
           exact awpBack X0 TTab_ok hC hm [3, 4, 9, 12, 14, 62, 63, 64, 73, 74, 75] 4000 (bT :: .a (F7_ Row_e_e) :: .a (F10_ Row_e1) :: .a (F7_ Row_e_e1) :: (rpN 20 bT [])) J5 [(3, .own (.box (F19_ a_))), (4, .own (.box (F19_ b_))), (9, .own (.opq (mapQ (entL F0_ eB in_)))), (12, .d (B true)), (14, .own (.box (F0_ r__e))), (62, .d (eSl 2 false F0_ r_)), (63, .d (I ((r_.length : Nat) : Int))), (64, .d (I x64)), (73, .d (eSl 2 false F7_ Row_e)), (74, .d (I ((Row_e.length : Nat) : Int))), (75, .d (I (w64 (x75 + 1))))] (ob c3 :: ob (i0 h4) :: ob o6 :: ob o7 :: ob (i0 h5) :: ob o8 :: ob (i0 h6) :: ob o9 :: (rpN 6 (ob c4) (rpN 4 (ob c5) (rpN 7 (ob c6) [ob c5, ob c6, ob c5])))) (by kernel_rfl) fun st0 h0 => hJ5 st0 _ ((true, w64 (x75 + 1)), m5) hl2 (Nat.lt_succ_self m5) h0 inferInstance
          ·have o10 := (⟨rfl, rfl, ent_ok (fun _ => rfl) in_⟩ : A.opq (mapQ (entL F0_ eB in_)) = A.opq (mapQ (entL F0_ eB in_)) ∧ (okAgg [.i64, .i64]) (F0_ (Arr2.mk Row_e_e.To Row_e_e1.To)) = true ∧ ∀ p ∈ entL F0_ eB in_, (okAgg [.i64, .i64]) p.1 = true)
           obtain ⟨val1, h7, hf2⟩ := bindE hf2
           replace h7 := someE h7
           have o11 := (get1 (f := F0_) (g := eB) (z0 := false) (z := .atom (.bool false)) rfl (Arr2.mk Row_e_e.To Row_e_e1.To) in_).trans (congrArg eB h7)
           obtain rfl := someE hf2
           exact awpBack ((xLook mt_130 108 (entL F0_ eB in_)).or X0) TTab_ok hC hm [3, 4, 9, 12, 14, 62, 63, 64, 73, 74, 75] 4000 (bT :: .a (F7_ Row_e_e) :: .a (F10_ Row_e1) :: .a (F7_ Row_e_e1) :: (rpN 10 bT (rpN 7 bF [.a (eB val1), bT, bF, bT]))) J5 [(3, .own (.box (F19_ a_))), (4, .own (.box (F19_ b_))), (9, .own (.opq (mapQ (entL F0_ eB in_)))), (12, .d (B val1)), (14, .own (.box (F0_ r__e))), (62, .d (eSl 2 false F0_ r_)), (63, .d (I ((r_.length : Nat) : Int))), (64, .d (I x64)), (73, .d (eSl 2 false F7_ Row_e)), (74, .d (I ((Row_e.length : Nat) : Int))), (75, .d (I (w64 (x75 + 1))))] (ob c3 :: ob (i0 h4) :: ob o6 :: ob o7 :: ob (i0 h5) :: ob o8 :: ob (i0 h6) :: ob o9 :: (rpN 6 (ob c4) (rpN 4 (ob c5) (rpN 7 (ob c6) [ob o10, ob o11, ob c5, ob c6, ob c5])))) (by kernel_rfl) fun st0 h0 => hJ5 st0 _ ((val1, w64 (x75 + 1)), m5) hl2 (Nat.lt_succ_self m5) h0 inferInstance
         ·obtain rfl := someE hf2
          exact awpBack X0 TTab_ok hC hm [3, 4, 9, 12, 14, 62, 63, 64, 73, 74, 75] 4000 (bT :: .a (F7_ Row_e_e) :: .a (F10_ Row_e1) :: .a (F7_ Row_e_e1) :: (rpN 6 bT (rpN 6 bF []))) J5 [(3, .own (.box (F19_ a_))), (4, .own (.box (F19_ b_))), (9, .own (.opq (mapQ (entL F0_ eB in_)))), (12, .d (B false)), (14, .own (.box (F0_ r__e))), (62, .d (eSl 2 false F0_ r_)), (63, .d (I ((r_.length : Nat) : Int))), (64, .d (I x64)), (73, .d (eSl 2 false F7_ Row_e)), (74, .d (I ((Row_e.length : Nat) : Int))), (75, .d (I (w64 (x75 + 1))))] (ob c3 :: ob (i0 h4) :: ob o6 :: ob o7 :: ob (i0 h5) :: ob o8 :: ob (i0 h6) :: ob o9 :: (rpN 6 (ob c4) (rpN 6 (ob c5) []))) (by kernel_rfl) fun st0 h0 => hJ5 st0 _ ((false, w64 (x75 + 1)), m5) hl2 (Nat.lt_succ_self m5) h0 inferInstance
        ·obtain rfl := someE hf2
         exact awpBack X0 TTab_ok hC hm [3, 4, 9, 12, 14, 62, 63, 64, 73, 74, 75] 4000 (bT :: .a (F7_ Row_e_e) :: .a (F10_ Row_e1) :: .a (F7_ Row_e_e1) :: (rpN 12 bF [])) J5 [(3, .own (.box (F19_ a_))), (4, .own (.box (F19_ b_))), (9, .own (.opq (mapQ (entL F0_ eB in_)))), (12, .d (B false)), (14, .own (.box (F0_ r__e))), (62, .d (eSl 2 false F0_ r_)), (63, .d (I ((r_.length : Nat) : Int))), (64, .d (I x64)), (73, .d (eSl 2 false F7_ Row_e)), (74, .d (I ((Row_e.length : Nat) : Int))), (75, .d (I (w64 (x75 + 1))))] (ob c3 :: ob (i0 h4) :: ob o6 :: ob o7 :: ob (i0 h5) :: ob o8 :: ob (i0 h6) :: ob o9 :: (rpN 6 (ob c4) (rpN 6 oF []))) (by kernel_rfl) fun st0 h0 => hJ5 st0 _ ((false, w64 (x75 + 1)), m5) hl2 (Nat.lt_succ_self m5) h0 inferInstance
       ·obtain rfl := someE hf2
        obtain rfl := hl2
        exact awpBack X0 TTab_ok hC hm [3, 4, 9, 12, 62, 63, 64] 4000 [bF] J4 [(3, .own (.box (F19_ a_))), (4, .own (.box (F19_ b_))), (9, .own (.opq (mapQ (entL F0_ eB in_)))), (12, .d (B is3)), (62, .d (eSl 2 false F0_ r_)), (63, .d (I ((r_.length : Nat) : Int))), (64, .d (I x64))] [ob c3] (by kernel_rfl) fun st0 h0 => hJ4 st0 _ is3 hf1 h0 inferInstance
     ·obtain rfl := someE hf1
      obtain rfl := hl1
      exact awpBack X0 TTab_ok hC hm [12] 4000 [bF] J2 [(12, .d (B is1))] [ob c2] (by kernel_rfl) fun st0 h0 => hJ2 st0 _ is1 hf0 h0 inferInstance
   ·obtain ⟨t6, ht6, hf0⟩ := bindE hf0
    refine awpAt X0 TTab_ok hC hm [2, 3, 4, 9, 28, 29, 30] 4000 [aLn r_.length] (sub [1, 1, 1, 1, 2, 1, 0] bd_equals_CheckRelation) (frs [1, 1, 1, 1, 2, 1, 0] [J1] bd_equals_CheckRelation []) [(2, .d (eSl 2 false F0_ r_)), (3, .own (.box (F19_ a_))), (4, .own (.box (F19_ b_))), (9, .own (.opq (mapQ (entL F0_ eB ([] : List ((Arr2 Int) × Bool)))))), (28, .d (eSl 2 false F0_ r_)), (29, .d (I ((r_.length : Nat) : Int))), (30, .d (I 0))] [ob (lnM F0_ r_)] (by kernel_rfl) fun st0 h0 => ?_
    refine awpLoop' (X := ((List ((Arr2 Int) × Bool)) × Int) × Nat) (c' := (sub [1, 1, 1, 1, 2, 1, 0, 0] bd_equals_CheckRelation)) (by kernel_rfl) [2, 3, 4, 9, 28, 29, 30] (fun x => loopN (fun s => equals_CheckRelation_L6 a_ b_ r_ s.1 s.2) x.2 x.1 = some t6) (fun x => x.2) (fun x => ST_equals_CheckRelation_L6 a_ b_ r_ x.1.1 x.1.2) ((([] : List ((Arr2 Int) × Bool)), 0), fuel) _ h0 inferInstance ht6 ?_
    rintro ⟨⟨in_1, x30⟩, n6⟩ hn6 J6 hJ6
    obtain ⟨m6, lr1, rfl, hf1, hl1⟩ := loopE hn6
    try unfold equals_CheckRelation_L6 at hf1
    rcases bifE hf1 with ⟨c7, hf1⟩ | ⟨c7, hf1⟩
    ·obtain ⟨r__e1, h8, hf1⟩ := bindE hf1
     have o12 := (⟨rfl, by decide⟩ : true = true ∧ 0 < 2)
     have o13 := (⟨rfl, by decide⟩ : true = true ∧ 1 < 2)
     rcases bifE hf1 with ⟨c8, hf1⟩ | ⟨c8, hf1⟩
     ·obtain rfl := someE hf1
      obtain rfl := hl1
      obtain rfl := someE hf0
      exact awpEnd X0 TTab_ok hC hm hE 4000 (hs := (bT :: .a (F0_ r__e1) :: (rpN 15 bT []))) (x := (.tup [B false, I 1])) (ob c7 :: ob (i0 h8) :: ob (iM F0_ h8) :: ob o12 :: ob o13 :: (rpN 7 (ob c8) (rpN 8 oT []))) (by kernel_rfl) (LeV.refl _)
     ·have o14 := (⟨rfl, by decide⟩ : true = true ∧ 0 < 2)
      have o15 := lnM F10_ a_.Rows
      rcases bifE hf1 with ⟨c9, hf1⟩ | ⟨c9, hf1⟩
      ·obtain rfl := someE hf1
       obtain rfl := hl1
       obtain rfl := someE hf0
       exact awpEnd X0 TTab_ok hC hm hE 4000 (hs := (bT :: .a (F0_ r__e1) :: (rpN 5 bF (aLn a_.Rows.length :: bF :: bF :: (rpN 8 bT []))))) (x := (.tup [B false, I 1])) (ob c7 :: ob (i0 h8) :: ob (iM F0_ h8) :: ob o12 :: ob o13 :: ob c8 :: ob o14 :: (rpN 4 (ob c8) (ob o15 :: ob c8 :: ob c8 :: (rpN 7 (ob c9) [oT])))) (by kernel_rfl) (LeV.refl _)
      ·have o16 := (⟨rfl, by decide⟩ : true = true ∧ 1 < 2)
       have o17 := lnM F10_ b_.Rows
       rcases bifE hf1 with ⟨c10, hf1⟩ | ⟨c10, hf1⟩
       ·obtain rfl := someE hf1
        obtain rfl := hl1
        obtain rfl := someE hf0
        exact awpEnd X0 TTab_ok hC hm hE 4000 (hs := (bT :: .a (F0_ r__e1) :: (rpN 5 bF (aLn a_.Rows.length :: (rpN 7 bF [aLn b_.Rows.length, bF, bF, bT]))))) (x := (.tup [B false, I 1])) (ob c7 :: ob (i0 h8) :: ob (iM F0_ h8) :: ob o12 :: ob o13 :: ob c8 :: ob o14 :: (rpN 4 (ob c8) (ob o15 :: ob c8 :: ob c8 :: ob c9 :: ob o16 :: (rpN 4 (ob c9) [ob o17, ob c9, ob c9, ob c10])))) (by kernel_rfl) (LeV.refl _)
       ·have o18 := (⟨rfl, rfl, rfl, rfl, ent_ok (fun _ => rfl) in_1⟩ : T.own (.opq (mapQ (entL F0_ eB in_1))) = T.own (.opq (mapQ (entL F0_ eB in_1))) ∧ 0 = 0 ∧ (okAgg [.i64, .i64]) (F0_ r__e1) = true ∧ (eB true).isD = true ∧ ∀ p ∈ entL F0_ eB in_1, (okAgg [.i64, .i64]) p.1 = true)
        have o19 := put_set (f := F0_) (g := eB) r__e1 true in_1
        obtain rfl := someE hf1
        exact awpBack ((xUpd mt_130 56 (entL F0_ eB in_1) (entL F0_ eB (mset in_1 r__e1 true))).or X0) TTab_ok hC hm [2, 3, 4, 9, 28, 29, 30] 4000 (bT :: .a (F0_ r__e1) :: (rpN 5 bF (aLn a_.Rows.length :: (rpN 7 bF [aLn b_.Rows.length, bF, bF, bF])))) J6 [(2, .d (eSl 2 false F0_ r_)), (3, .own (.box (F19_ a_))), (4, .own (.box (F19_ b_))), (9, .own (.opq (mapQ (entL F0_ eB (mset in_1 r__e1 true))))), (28, .d (eSl 2 false F0_ r_)), (29, .d (I ((r_.length : Nat) : Int))), (30, .d (I (w64 (x30 + 1))))] (ob c7 :: ob (i0 h8) :: ob (iM F0_ h8) :: ob o12 :: ob o13 :: ob c8 :: ob o14 :: (rpN 4 (ob c8) (ob o15 :: ob c8 :: ob c8 :: ob c9 :: ob o16 :: (rpN 4 (ob c9) [ob o17, ob c9, ob c9, ob c10, ob o18, ob o19])))) (by kernel_rfl) fun st0 h0 => hJ6 st0 _ (((mset in_1 r__e1 true), w64 (x30 + 1)), m6) hl1 (Nat.lt_succ_self m6) h0 inferInstance
    ·obtain rfl := someE hf1
     obtain rfl := hl1
     exact awpBack X0 TTab_ok hC hm [2, 3, 4, 9] 4000 [bF] J1 [(2, .d (eSl 2 false F0_ r_)), (3, .own (.box (F19_ a_))), (4, .own (.box (F19_ b_))), (9, .own (.opq (mapQ (entL F0_ eB in_1))))] [ob c7] (by kernel_rfl) fun st0 h0 => hJ1 st0 _ in_1 hf0 h0 inferInstance
noncomputable def bd_ref01_Compare : Code := (Try.f74.body).getD .skip
noncomputable def sp_ref01_Compare : Spec := spF (α := List Int × List Int) (ρ := Int) 74 (fun x => [F3_ x.1, F3_ x.2]) (fun r => (eI .i64) r) (fun x => ref01_Compare x.1 x.2) [] (by
  rintro ⟨a0, a1⟩ ⟨b0, b1⟩ h
  simp only [List.cons.injEq, and_true] at h
  have e0 := EncI.inj (f := F3_) _ _ h.1
  have e1 := EncI.inj (f := F3_) _ _ h.2
  subst e0 e1
  rfl)
abbrev ST_ref01_Compare_J1 : List (Nat × T) := []
abbrev ST_ref01_Compare_L2 (a_ : List Int) (b_ : List Int) (i_ : Int) : List (Nat × T) := [(0, .d (eSl 1 false (eI .i64) a_)), (1, .d (eSl 1 false (eI .i64) b_)), (5, .d (I i_))]
theorem w_ref01_Compare {ctr : Ctr} (hC : CtrOk Try.prog ctr) (hm : Try.prog.follows .mixedOrders = true) : sp_ref01_Compare.Ok Try.prog := by
 refine spF_ok ?_
 rintro ⟨a_, b_⟩ r0 hf0
 try unfold ref01_Compare at hf0
 refine callOk_h (tt := TTab) (keep := true) (rs := [(4, none)]) (n := ⟨40, []⟩) (body := bd_ref01_Compare) TTab_ok Try.func74 rfl (by kernel_rfl) rfl rfl (by show (2 : Nat) ≤ 40; decide) fun E hE => ?_
 rcases bifE hf0 with ⟨c0, hf0⟩ | ⟨c0, hf0⟩
 ·obtain rfl := someE hf0
  exact awpEnd X0 TTab_ok hC hm hE 4000 (hs := [aLn a_.length, aLn b_.length, bT]) (x := (I (-1))) [ob (lnM (eI .i64) a_), ob (lnM (eI .i64) b_), ob c0] (by kernel_rfl) (LeV.refl _)
 ·rcases bifE hf0 with ⟨c1, hf0⟩ | ⟨c1, hf0⟩
  ·obtain rfl := someE hf0
   exact awpEnd X0 TTab_ok hC hm hE 4000 (hs := [aLn a_.length, aLn b_.length, bF, aLn a_.length, aLn b_.length, bT]) (x := (I 1)) [ob (lnM (eI .i64) a_), ob (lnM (eI .i64) b_), ob c0, ob (lnM (eI .i64) a_), ob (lnM (eI .i64) b_), ob c1] (by kernel_rfl) (LeV.refl _)
  ·refine awpAt X0 TTab_ok hC hm [0, 1] 4000 [aLn a_.length, aLn b_.length, bF, aLn a_.length, aLn b_.length, bF, .cut 0] (sub [1, 1, 1] bd_ref01_Compare) (frs [1, 1, 1] [] bd_ref01_Compare []) [(0, .d (eSl 1 false (eI .i64) a_)), (1, .d (eSl 1 false (eI .i64) b_))] [ob (lnM (eI .i64) a_), ob (lnM (eI .i64) b_), ob c0, ob (lnM (eI .i64) a_), ob (lnM (eI .i64) b_), ob c1] (by kernel_rfl) fun st0 h0 => ?_
   refine awpJoin' (X := Unit) (x := (sub [1, 1, 1, 2] bd_ref01_Compare)) (y := (sub [1, 1, 1, 1] bd_ref01_Compare)) (by kernel_rfl) [] [0, 1] _ h0 (fun z => ref01_Compare_J1 = some r0) (fun z => ST_ref01_Compare_J1) ?_ fun J1 hJ1 => ?_
   ·rintro ⟨⟩ hf0
    unfold ref01_Compare_J1 at hf0
    obtain rfl := someE hf0
    exact awpEnd X0 TTab_ok hC hm hE 4000 (hs := []) (x := (I 0)) [] (by kernel_rfl) (LeV.refl _)
   ·obtain ⟨t2, ht2, hf0⟩ := bindE hf0
    refine awpAt X0 TTab_ok hC hm [0, 1, 5] 4000 [] (sub [1, 1, 1, 2, 1, 0] bd_ref01_Compare) (frs [1, 1, 1, 2, 1, 0] [J1] bd_ref01_Compare []) [(0, .d (eSl 1 false (eI .i64) a_)), (1, .d (eSl 1 false (eI .i64) b_)), (5, .d (I 0))] [] (by kernel_rfl) fun st0 h0 => ?_
    refine awpLoop' (X := Int × Nat) (c' := (sub [1, 1, 1, 2, 1, 0, 0] bd_ref01_Compare)) (by kernel_rfl) [0, 1, 5] (fun x => loopN (fun s => ref01_Compare_L2 a_ b_ s) x.2 x.1 = some t2) (fun x => x.2) (fun x => ST_ref01_Compare_L2 a_ b_ x.1) (0, fuel) _ h0 inferInstance ht2 ?_
    rintro ⟨i_, n2⟩ hn2 J2 hJ2
    obtain ⟨m2, lr1, rfl, hf1, hl1⟩ := loopE hn2
    try unfold ref01_Compare_L2 at hf1
    rcases bifE hf1 with ⟨c2, hf1⟩ | ⟨c2, hf1⟩
    ·obtain ⟨a__e, h0, hf1⟩ := bindE hf1
     obtain ⟨b__e, h1, hf1⟩ := bindE hf1
     rcases bifE hf1 with ⟨c3, hf1⟩ | ⟨c3, hf1⟩
     ·obtain rfl := someE hf1
      obtain rfl := hl1
      obtain rfl := someE hf0
      exact awpEnd X0 TTab_ok hC hm hE 4000 (hs := [aLn a_.length, bT, .a ((eI .i64) a__e), .a ((eI .i64) b__e), bT]) (x := (I (-1))) [ob (lnM (eI .i64) a_), ob c2, ob (i0 h0), ob (iM (eI .i64) h0), ob (i0 h1), ob (iM (eI .i64) h1), ob c3] (by kernel_rfl) (LeV.refl _)
     ·obtain ⟨a__e1, h2, hf1⟩ := bindE hf1
      obtain ⟨b__e1, h3, hf1⟩ := bindE hf1
      rcases bifE hf1 with ⟨c4, hf1⟩ | ⟨c4, hf1⟩
      ·obtain rfl := someE hf1
       obtain rfl := hl1
       obtain rfl := someE hf0
       exact awpEnd X0 TTab_ok hC hm hE 4000 (hs := [aLn a_.length, bT, .a ((eI .i64) a__e), .a ((eI .i64) b__e), bF, .a ((eI .i64) a__e1), .a ((eI .i64) b__e1), bT]) (x := (I 1)) [ob (lnM (eI .i64) a_), ob c2, ob (i0 h0), ob (iM (eI .i64) h0), ob (i0 h1), ob (iM (eI .i64) h1), ob c3, ob (i0 h2), ob (iM (eI .i64) h2), ob (i0 h3), ob (iM (eI .i64) h3), ob c4] (by kernel_rfl) (LeV.refl _)
      ·obtain rfl := someE hf1
       exact awpBack X0 TTab_ok hC hm [0, 1, 5] 4000 [aLn a_.length, bT, .a ((eI .i64) a__e), .a ((eI .i64) b__e), bF, .a ((eI .i64) a__e1), .a ((eI .i64) b__e1), bF] J2 [(0, .d (eSl 1 false (eI .i64) a_)), (1, .d (eSl 1 false (eI .i64) b_)), (5, .d (I (w64 (i_ + 1))))] [ob (lnM (eI .i64) a_), ob c2, ob (i0 h0), ob (iM (eI .i64) h0), ob (i0 h1), ob (iM (eI .i64) h1), ob c3, ob (i0 h2), ob (iM (eI .i64) h2), ob (i0 h3), ob (iM (eI .i64) h3), ob c4] (by kernel_rfl) fun st0 h0 => hJ2 st0 _ (w64 (i_ + 1), m2) hl1 (Nat.lt_succ_self m2) h0 inferInstance
    ·obtain rfl := someE hf1
     obtain rfl := hl1
     exact awpBack X0 TTab_ok hC hm [] 4000 [aLn a_.length, bF] J1 [] [ob (lnM (eI .i64) a_), ob c2] (by kernel_rfl) fun st0 h0 => hJ1 st0 _ () hf0 h0 inferInstance
noncomputable def bd_ref01_Same : Code := (Try.f34.body).getD .skip
noncomputable def sp_ref01_Same : Spec := spF (α := List Int × List Int) (ρ := Bool) 34 (fun x => [F3_ x.1, F3_ x.2]) (fun r => eB r) (fun x => ref01_Same x.1 x.2) [] (by
  rintro ⟨a0, a1⟩ ⟨b0, b1⟩ h
  simp only [List.cons.injEq, and_true] at h
  have e0 := EncI.inj (f := F3_) _ _ h.1
  have e1 := EncI.inj (f := F3_) _ _ h.2
  subst e0 e1
  rfl)
theorem w_ref01_Same {ctr : Ctr} (hC : CtrOk Try.prog ctr) (hm : Try.prog.follows .mixedOrders = true) (h_ref01_Compare : ctr.Has sp_ref01_Compare) : sp_ref01_Same.Ok Try.prog := by
 refine spF_ok ?_
 rintro ⟨a_, b_⟩ r0 hf0
 try unfold ref01_Same at hf0
 refine callOk_h (tt := TTab) (keep := true) (rs := [(4, none)]) (n := ⟨9, []⟩) (body := bd_ref01_Same) TTab_ok Try.func34 rfl (by kernel_rfl) rfl rfl (by show (2 : Nat) ≤ 9; decide) fun E hE => ?_
 obtain ⟨r_, h0, hf0⟩ := bindE hf0
 have o0 := hasF h_ref01_Compare (x := (a_, b_)) h0 (loC F3_ a_ <| loC F3_ b_ <| loN)
 obtain rfl := someE hf0
 exact awpEnd X0 TTab_ok hC hm hE 4000 (hs := [.g [], .a ((eI .i64) r_)]) (x := (B (r_ == 0))) [ob (hasG h_ref01_Compare), ob o0] (by kernel_rfl) (LeV.refl _)
noncomputable def bd_law10_list : Code := (Try.f33.body).getD .skip
noncomputable def sp_law10_list : Spec := spF (α := List Int × Int × List Int × Int) (ρ := Bool) 33 (fun x => [F1_ x.1, (eI .i64) x.2.1, F3_ x.2.2.1, (eI .i64) x.2.2.2]) (fun r => eB r) (fun x => law10_list x.1 x.2.1 x.2.2.1 x.2.2.2) [] (by
  rintro ⟨a0, a1, a2, a3⟩ ⟨b0, b1, b2, b3⟩ h
  simp only [List.cons.injEq, and_true] at h
  have e0 := EncI.inj (f := F1_) _ _ h.1
  have e1 := EncI.inj (f := (eI .i64)) _ _ h.2.1
  have e2 := EncI.inj (f := F3_) _ _ h.2.2.1
  have e3 := EncI.inj (f := (eI .i64)) _ _ h.2.2.2
  subst e0 e1 e2 e3
  rfl)
theorem w_law10_list {ctr : Ctr} (hC : CtrOk Try.prog ctr) (hm : Try.prog.follows .mixedOrders = true) (h_ref01_Same : ctr.Has sp_ref01_Same) : sp_law10_list.Ok Try.prog := by
 refine spF_ok ?_
 rintro ⟨l_, e_, want, f_⟩ r0 hf0
 try unfold law10_list at hf0
 refine callOk_h (tt := TTab) (keep := true) (rs := [(8, none)]) (n := ⟨24, []⟩) (body := bd_law10_list) TTab_ok Try.func33 rfl (by kernel_rfl) rfl rfl (by show (4 : Nat) ≤ 24; decide) fun E hE => ?_
 rcases bifE hf0 with ⟨c0, hf0⟩ | ⟨c0, hf0⟩
 ·obtain ⟨r_, h0, hf0⟩ := bindE hf0
  have o0 := hasF h_ref01_Same (x := (l_, want)) h0 (loC F1_ l_ <| loC F3_ want <| loN)
  rcases bifE hf0 with ⟨c1, hf0⟩ | ⟨c1, hf0⟩
  ·obtain rfl := someE hf0
   exact awpEnd X0 TTab_ok hC hm hE 4000 (hs := [bT, bT, bT, .g [], .a (eB r_), bT, bT, bT, aLn l_.length, bT, bT, aLn l_.length, bT, bT]) (x := (B (((l_.length : Nat) : Int) == ((l_.length : Nat) : Int)))) [ob c0, ob c0, ob c0, ob (hasG h_ref01_Same), ob o0, ob c0, ob c1, ob c1, ob (lnM (eI .i64) l_), ob c1, ob c1, ob (lnM (eI .i64) l_), ob c1, ob c1] (by kernel_rfl) (LeV.refl _)
  ·obtain rfl := someE hf0
   exact awpEnd X0 TTab_ok hC hm hE 4000 (hs := (bT :: bT :: bT :: .g [] :: .a (eB r_) :: bT :: (rpN 6 bF []))) (x := (B false)) (ob c0 :: ob c0 :: ob c0 :: ob (hasG h_ref01_Same) :: ob o0 :: ob c0 :: (rpN 6 (ob c1) [])) (by kernel_rfl) (LeV.refl _)
 ·obtain rfl := someE hf0
  exact awpEnd X0 TTab_ok hC hm hE 4000 (hs := (rpN 10 bF [])) (x := (B false)) (rpN 4 (ob c0) (rpN 6 oF [])) (by kernel_rfl) (LeV.refl _)
noncomputable def bd_law10_pairs : Code := (Try.f43.body).getD .skip
noncomputable def sp_law10_pairs : Spec := spF (α := List (Arr2 Int) × List (Arr2 Int)) (ρ := Bool) 43 (fun x => [F5_ x.1, F6_ x.2]) (fun r => eB r) (fun x => law10_pairs x.1 x.2) [] (by
  rintro ⟨a0, a1⟩ ⟨b0, b1⟩ h
  simp only [List.cons.injEq, and_true] at h
  have e0 := EncI.inj (f := F5_) _ _ h.1
  have e1 := EncI.inj (f := F6_) _ _ h.2
  subst e0 e1
  rfl)
abbrev ST_law10_pairs_J1 : List (Nat × T) := []
abbrev ST_law10_pairs_L2 (a_ : List (Arr2 Int)) (b_ : List (Arr2 Int)) (k_ : Int) : List (Nat × T) := [(0, .d (eSl 2 true F0_ a_)), (1, .d (eSl 2 false F0_ b_)), (5, .d (I k_))]
theorem w_law10_pairs {ctr : Ctr} (hC : CtrOk Try.prog ctr) (hm : Try.prog.follows .mixedOrders = true) : sp_law10_pairs.Ok Try.prog := by
 refine spF_ok ?_
 rintro ⟨a_, b_⟩ r0 hf0
 try unfold law10_pairs at hf0
 refine callOk_h (tt := TTab) (keep := true) (rs := [(4, none)]) (n := ⟨33, []⟩) (body := bd_law10_pairs) TTab_ok Try.func43 rfl (by kernel_rfl) rfl rfl (by show (2 : Nat) ≤ 33; decide) fun E hE => ?_
 rcases bifE hf0 with ⟨c0, hf0⟩ | ⟨c0, hf0⟩
 ·obtain rfl := someE hf0
  exact awpEnd X0 TTab_ok hC hm hE 4000 (hs := (aLn a_.length :: aLn b_.length :: (rpN 7 bT []))) (x := (B false)) (ob (lnM F0_ a_) :: ob (lnM F0_ b_) :: (rpN 6 (ob c0) [oT])) (by kernel_rfl) (LeV.refl _)
 ·rcases bifE hf0 with ⟨c1, hf0⟩ | ⟨c1, hf0⟩
  ·obtain rfl := someE hf0
   exact awpEnd X0 TTab_ok hC hm hE 4000 (hs := [aLn a_.length, aLn b_.length, bF, bF, aLn a_.length, bF, bF, aLn a_.length, bF, bF, bT]) (x := (B false)) [ob (lnM F0_ a_), ob (lnM F0_ b_), ob c0, ob c0, ob (lnM F0_ a_), ob c0, ob c0, ob (lnM F0_ a_), ob c0, ob c0, ob c1] (by kernel_rfl) (LeV.refl _)
  ·refine awpAt X0 TTab_ok hC hm [0, 1] 4000 [aLn a_.length, aLn b_.length, bF, bF, aLn a_.length, bF, bF, aLn a_.length, bF, bF, bF, .cut 0] (sub [1, 1] bd_law10_pairs) (frs [1, 1] [] bd_law10_pairs []) [(0, .d (eSl 2 true F0_ a_)), (1, .d (eSl 2 false F0_ b_))] [ob (lnM F0_ a_), ob (lnM F0_ b_), ob c0, ob c0, ob (lnM F0_ a_), ob c0, ob c0, ob (lnM F0_ a_), ob c0, ob c0, ob c1] (by kernel_rfl) fun st0 h0 => ?_
   refine awpJoin' (X := Unit) (x := (sub [1, 1, 2] bd_law10_pairs)) (y := (sub [1, 1, 1] bd_law10_pairs)) (by kernel_rfl) [] [0, 1] _ h0 (fun z => law10_pairs_J1 = some r0) (fun z => ST_law10_pairs_J1) ?_ fun J1 hJ1 => ?_
   ·rintro ⟨⟩ hf0
    unfold law10_pairs_J1 at hf0
    obtain rfl := someE hf0
    exact awpEnd X0 TTab_ok hC hm hE 4000 (hs := []) (x := (B true)) [] (by kernel_rfl) (LeV.refl _)
   ·obtain ⟨t2, ht2, hf0⟩ := bindE hf0
    refine awpAt X0 TTab_ok hC hm [0, 1, 5] 4000 [] (sub [1, 1, 2, 1, 0] bd_law10_pairs) (frs [1, 1, 2, 1, 0] [J1] bd_law10_pairs []) [(0, .d (eSl 2 true F0_ a_)), (1, .d (eSl 2 false F0_ b_)), (5, .d (I 0))] [] (by kernel_rfl) fun st0 h0 => ?_
    refine awpLoop' (X := Int × Nat) (c' := (sub [1, 1, 2, 1, 0, 0] bd_law10_pairs)) (by kernel_rfl) [0, 1, 5] (fun x => loopN (fun s => law10_pairs_L2 a_ b_ s) x.2 x.1 = some t2) (fun x => x.2) (fun x => ST_law10_pairs_L2 a_ b_ x.1) (0, fuel) _ h0 inferInstance ht2 ?_
    rintro ⟨k_, n2⟩ hn2 J2 hJ2
    obtain ⟨m2, lr1, rfl, hf1, hl1⟩ := loopE hn2
    try unfold law10_pairs_L2 at hf1
    rcases bifE hf1 with ⟨c2, hf1⟩ | ⟨c2, hf1⟩
    ·obtain ⟨a__e, h0, hf1⟩ := bindE hf1
     obtain ⟨b__e, h1, hf1⟩ := bindE hf1
     rcases bifE hf1 with ⟨c3, hf1⟩ | ⟨c3, hf1⟩
     ·obtain rfl := someE hf1
      obtain rfl := hl1
      obtain rfl := someE hf0
      exact awpEnd X0 TTab_ok hC hm hE 4000 (hs := [aLn a_.length, bT, .a (F0_ a__e), .a (F0_ b__e), bT]) (x := (B false)) [ob (lnM F0_ a_), ob c2, ob (i0 h0), ob (iM F0_ h0), ob (i0 h1), ob (iM F0_ h1), ob c3] (by kernel_rfl) (LeV.refl _)
     ·obtain rfl := someE hf1
      exact awpBack X0 TTab_ok hC hm [0, 1, 5] 4000 [aLn a_.length, bT, .a (F0_ a__e), .a (F0_ b__e), bF] J2 [(0, .d (eSl 2 true F0_ a_)), (1, .d (eSl 2 false F0_ b_)), (5, .d (I (w64 (k_ + 1))))] [ob (lnM F0_ a_), ob c2, ob (i0 h0), ob (iM F0_ h0), ob (i0 h1), ob (iM F0_ h1), ob c3] (by kernel_rfl) fun st0 h0 => hJ2 st0 _ (w64 (k_ + 1), m2) hl1 (Nat.lt_succ_self m2) h0 inferInstance
    ·obtain rfl := someE hf1
     obtain rfl := hl1
     exact awpBack X0 TTab_ok hC hm [] 4000 [aLn a_.length, bF] J1 [] [ob (lnM F0_ a_), ob c2] (by kernel_rfl) fun st0 h0 => hJ1 st0 _ () hf0 h0 inferInstance
noncomputable def bd_law10_lives : Code := (Try.f36.body).getD .skip
noncomputable def sp_law10_lives : Spec := spF (α := Unit) (ρ := Bool) 36 (fun x => []) (fun r => eB r) (fun x => law10_lives) [] (fun _ _ _ => rfl)
theorem w_law10_lives {ctr : Ctr} (hC : CtrOk Try.prog ctr) (hm : Try.prog.follows .mixedOrders = true) (h_law10_edge : ctr.Has sp_law10_edge) (h_equals_Differ : ctr.Has sp_equals_Differ) (h_equals_Equal : ctr.Has sp_equals_Equal) (h_equals_Relate : ctr.Has sp_equals_Relate) (h_equals_Within : ctr.Has sp_equals_Within) (h_equals_CheckRelation : ctr.Has sp_equals_CheckRelation) (h_law10_list : ctr.Has sp_law10_list) (h_law10_pairs : ctr.Has sp_law10_pairs) : sp_law10_lives.Ok Try.prog := by
 refine spF_ok ?_
 rintro ⟨⟩ r0 hf0
 try unfold law10_lives at hf0
 refine callOk_h (tt := TTab) (keep := true) (rs := [(0, none)]) (n := ⟨221, []⟩) (body := bd_law10_lives) TTab_ok Try.func36 rfl (by kernel_rfl) rfl rfl (by show (0 : Nat) ≤ 221; decide) fun E hE => ?_
 obtain ⟨r_, h0, hf0⟩ := bindE hf0
 have o0 := hasF h_law10_edge (x := (1, 0)) h0 (loC (eI .i64) 1 <| loC (eI .i64) 0 <| loN)
 obtain ⟨r_1, h1, hf0⟩ := bindE hf0
 have o1 := hasF h_law10_edge (x := (2, 0)) h1 (loC (eI .i64) 2 <| loC (eI .i64) 0 <| loN)
 obtain ⟨r_2, h2, hf0⟩ := bindE hf0
 have o2 := hasF h_law10_edge (x := (0, 1)) h2 (loC (eI .i64) 0 <| loC (eI .i64) 1 <| loN)
 obtain ⟨r_3, h3, hf0⟩ := bindE hf0
 have o3 := hasF h_law10_edge (x := (1, 0)) h3 (loC (eI .i64) 1 <| loC (eI .i64) 0 <| loN)
 obtain ⟨r_4, h4, hf0⟩ := bindE hf0
 have o4 := hasF h_law10_edge (x := (2, 0)) h4 (loC (eI .i64) 2 <| loC (eI .i64) 0 <| loN)
 obtain ⟨r_5, h5, hf0⟩ := bindE hf0
 have o5 := hasF h_law10_edge (x := (3, 1)) h5 (loC (eI .i64) 3 <| loC (eI .i64) 1 <| loN)
 obtain ⟨r_6, h6, hf0⟩ := bindE hf0
 have o6 := hasF h_law10_edge (x := (1, 0)) h6 (loC (eI .i64) 1 <| loC (eI .i64) 0 <| loN)
 obtain ⟨r_7, h7, hf0⟩ := bindE hf0
 have o7 := hasF h_law10_edge (x := (1, 0)) h7 (loC (eI .i64) 1 <| loC (eI .i64) 0 <| loN)
 obtain ⟨r_8, h8, hf0⟩ := bindE hf0
 have o8 := hasF h_law10_edge (x := (2, 0)) h8 (loC (eI .i64) 2 <| loC (eI .i64) 0 <| loN)
 obtain ⟨r_9, h9, hf0⟩ := bindE hf0
 have o9 := hasF h_law10_edge (x := (2, 0)) h9 (loC (eI .i64) 2 <| loC (eI .i64) 0 <| loN)
 obtain ⟨r_10, h10, hf0⟩ := bindE hf0
 have o10 := hasF h_law10_edge (x := (0, 0)) h10 (loC (eI .i64) 0 <| loC (eI .i64) 0 <| loN)
 obtain ⟨r_11, h11, hf0⟩ := bindE hf0
 have o11 := hasF h_law10_edge (x := (0, 0)) h11 (loC (eI .i64) 0 <| loC (eI .i64) 0 <| loN)
 have o12 := shM F8_ F9_ ([[r_], [r_1], [r_2]])
 have o13 := shM F8_ F9_ ([[r_3], [r_4], [r_5], [r_6]])
 obtain ⟨r_12, h12, hf0⟩ := bindE hf0
 have o14 := hasF h_equals_Differ (x := ((S_api_Machine.mk 1 2 ([[r_], [r_1], [r_2]])), (S_api_Machine.mk 1 2 ([[r_3], [r_4], [r_5], [r_6]])))) h12 (loC F18_ (S_api_Machine.mk 1 2 ([[r_], [r_1], [r_2]])) <| loC F18_ (S_api_Machine.mk 1 2 ([[r_3], [r_4], [r_5], [r_6]])) <| loN)
 have o15 := shM F8_ F9_ ([[r_], [r_1], [r_2]])
 have o16 := shM F8_ F9_ ([[r_3], [r_4], [r_5], [r_6]])
 obtain ⟨r_13, h13, hf0⟩ := bindE hf0
 have o17 := hasF h_equals_Equal (x := ((S_api_Machine.mk 1 2 ([[r_], [r_1], [r_2]])), (S_api_Machine.mk 1 2 ([[r_3], [r_4], [r_5], [r_6]])))) h13 (loC F18_ (S_api_Machine.mk 1 2 ([[r_], [r_1], [r_2]])) <| loC F18_ (S_api_Machine.mk 1 2 ([[r_3], [r_4], [r_5], [r_6]])) <| loN)
 obtain ⟨r_14, h14, hf0⟩ := bindE hf0
 have o18 := hasF h_equals_Relate (x := ((S_api_Machine.mk 1 2 ([[r_], [r_1], [r_2]])), (S_api_Machine.mk 1 2 ([[r_3], [r_4], [r_5], [r_6]])))) h14 (loC F18_ (S_api_Machine.mk 1 2 ([[r_], [r_1], [r_2]])) <| loC F18_ (S_api_Machine.mk 1 2 ([[r_3], [r_4], [r_5], [r_6]])) <| loN)
 have o19 := shM F8_ F9_ ([[r_7], [r_8], [r_9]])
 obtain ⟨r_15, h15, hf0⟩ := bindE hf0
 have o20 := hasF h_equals_Differ (x := ((S_api_Machine.mk 1 2 ([[r_], [r_1], [r_2]])), (S_api_Machine.mk 1 2 ([[r_7], [r_8], [r_9]])))) h15 (loC F18_ (S_api_Machine.mk 1 2 ([[r_], [r_1], [r_2]])) <| loC F18_ (S_api_Machine.mk 1 2 ([[r_7], [r_8], [r_9]])) <| loN)
 have o21 := shM F8_ F9_ ([[r_7], [r_8], [r_9]])
 obtain ⟨r_16, h16, hf0⟩ := bindE hf0
 have o22 := hasF h_equals_Within (x := ((S_api_Machine.mk 1 2 ([[r_], [r_1], [r_2]])), (S_api_Machine.mk 1 2 ([[r_7], [r_8], [r_9]])), 2)) h16 (loC F18_ (S_api_Machine.mk 1 2 ([[r_], [r_1], [r_2]])) <| loC F18_ (S_api_Machine.mk 1 2 ([[r_7], [r_8], [r_9]])) <| loC (eI .i64) 2 <| loN)
 obtain ⟨r_17, h17, hf0⟩ := bindE hf0
 have o23 := hasF h_equals_Within (x := ((S_api_Machine.mk 1 2 ([[r_], [r_1], [r_2]])), (S_api_Machine.mk 1 2 ([[r_7], [r_8], [r_9]])), 3)) h17 (loC F18_ (S_api_Machine.mk 1 2 ([[r_], [r_1], [r_2]])) <| loC F18_ (S_api_Machine.mk 1 2 ([[r_7], [r_8], [r_9]])) <| loC (eI .i64) 3 <| loN)
 have o24 := shM F0_ F0_ ([(Arr2.mk 0 0), (Arr2.mk 0 3), (Arr2.mk 1 1), (Arr2.mk 2 2)])
 obtain ⟨r_18, h18, hf0⟩ := bindE hf0
 have o25 := hasF h_equals_CheckRelation (x := ((S_api_Machine.mk 1 2 ([[r_], [r_1], [r_2]])), (S_api_Machine.mk 1 2 ([[r_3], [r_4], [r_5], [r_6]])), [(Arr2.mk 0 0), (Arr2.mk 0 3), (Arr2.mk 1 1), (Arr2.mk 2 2)])) h18 (loC F18_ (S_api_Machine.mk 1 2 ([[r_], [r_1], [r_2]])) <| loC F18_ (S_api_Machine.mk 1 2 ([[r_3], [r_4], [r_5], [r_6]])) <| loC F5_ ([(Arr2.mk 0 0), (Arr2.mk 0 3), (Arr2.mk 1 1), (Arr2.mk 2 2)] : List (Arr2 Int)) <| loN)
 have o26 := shM F0_ F0_ ([(Arr2.mk 0 0), (Arr2.mk 1 1)])
 obtain ⟨r_19, h19, hf0⟩ := bindE hf0
 have o27 := hasF h_equals_CheckRelation (x := ((S_api_Machine.mk 1 2 ([[r_], [r_1], [r_2]])), (S_api_Machine.mk 1 2 ([[r_3], [r_4], [r_5], [r_6]])), [(Arr2.mk 0 0), (Arr2.mk 1 1)])) h19 (loC F18_ (S_api_Machine.mk 1 2 ([[r_], [r_1], [r_2]])) <| loC F18_ (S_api_Machine.mk 1 2 ([[r_3], [r_4], [r_5], [r_6]])) <| loC F5_ ([(Arr2.mk 0 0), (Arr2.mk 1 1)] : List (Arr2 Int)) <| loN)
 have o28 := shM F8_ F9_ ([[r_10, r_11]])
 obtain ⟨r_20, h20, hf0⟩ := bindE hf0
 have o29 := hasF h_equals_Equal (x := ((S_api_Machine.mk 1 2 ([[r_], [r_1], [r_2]])), (S_api_Machine.mk 2 1 ([[r_10, r_11]])))) h20 (loC F18_ (S_api_Machine.mk 1 2 ([[r_], [r_1], [r_2]])) <| loC F18_ (S_api_Machine.mk 2 1 ([[r_10, r_11]])) <| loN)
 obtain ⟨r_21, h21, hf0⟩ := bindE hf0
 have o30 := hasF h_equals_Within (x := ((S_api_Machine.mk 1 2 ([[r_], [r_1], [r_2]])), (S_api_Machine.mk 1 2 ([[r_3], [r_4], [r_5], [r_6]])), (-1))) h21 (loC F18_ (S_api_Machine.mk 1 2 ([[r_], [r_1], [r_2]])) <| loC F18_ (S_api_Machine.mk 1 2 ([[r_3], [r_4], [r_5], [r_6]])) <| loC (eI .i64) (-1) <| loN)
 have o31 := shM F0_ F0_ ([(Arr2.mk 0 4)])
 obtain ⟨r_22, h22, hf0⟩ := bindE hf0
 have o32 := hasF h_equals_CheckRelation (x := ((S_api_Machine.mk 1 2 ([[r_], [r_1], [r_2]])), (S_api_Machine.mk 1 2 ([[r_3], [r_4], [r_5], [r_6]])), [(Arr2.mk 0 4)])) h22 (loC F18_ (S_api_Machine.mk 1 2 ([[r_], [r_1], [r_2]])) <| loC F18_ (S_api_Machine.mk 1 2 ([[r_3], [r_4], [r_5], [r_6]])) <| loC F5_ ([(Arr2.mk 0 4)] : List (Arr2 Int)) <| loN)
 refine awpAt X0 TTab_ok hC hm [5, 6, 7, 8, 9, 10, 11, 12, 13, 14, 15, 16, 17, 18, 19, 20, 21, 22, 23, 25, 27, 29] 4000 [.g [], .a (F7_ r_), .g [], .a (F7_ r_1), .g [], .a (F7_ r_2), .g [], .a (F7_ r_3), .g [], .a (F7_ r_4), .g [], .a (F7_ r_5), .g [], .a (F7_ r_6), .g [], .a (F7_ r_7), .g [], .a (F7_ r_8), .g [], .a (F7_ r_9), .g [], .a (F7_ r_10), .g [], .a (F7_ r_11), .g [], .l (([[r_], [r_1], [r_2]]).map F9_), .l (([[r_3], [r_4], [r_5], [r_6]]).map F9_), .a (.tup [eSl 1 true (eI .i64) r_12.1, B r_12.2.1, I r_12.2.2]), .l (([[r_], [r_1], [r_2]]).map F9_), .l (([[r_3], [r_4], [r_5], [r_6]]).map F9_), .g [], .a (.tup [B r_13.1, I r_13.2]), .g [], .a (.tup [eSl 2 true F0_ r_14.1, B r_14.2.1, I r_14.2.2]), .g [], .l (([[r_7], [r_8], [r_9]]).map F9_), .a (.tup [eSl 1 true (eI .i64) r_15.1, B r_15.2.1, I r_15.2.2]), .l (([[r_7], [r_8], [r_9]]).map F9_), .g [], .a (.tup [B r_16.1, I r_16.2]), .g [], .a (.tup [B r_17.1, I r_17.2]), .g [], .l (([(Arr2.mk 0 0), (Arr2.mk 0 3), (Arr2.mk 1 1), (Arr2.mk 2 2)]).map F0_), .a (.tup [B r_18.1, I r_18.2]), .g [], .l (([(Arr2.mk 0 0), (Arr2.mk 1 1)]).map F0_), .a (.tup [B r_19.1, I r_19.2]), .g [], .l (([[r_10, r_11]]).map F9_), .a (.tup [B r_20.1, I r_20.2]), .g [], .a (.tup [B r_21.1, I r_21.2]), .g [], .l (([(Arr2.mk 0 4)]).map F0_), .a (.tup [B r_22.1, I r_22.2]), .cut 0] (sub [1, 1, 1, 1, 1, 1, 1, 1, 1, 1, 1, 1, 1, 1, 1, 1] bd_law10_lives) (frs [1, 1, 1, 1, 1, 1, 1, 1, 1, 1, 1, 1, 1, 1, 1, 1] [] bd_law10_lives []) [(5, .d (eSl 1 true (eI .i64) r_12.1)), (6, .d (B r_12.2.1)), (7, .d (I r_12.2.2)), (8, .d (B r_13.1)), (9, .d (I r_13.2)), (10, .d (eSl 2 true F0_ r_14.1)), (11, .d (B r_14.2.1)), (12, .d (I r_14.2.2)), (13, .d (eSl 1 true (eI .i64) r_15.1)), (14, .d (B r_15.2.1)), (15, .d (I r_15.2.2)), (16, .d (B r_16.1)), (17, .d (I r_16.2)), (18, .d (B r_17.1)), (19, .d (I r_17.2)), (20, .d (B r_18.1)), (21, .d (I r_18.2)), (22, .d (B r_19.1)), (23, .d (I r_19.2)), (25, .d (I r_20.2)), (27, .d (I r_21.2)), (29, .d (I r_22.2))] [ob (hasG h_law10_edge), ob o0, ob (hasG h_law10_edge), ob o1, ob (hasG h_law10_edge), ob o2, ob (hasG h_law10_edge), ob o3, ob (hasG h_law10_edge), ob o4, ob (hasG h_law10_edge), ob o5, ob (hasG h_law10_edge), ob o6, ob (hasG h_law10_edge), ob o7, ob (hasG h_law10_edge), ob o8, ob (hasG h_law10_edge), ob o9, ob (hasG h_law10_edge), ob o10, ob (hasG h_law10_edge), ob o11, ob (hasG h_equals_Differ), ob o12, ob o13, ob o14, ob o15, ob o16, ob (hasG h_equals_Equal), ob o17, ob (hasG h_equals_Relate), ob o18, ob (hasG h_equals_Differ), ob o19, ob o20, ob o21, ob (hasG h_equals_Within), ob o22, ob (hasG h_equals_Within), ob o23, ob (hasG h_equals_CheckRelation), ob o24, ob o25, ob (hasG h_equals_CheckRelation), ob o26, ob o27, ob (hasG h_equals_Equal), ob o28, ob o29, ob (hasG h_equals_Within), ob o30, ob (hasG h_equals_CheckRelation), ob o31, ob o32] (by kernel_rfl) fun st0 h0 => awpOf h0 ?_
 obtain ⟨r_23, h23, hf0⟩ := bindE hf0
 have o33 := tabC_at (f := .fn 33 []) (xs := [F1_ r_12.1, (eI .i64) r_12.2.2, F3_ ([] : List Int), (eI .i64) 0]) (ls := []) (r := B r_23) (ys := []) [F1_ r_12.1, (eI .i64) r_12.2.2, F1_ ([] : List Int), (eI .i64) 0] (show LeTs [F1_ r_12.1, (eI .i64) r_12.2.2, F1_ ([] : List Int), (eI .i64) 0] [F1_ r_12.1, (eI .i64) r_12.2.2, F3_ ([] : List Int), (eI .i64) 0] from inferInstance)
 rcases bifE hf0 with ⟨c0, hf0⟩ | ⟨c0, hf0⟩
 ·rcases bifE hf0 with ⟨c1, hf0⟩ | ⟨c1, hf0⟩
  ·rcases bifE hf0 with ⟨c2, hf0⟩ | ⟨c2, hf0⟩
   ·rcases bifE hf0 with ⟨c3, hf0⟩ | ⟨c3, hf0⟩
    ·have o34 := shM F0_ F0_ ([(Arr2.mk 0 0), (Arr2.mk 0 3), (Arr2.mk 1 1), (Arr2.mk 2 2)])
     obtain ⟨r_24, h24, hf0⟩ := bindE hf0
     have o35 := tabC_at (f := .fn 43 []) (xs := [F5_ r_14.1, F6_ ([(Arr2.mk 0 0), (Arr2.mk 0 3), (Arr2.mk 1 1), (Arr2.mk 2 2)] : List (Arr2 Int))]) (ls := []) (r := B r_24) (ys := []) [F5_ r_14.1, F5_ ([(Arr2.mk 0 0), (Arr2.mk 0 3), (Arr2.mk 1 1), (Arr2.mk 2 2)] : List (Arr2 Int))] (show LeTs [F5_ r_14.1, F5_ ([(Arr2.mk 0 0), (Arr2.mk 0 3), (Arr2.mk 1 1), (Arr2.mk 2 2)] : List (Arr2 Int))] [F5_ r_14.1, F6_ ([(Arr2.mk 0 0), (Arr2.mk 0 3), (Arr2.mk 1 1), (Arr2.mk 2 2)] : List (Arr2 Int))] from inferInstance)
     rcases bifE hf0 with ⟨c4, hf0⟩ | ⟨c4, hf0⟩
     ·rcases bifE hf0 with ⟨c5, hf0⟩ | ⟨c5, hf0⟩
      ·rcases bifE hf0 with ⟨c6, hf0⟩ | ⟨c6, hf0⟩
       ·have o36 := shM (eI .i64) (eI .i64) ([0, 0, 0])
        obtain ⟨r_25, h25, hf0⟩ := bindE hf0
        have o37 := tabC_at (f := .fn 33 []) (xs := [F1_ r_15.1, (eI .i64) r_15.2.2, F3_ ([0, 0, 0] : List Int), (eI .i64) 0]) (ls := []) (r := B r_25) (ys := []) [F1_ r_15.1, (eI .i64) r_15.2.2, F1_ ([0, 0, 0] : List Int), (eI .i64) 0] (show LeTs [F1_ r_15.1, (eI .i64) r_15.2.2, F1_ ([0, 0, 0] : List Int), (eI .i64) 0] [F1_ r_15.1, (eI .i64) r_15.2.2, F3_ ([0, 0, 0] : List Int), (eI .i64) 0] from inferInstance)
        rcases bifE hf0 with ⟨c7, hf0⟩ | ⟨c7, hf0⟩
        ·rcases bifE hf0 with ⟨c8, hf0⟩ | ⟨c8, hf0⟩
         ·rcases bifE hf0 with ⟨c9, hf0⟩ | ⟨c9, hf0⟩
          ·rcases bifE hf0 with ⟨c10, hf0⟩ | ⟨c10, hf0⟩
           ·rcases bifE hf0 with ⟨c11, hf0⟩ | ⟨c11, hf0⟩
            ·rcases bifE hf0 with ⟨c12, hf0⟩ | ⟨c12, hf0⟩
             ·rcases bifE hf0 with ⟨c13, hf0⟩ | ⟨c13, hf0⟩
              ·rcases bifE hf0 with ⟨c14, hf0⟩ | ⟨c14, hf0⟩
               ·rcases bifE hf0 with ⟨c15, hf0⟩ | ⟨c15, hf0⟩
                ·rcases bifE hf0 with ⟨c16, hf0⟩ | ⟨c16, hf0⟩
                 ·rcases bifE hf0 with ⟨c17, hf0⟩ | ⟨c17, hf0⟩
                  ·rcases bifE hf0 with ⟨c18, hf0⟩ | ⟨c18, hf0⟩
                   ·obtain rfl := someE hf0
                    exact awpEnd ((xLend (P := Try.prog) TTab [] (lentCall (hasCall hC h_law10_list (x := (r_15.1, r_15.2.2, ([0, 0, 0] : List Int), 0)) h25)) 174).or ((xLend (P := Try.prog) TTab [] (lentCall (hasCall hC h_law10_pairs (x := (r_14.1, ([(Arr2.mk 0 0), (Arr2.mk 0 3), (Arr2.mk 1 1), (Arr2.mk 2 2)] : List (Arr2 Int)))) h24)) 161).or ((xLend (P := Try.prog) TTab [] (lentCall (hasCall hC h_law10_list (x := (r_12.1, r_12.2.2, ([] : List Int), 0)) h23)) 142).or X0))) TTab_ok hC hm hE 4000 (hs := (rpN 15 bT (.l (([(Arr2.mk 0 0), (Arr2.mk 0 3), (Arr2.mk 1 1), (Arr2.mk 2 2)]).map F0_) :: (rpN 10 bT (.l (([0, 0, 0]).map (eI .i64)) :: (rpN 34 bT [])))))) (x := (B (r_22.2 == 1))) (ob o33 :: ob c0 :: ob c0 :: ob c0 :: ob c1 :: ob c1 :: ob c2 :: ob c2 :: ob c2 :: (rpN 7 (ob c3) (ob o34 :: ob o35 :: ob c3 :: ob c4 :: ob c4 :: ob c5 :: ob c5 :: ob c5 :: (rpN 4 (ob c6) [ob o36, ob o37, ob c6, ob c7, ob c7, ob c8, ob c8, ob c9, ob c9, ob c9, ob c10, ob c10, ob c10, ob c11, ob c11, ob c11, ob c12, ob c12, ob c13, ob c13, ob c13, ob c14, ob c14, ob c14, ob c15, ob c15, ob c15, ob c16, ob c16, ob c16, ob c17, ob c17, ob c17, ob c18, ob c18, ob c18])))) (by kernel_rfl) (LeV.refl _)
                   ·obtain rfl := someE hf0
                    exact awpEnd ((xLend (P := Try.prog) TTab [] (lentCall (hasCall hC h_law10_list (x := (r_15.1, r_15.2.2, ([0, 0, 0] : List Int), 0)) h25)) 174).or ((xLend (P := Try.prog) TTab [] (lentCall (hasCall hC h_law10_pairs (x := (r_14.1, ([(Arr2.mk 0 0), (Arr2.mk 0 3), (Arr2.mk 1 1), (Arr2.mk 2 2)] : List (Arr2 Int)))) h24)) 161).or ((xLend (P := Try.prog) TTab [] (lentCall (hasCall hC h_law10_list (x := (r_12.1, r_12.2.2, ([] : List Int), 0)) h23)) 142).or X0))) TTab_ok hC hm hE 4000 (hs := (rpN 15 bT (.l (([(Arr2.mk 0 0), (Arr2.mk 0 3), (Arr2.mk 1 1), (Arr2.mk 2 2)]).map F0_) :: (rpN 10 bT (.l (([0, 0, 0]).map (eI .i64)) :: (rpN 31 bT [bF, bF, bF])))))) (x := (B false)) (ob o33 :: ob c0 :: ob c0 :: ob c0 :: ob c1 :: ob c1 :: ob c2 :: ob c2 :: ob c2 :: (rpN 7 (ob c3) (ob o34 :: ob o35 :: ob c3 :: ob c4 :: ob c4 :: ob c5 :: ob c5 :: ob c5 :: (rpN 4 (ob c6) [ob o36, ob o37, ob c6, ob c7, ob c7, ob c8, ob c8, ob c9, ob c9, ob c9, ob c10, ob c10, ob c10, ob c11, ob c11, ob c11, ob c12, ob c12, ob c13, ob c13, ob c13, ob c14, ob c14, ob c14, ob c15, ob c15, ob c15, ob c16, ob c16, ob c16, ob c17, ob c17, ob c17, ob c18, ob c18, ob c18])))) (by kernel_rfl) (LeV.refl _)
                  ·obtain rfl := someE hf0
                   exact awpEnd ((xLend (P := Try.prog) TTab [] (lentCall (hasCall hC h_law10_list (x := (r_15.1, r_15.2.2, ([0, 0, 0] : List Int), 0)) h25)) 174).or ((xLend (P := Try.prog) TTab [] (lentCall (hasCall hC h_law10_pairs (x := (r_14.1, ([(Arr2.mk 0 0), (Arr2.mk 0 3), (Arr2.mk 1 1), (Arr2.mk 2 2)] : List (Arr2 Int)))) h24)) 161).or ((xLend (P := Try.prog) TTab [] (lentCall (hasCall hC h_law10_list (x := (r_12.1, r_12.2.2, ([] : List Int), 0)) h23)) 142).or X0))) TTab_ok hC hm hE 4000 (hs := (rpN 15 bT (.l (([(Arr2.mk 0 0), (Arr2.mk 0 3), (Arr2.mk 1 1), (Arr2.mk 2 2)]).map F0_) :: (rpN 10 bT (.l (([0, 0, 0]).map (eI .i64)) :: (rpN 28 bT (rpN 6 bF []))))))) (x := (B false)) (ob o33 :: ob c0 :: ob c0 :: ob c0 :: ob c1 :: ob c1 :: ob c2 :: ob c2 :: ob c2 :: (rpN 7 (ob c3) (ob o34 :: ob o35 :: ob c3 :: ob c4 :: ob c4 :: ob c5 :: ob c5 :: ob c5 :: (rpN 4 (ob c6) [ob o36, ob o37, ob c6, ob c7, ob c7, ob c8, ob c8, ob c9, ob c9, ob c9, ob c10, ob c10, ob c10, ob c11, ob c11, ob c11, ob c12, ob c12, ob c13, ob c13, ob c13, ob c14, ob c14, ob c14, ob c15, ob c15, ob c15, ob c16, ob c16, ob c16, ob c17, ob c17, ob c17, oF, oF, oF])))) (by kernel_rfl) (LeV.refl _)
                 ·obtain rfl := someE hf0
                  exact awpEnd ((xLend (P := Try.prog) TTab [] (lentCall (hasCall hC h_law10_list (x := (r_15.1, r_15.2.2, ([0, 0, 0] : List Int), 0)) h25)) 174).or ((xLend (P := Try.prog) TTab [] (lentCall (hasCall hC h_law10_pairs (x := (r_14.1, ([(Arr2.mk 0 0), (Arr2.mk 0 3), (Arr2.mk 1 1), (Arr2.mk 2 2)] : List (Arr2 Int)))) h24)) 161).or ((xLend (P := Try.prog) TTab [] (lentCall (hasCall hC h_law10_list (x := (r_12.1, r_12.2.2, ([] : List Int), 0)) h23)) 142).or X0))) TTab_ok hC hm hE 4000 (hs := (rpN 15 bT (.l (([(Arr2.mk 0 0), (Arr2.mk 0 3), (Arr2.mk 1 1), (Arr2.mk 2 2)]).map F0_) :: (rpN 10 bT (.l (([0, 0, 0]).map (eI .i64)) :: (rpN 25 bT (rpN 9 bF []))))))) (x := (B false)) (ob o33 :: ob c0 :: ob c0 :: ob c0 :: ob c1 :: ob c1 :: ob c2 :: ob c2 :: ob c2 :: (rpN 7 (ob c3) (ob o34 :: ob o35 :: ob c3 :: ob c4 :: ob c4 :: ob c5 :: ob c5 :: ob c5 :: (rpN 4 (ob c6) (ob o36 :: ob o37 :: ob c6 :: ob c7 :: ob c7 :: ob c8 :: ob c8 :: ob c9 :: ob c9 :: ob c9 :: ob c10 :: ob c10 :: ob c10 :: ob c11 :: ob c11 :: ob c11 :: ob c12 :: ob c12 :: ob c13 :: ob c13 :: ob c13 :: ob c14 :: ob c14 :: ob c14 :: ob c15 :: ob c15 :: ob c15 :: ob c16 :: ob c16 :: ob c16 :: (rpN 6 oF [])))))) (by kernel_rfl) (LeV.refl _)
                ·obtain rfl := someE hf0
                 exact awpEnd ((xLend (P := Try.prog) TTab [] (lentCall (hasCall hC h_law10_list (x := (r_15.1, r_15.2.2, ([0, 0, 0] : List Int), 0)) h25)) 174).or ((xLend (P := Try.prog) TTab [] (lentCall (hasCall hC h_law10_pairs (x := (r_14.1, ([(Arr2.mk 0 0), (Arr2.mk 0 3), (Arr2.mk 1 1), (Arr2.mk 2 2)] : List (Arr2 Int)))) h24)) 161).or ((xLend (P := Try.prog) TTab [] (lentCall (hasCall hC h_law10_list (x := (r_12.1, r_12.2.2, ([] : List Int), 0)) h23)) 142).or X0))) TTab_ok hC hm hE 4000 (hs := (rpN 15 bT (.l (([(Arr2.mk 0 0), (Arr2.mk 0 3), (Arr2.mk 1 1), (Arr2.mk 2 2)]).map F0_) :: (rpN 10 bT (.l (([0, 0, 0]).map (eI .i64)) :: (rpN 22 bT (rpN 12 bF []))))))) (x := (B false)) (ob o33 :: ob c0 :: ob c0 :: ob c0 :: ob c1 :: ob c1 :: ob c2 :: ob c2 :: ob c2 :: (rpN 7 (ob c3) (ob o34 :: ob o35 :: ob c3 :: ob c4 :: ob c4 :: ob c5 :: ob c5 :: ob c5 :: (rpN 4 (ob c6) (ob o36 :: ob o37 :: ob c6 :: ob c7 :: ob c7 :: ob c8 :: ob c8 :: ob c9 :: ob c9 :: ob c9 :: ob c10 :: ob c10 :: ob c10 :: ob c11 :: ob c11 :: ob c11 :: ob c12 :: ob c12 :: ob c13 :: ob c13 :: ob c13 :: ob c14 :: ob c14 :: ob c14 :: ob c15 :: ob c15 :: ob c15 :: (rpN 9 oF [])))))) (by kernel_rfl) (LeV.refl _)
               ·obtain rfl := someE hf0
                exact awpEnd ((xLend (P := Try.prog) TTab [] (lentCall (hasCall hC h_law10_list (x := (r_15.1, r_15.2.2, ([0, 0, 0] : List Int), 0)) h25)) 174).or ((xLend (P := Try.prog) TTab [] (lentCall (hasCall hC h_law10_pairs (x := (r_14.1, ([(Arr2.mk 0 0), (Arr2.mk 0 3), (Arr2.mk 1 1), (Arr2.mk 2 2)] : List (Arr2 Int)))) h24)) 161).or ((xLend (P := Try.prog) TTab [] (lentCall (hasCall hC h_law10_list (x := (r_12.1, r_12.2.2, ([] : List Int), 0)) h23)) 142).or X0))) TTab_ok hC hm hE 4000 (hs := (rpN 15 bT (.l (([(Arr2.mk 0 0), (Arr2.mk 0 3), (Arr2.mk 1 1), (Arr2.mk 2 2)]).map F0_) :: (rpN 10 bT (.l (([0, 0, 0]).map (eI .i64)) :: (rpN 19 bT (rpN 15 bF []))))))) (x := (B false)) (ob o33 :: ob c0 :: ob c0 :: ob c0 :: ob c1 :: ob c1 :: ob c2 :: ob c2 :: ob c2 :: (rpN 7 (ob c3) (ob o34 :: ob o35 :: ob c3 :: ob c4 :: ob c4 :: ob c5 :: ob c5 :: ob c5 :: (rpN 4 (ob c6) (ob o36 :: ob o37 :: ob c6 :: ob c7 :: ob c7 :: ob c8 :: ob c8 :: ob c9 :: ob c9 :: ob c9 :: ob c10 :: ob c10 :: ob c10 :: ob c11 :: ob c11 :: ob c11 :: ob c12 :: ob c12 :: ob c13 :: ob c13 :: ob c13 :: ob c14 :: ob c14 :: ob c14 :: (rpN 12 oF [])))))) (by kernel_rfl) (LeV.refl _)
              ·obtain rfl := someE hf0
               exact awpEnd ((xLend (P := Try.prog) TTab [] (lentCall (hasCall hC h_law10_list (x := (r_15.1, r_15.2.2, ([0, 0, 0] : List Int), 0)) h25)) 174).or ((xLend (P := Try.prog) TTab [] (lentCall (hasCall hC h_law10_pairs (x := (r_14.1, ([(Arr2.mk 0 0), (Arr2.mk 0 3), (Arr2.mk 1 1), (Arr2.mk 2 2)] : List (Arr2 Int)))) h24)) 161).or ((xLend (P := Try.prog) TTab [] (lentCall (hasCall hC h_law10_list (x := (r_12.1, r_12.2.2, ([] : List Int), 0)) h23)) 142).or X0))) TTab_ok hC hm hE 4000 (hs := (rpN 15 bT (.l (([(Arr2.mk 0 0), (Arr2.mk 0 3), (Arr2.mk 1 1), (Arr2.mk 2 2)]).map F0_) :: (rpN 10 bT (.l (([0, 0, 0]).map (eI .i64)) :: (rpN 16 bT (rpN 18 bF []))))))) (x := (B false)) (ob o33 :: ob c0 :: ob c0 :: ob c0 :: ob c1 :: ob c1 :: ob c2 :: ob c2 :: ob c2 :: (rpN 7 (ob c3) (ob o34 :: ob o35 :: ob c3 :: ob c4 :: ob c4 :: ob c5 :: ob c5 :: ob c5 :: (rpN 4 (ob c6) (ob o36 :: ob o37 :: ob c6 :: ob c7 :: ob c7 :: ob c8 :: ob c8 :: ob c9 :: ob c9 :: ob c9 :: ob c10 :: ob c10 :: ob c10 :: ob c11 :: ob c11 :: ob c11 :: ob c12 :: ob c12 :: ob c13 :: ob c13 :: ob c13 :: (rpN 15 oF [])))))) (by kernel_rfl) (LeV.refl _)
             ·obtain rfl := someE hf0
              exact awpEnd ((xLend (P := Try.prog) TTab [] (lentCall (hasCall hC h_law10_list (x := (r_15.1, r_15.2.2, ([0, 0, 0] : List Int), 0)) h25)) 174).or ((xLend (P := Try.prog) TTab [] (lentCall (hasCall hC h_law10_pairs (x := (r_14.1, ([(Arr2.mk 0 0), (Arr2.mk 0 3), (Arr2.mk 1 1), (Arr2.mk 2 2)] : List (Arr2 Int)))) h24)) 161).or ((xLend (P := Try.prog) TTab [] (lentCall (hasCall hC h_law10_list (x := (r_12.1, r_12.2.2, ([] : List Int), 0)) h23)) 142).or X0))) TTab_ok hC hm hE 4000 (hs := (rpN 15 bT (.l (([(Arr2.mk 0 0), (Arr2.mk 0 3), (Arr2.mk 1 1), (Arr2.mk 2 2)]).map F0_) :: (rpN 10 bT (.l (([0, 0, 0]).map (eI .i64)) :: (rpN 14 bT (rpN 20 bF []))))))) (x := (B false)) (ob o33 :: ob c0 :: ob c0 :: ob c0 :: ob c1 :: ob c1 :: ob c2 :: ob c2 :: ob c2 :: (rpN 7 (ob c3) (ob o34 :: ob o35 :: ob c3 :: ob c4 :: ob c4 :: ob c5 :: ob c5 :: ob c5 :: (rpN 4 (ob c6) (ob o36 :: ob o37 :: ob c6 :: ob c7 :: ob c7 :: ob c8 :: ob c8 :: ob c9 :: ob c9 :: ob c9 :: ob c10 :: ob c10 :: ob c10 :: ob c11 :: ob c11 :: ob c11 :: ob c12 :: ob c12 :: (rpN 18 oF [])))))) (by kernel_rfl) (LeV.refl _)
            ·obtain rfl := someE hf0
             exact awpEnd ((xLend (P := Try.prog) TTab [] (lentCall (hasCall hC h_law10_list (x := (r_15.1, r_15.2.2, ([0, 0, 0] : List Int), 0)) h25)) 174).or ((xLend (P := Try.prog) TTab [] (lentCall (hasCall hC h_law10_pairs (x := (r_14.1, ([(Arr2.mk 0 0), (Arr2.mk 0 3), (Arr2.mk 1 1), (Arr2.mk 2 2)] : List (Arr2 Int)))) h24)) 161).or ((xLend (P := Try.prog) TTab [] (lentCall (hasCall hC h_law10_list (x := (r_12.1, r_12.2.2, ([] : List Int), 0)) h23)) 142).or X0))) TTab_ok hC hm hE 4000 (hs := (rpN 15 bT (.l (([(Arr2.mk 0 0), (Arr2.mk 0 3), (Arr2.mk 1 1), (Arr2.mk 2 2)]).map F0_) :: (rpN 10 bT (.l (([0, 0, 0]).map (eI .i64)) :: (rpN 11 bT (rpN 23 bF []))))))) (x := (B false)) (ob o33 :: ob c0 :: ob c0 :: ob c0 :: ob c1 :: ob c1 :: ob c2 :: ob c2 :: ob c2 :: (rpN 7 (ob c3) (ob o34 :: ob o35 :: ob c3 :: ob c4 :: ob c4 :: ob c5 :: ob c5 :: ob c5 :: (rpN 4 (ob c6) (ob o36 :: ob o37 :: ob c6 :: ob c7 :: ob c7 :: ob c8 :: ob c8 :: ob c9 :: ob c9 :: ob c9 :: ob c10 :: ob c10 :: ob c10 :: ob c11 :: ob c11 :: ob c11 :: (rpN 20 oF [])))))) (by kernel_rfl) (LeV.refl _)
           ·obtain rfl := someE hf0
            exact awpEnd ((xLend (P := Try.prog) TTab [] (lentCall (hasCall hC h_law10_list (x := (r_15.1, r_15.2.2, ([0, 0, 0] : List Int), 0)) h25)) 174).or ((xLend (P := Try.prog) TTab [] (lentCall (hasCall hC h_law10_pairs (x := (r_14.1, ([(Arr2.mk 0 0), (Arr2.mk 0 3), (Arr2.mk 1 1), (Arr2.mk 2 2)] : List (Arr2 Int)))) h24)) 161).or ((xLend (P := Try.prog) TTab [] (lentCall (hasCall hC h_law10_list (x := (r_12.1, r_12.2.2, ([] : List Int), 0)) h23)) 142).or X0))) TTab_ok hC hm hE 4000 (hs := (rpN 15 bT (.l (([(Arr2.mk 0 0), (Arr2.mk 0 3), (Arr2.mk 1 1), (Arr2.mk 2 2)]).map F0_) :: (rpN 10 bT (.l (([0, 0, 0]).map (eI .i64)) :: (rpN 8 bT (rpN 26 bF []))))))) (x := (B false)) (ob o33 :: ob c0 :: ob c0 :: ob c0 :: ob c1 :: ob c1 :: ob c2 :: ob c2 :: ob c2 :: (rpN 7 (ob c3) (ob o34 :: ob o35 :: ob c3 :: ob c4 :: ob c4 :: ob c5 :: ob c5 :: ob c5 :: (rpN 4 (ob c6) (ob o36 :: ob o37 :: ob c6 :: ob c7 :: ob c7 :: ob c8 :: ob c8 :: ob c9 :: ob c9 :: ob c9 :: ob c10 :: ob c10 :: ob c10 :: (rpN 23 oF [])))))) (by kernel_rfl) (LeV.refl _)
          ·obtain rfl := someE hf0
           exact awpEnd ((xLend (P := Try.prog) TTab [] (lentCall (hasCall hC h_law10_list (x := (r_15.1, r_15.2.2, ([0, 0, 0] : List Int), 0)) h25)) 174).or ((xLend (P := Try.prog) TTab [] (lentCall (hasCall hC h_law10_pairs (x := (r_14.1, ([(Arr2.mk 0 0), (Arr2.mk 0 3), (Arr2.mk 1 1), (Arr2.mk 2 2)] : List (Arr2 Int)))) h24)) 161).or ((xLend (P := Try.prog) TTab [] (lentCall (hasCall hC h_law10_list (x := (r_12.1, r_12.2.2, ([] : List Int), 0)) h23)) 142).or X0))) TTab_ok hC hm hE 4000 (hs := (rpN 15 bT (.l (([(Arr2.mk 0 0), (Arr2.mk 0 3), (Arr2.mk 1 1), (Arr2.mk 2 2)]).map F0_) :: (rpN 10 bT (.l (([0, 0, 0]).map (eI .i64)) :: (rpN 5 bT (rpN 29 bF []))))))) (x := (B false)) (ob o33 :: ob c0 :: ob c0 :: ob c0 :: ob c1 :: ob c1 :: ob c2 :: ob c2 :: ob c2 :: (rpN 7 (ob c3) (ob o34 :: ob o35 :: ob c3 :: ob c4 :: ob c4 :: ob c5 :: ob c5 :: ob c5 :: (rpN 4 (ob c6) (ob o36 :: ob o37 :: ob c6 :: ob c7 :: ob c7 :: ob c8 :: ob c8 :: ob c9 :: ob c9 :: ob c9 :: (rpN 26 oF [])))))) (by kernel_rfl) (LeV.refl _)
         ·obtain rfl := someE hf0
          exact awpEnd ((xLend (P := Try.prog) TTab [] (lentCall (hasCall hC h_law10_list (x := (r_15.1, r_15.2.2, ([0, 0, 0] : List Int), 0)) h25)) 174).or ((xLend (P := Try.prog) TTab [] (lentCall (hasCall hC h_law10_pairs (x := (r_14.1, ([(Arr2.mk 0 0), (Arr2.mk 0 3), (Arr2.mk 1 1), (Arr2.mk 2 2)] : List (Arr2 Int)))) h24)) 161).or ((xLend (P := Try.prog) TTab [] (lentCall (hasCall hC h_law10_list (x := (r_12.1, r_12.2.2, ([] : List Int), 0)) h23)) 142).or X0))) TTab_ok hC hm hE 4000 (hs := (rpN 15 bT (.l (([(Arr2.mk 0 0), (Arr2.mk 0 3), (Arr2.mk 1 1), (Arr2.mk 2 2)]).map F0_) :: (rpN 10 bT (.l (([0, 0, 0]).map (eI .i64)) :: bT :: bT :: bT :: (rpN 31 bF [])))))) (x := (B false)) (ob o33 :: ob c0 :: ob c0 :: ob c0 :: ob c1 :: ob c1 :: ob c2 :: ob c2 :: ob c2 :: (rpN 7 (ob c3) (ob o34 :: ob o35 :: ob c3 :: ob c4 :: ob c4 :: ob c5 :: ob c5 :: ob c5 :: (rpN 4 (ob c6) (ob o36 :: ob o37 :: ob c6 :: ob c7 :: ob c7 :: ob c8 :: ob c8 :: (rpN 29 oF [])))))) (by kernel_rfl) (LeV.refl _)
        ·obtain rfl := someE hf0
         exact awpEnd ((xLend (P := Try.prog) TTab [] (lentCall (hasCall hC h_law10_list (x := (r_15.1, r_15.2.2, ([0, 0, 0] : List Int), 0)) h25)) 174).or ((xLend (P := Try.prog) TTab [] (lentCall (hasCall hC h_law10_pairs (x := (r_14.1, ([(Arr2.mk 0 0), (Arr2.mk 0 3), (Arr2.mk 1 1), (Arr2.mk 2 2)] : List (Arr2 Int)))) h24)) 161).or ((xLend (P := Try.prog) TTab [] (lentCall (hasCall hC h_law10_list (x := (r_12.1, r_12.2.2, ([] : List Int), 0)) h23)) 142).or X0))) TTab_ok hC hm hE 4000 (hs := (rpN 15 bT (.l (([(Arr2.mk 0 0), (Arr2.mk 0 3), (Arr2.mk 1 1), (Arr2.mk 2 2)]).map F0_) :: (rpN 10 bT (.l (([0, 0, 0]).map (eI .i64)) :: bT :: (rpN 33 bF [])))))) (x := (B false)) (ob o33 :: ob c0 :: ob c0 :: ob c0 :: ob c1 :: ob c1 :: ob c2 :: ob c2 :: ob c2 :: (rpN 7 (ob c3) (ob o34 :: ob o35 :: ob c3 :: ob c4 :: ob c4 :: ob c5 :: ob c5 :: ob c5 :: (rpN 4 (ob c6) (ob o36 :: ob o37 :: ob c6 :: ob c7 :: ob c7 :: (rpN 31 oF [])))))) (by kernel_rfl) (LeV.refl _)
       ·obtain rfl := someE hf0
        exact awpEnd ((xLend (P := Try.prog) TTab [] (lentCall (hasCall hC h_law10_pairs (x := (r_14.1, ([(Arr2.mk 0 0), (Arr2.mk 0 3), (Arr2.mk 1 1), (Arr2.mk 2 2)] : List (Arr2 Int)))) h24)) 161).or ((xLend (P := Try.prog) TTab [] (lentCall (hasCall hC h_law10_list (x := (r_12.1, r_12.2.2, ([] : List Int), 0)) h23)) 142).or X0)) TTab_ok hC hm hE 4000 (hs := (rpN 15 bT (.l (([(Arr2.mk 0 0), (Arr2.mk 0 3), (Arr2.mk 1 1), (Arr2.mk 2 2)]).map F0_) :: (rpN 6 bT (rpN 38 bF []))))) (x := (B false)) (ob o33 :: ob c0 :: ob c0 :: ob c0 :: ob c1 :: ob c1 :: ob c2 :: ob c2 :: ob c2 :: (rpN 7 (ob c3) (ob o34 :: ob o35 :: ob c3 :: ob c4 :: ob c4 :: ob c5 :: ob c5 :: ob c5 :: (rpN 5 (ob c6) (rpN 33 oF []))))) (by kernel_rfl) (LeV.refl _)
      ·obtain rfl := someE hf0
       exact awpEnd ((xLend (P := Try.prog) TTab [] (lentCall (hasCall hC h_law10_pairs (x := (r_14.1, ([(Arr2.mk 0 0), (Arr2.mk 0 3), (Arr2.mk 1 1), (Arr2.mk 2 2)] : List (Arr2 Int)))) h24)) 161).or ((xLend (P := Try.prog) TTab [] (lentCall (hasCall hC h_law10_list (x := (r_12.1, r_12.2.2, ([] : List Int), 0)) h23)) 142).or X0)) TTab_ok hC hm hE 4000 (hs := (rpN 15 bT (.l (([(Arr2.mk 0 0), (Arr2.mk 0 3), (Arr2.mk 1 1), (Arr2.mk 2 2)]).map F0_) :: bT :: bT :: bT :: (rpN 41 bF [])))) (x := (B false)) (ob o33 :: ob c0 :: ob c0 :: ob c0 :: ob c1 :: ob c1 :: ob c2 :: ob c2 :: ob c2 :: (rpN 7 (ob c3) (ob o34 :: ob o35 :: ob c3 :: ob c4 :: ob c4 :: ob c5 :: ob c5 :: ob c5 :: (rpN 38 oF [])))) (by kernel_rfl) (LeV.refl _)
     ·obtain rfl := someE hf0
      exact awpEnd ((xLend (P := Try.prog) TTab [] (lentCall (hasCall hC h_law10_pairs (x := (r_14.1, ([(Arr2.mk 0 0), (Arr2.mk 0 3), (Arr2.mk 1 1), (Arr2.mk 2 2)] : List (Arr2 Int)))) h24)) 161).or ((xLend (P := Try.prog) TTab [] (lentCall (hasCall hC h_law10_list (x := (r_12.1, r_12.2.2, ([] : List Int), 0)) h23)) 142).or X0)) TTab_ok hC hm hE 4000 (hs := (rpN 15 bT (.l (([(Arr2.mk 0 0), (Arr2.mk 0 3), (Arr2.mk 1 1), (Arr2.mk 2 2)]).map F0_) :: bT :: (rpN 43 bF [])))) (x := (B false)) (ob o33 :: ob c0 :: ob c0 :: ob c0 :: ob c1 :: ob c1 :: ob c2 :: ob c2 :: ob c2 :: (rpN 7 (ob c3) (ob o34 :: ob o35 :: ob c3 :: ob c4 :: ob c4 :: (rpN 41 oF [])))) (by kernel_rfl) (LeV.refl _)
    ·obtain rfl := someE hf0
     exact awpEnd ((xLend (P := Try.prog) TTab [] (lentCall (hasCall hC h_law10_list (x := (r_12.1, r_12.2.2, ([] : List Int), 0)) h23)) 142).or X0) TTab_ok hC hm hE 4000 (hs := (rpN 8 bT (rpN 51 bF []))) (x := (B false)) (ob o33 :: ob c0 :: ob c0 :: ob c0 :: ob c1 :: ob c1 :: ob c2 :: ob c2 :: ob c2 :: (rpN 8 (ob c3) (rpN 43 oF []))) (by kernel_rfl) (LeV.refl _)
   ·obtain rfl := someE hf0
    exact awpEnd ((xLend (P := Try.prog) TTab [] (lentCall (hasCall hC h_law10_list (x := (r_12.1, r_12.2.2, ([] : List Int), 0)) h23)) 142).or X0) TTab_ok hC hm hE 4000 (hs := (rpN 5 bT (rpN 54 bF []))) (x := (B false)) (ob o33 :: ob c0 :: ob c0 :: ob c0 :: ob c1 :: ob c1 :: ob c2 :: ob c2 :: ob c2 :: (rpN 51 oF [])) (by kernel_rfl) (LeV.refl _)
  ·obtain rfl := someE hf0
   exact awpEnd ((xLend (P := Try.prog) TTab [] (lentCall (hasCall hC h_law10_list (x := (r_12.1, r_12.2.2, ([] : List Int), 0)) h23)) 142).or X0) TTab_ok hC hm hE 4000 (hs := (bT :: bT :: bT :: (rpN 56 bF []))) (x := (B false)) (ob o33 :: ob c0 :: ob c0 :: ob c0 :: ob c1 :: ob c1 :: (rpN 54 oF [])) (by kernel_rfl) (LeV.refl _)
 ·obtain rfl := someE hf0
  exact awpEnd ((xLend (P := Try.prog) TTab [] (lentCall (hasCall hC h_law10_list (x := (r_12.1, r_12.2.2, ([] : List Int), 0)) h23)) 142).or X0) TTab_ok hC hm hE 4000 (hs := (rpN 59 bF [])) (x := (B false)) (ob o33 :: ob c0 :: ob c0 :: ob c0 :: (rpN 56 oF [])) (by kernel_rfl) (LeV.refl _)
end Go.Own
