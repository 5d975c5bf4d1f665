/- Walks, further. -/
import Derived.Test.YtdnenbcldibnoaaPartF
import Derived.Test.YtdnenbcldibnoaaPartC
import Derived.Test.YtdnenbcldibnoaaPartE
set_option linter.unusedVariables false
set_option linter.unusedSimpArgs false
namespace Go.Own
open Go.Proofs
set_option linter.unusedVariables false
noncomputable def bd_ref10_Differ : Code := (Try.f32.body).getD .skip
noncomputable def sp_ref10_Differ : Spec := spF (α := S_api_Machine × S_api_Machine) (ρ := List Int × Bool) 32 (fun x => [F20_ x.1, F20_ x.2]) (fun r => .tup [F3_ r.1, eB r.2]) (fun x => ref10_Differ x.1 x.2) [] (by
    rintro ⟨a0, a1⟩ ⟨b0, b1⟩ h
    simp only [List.cons.injEq, and_true] at h
    have e0 := EncI.inj (f := F20_) _ _ h.1
    have e1 := EncI.inj (f := F20_) _ _ h.2
    subst e0 e1
    rfl)
abbrev ST_ref10_Differ_J2 (w_ : List Int) : List (Nat × T) := [(10, .own (eOs 1 false (eI .i64) w_))]
abbrev ST_ref10_Differ_J5 (r_ : S_api_Machine) (s_ : Int) (t_ : Int) (n_1 : Int) (w_1 : List Int) (r_1 : List (List Bool)) (i_ : Int) (x82 : Int) (x83 : Bool) (x84 : Bool) (x88 : Bool) (x89 : Bool) (x99 : Bool) : List (Nat × T) := [(6, .own (.box (.agg [I r_.Inputs, I r_.Outputs, eSl 1 false F11_ r_.Rows]))), (7, .d (I s_)), (8, .d (I t_)), (9, .d (I (w64 (n_1 - 1)))), (10, .own (eOs 1 false (eI .i64) w_1)), (11, .own (eOs 1 false (eOs 1 true eB) r_1)), (12, .d (I i_)), (82, .d (I x82)), (83, .d (B x83)), (84, .d (B x84)), (88, .d (B x88)), (89, .d (B x89)), (99, .d (B x99))]
abbrev ST_ref10_Differ_L4 (r_ : S_api_Machine) (s_ : Int) (t_ : Int) (n_1 : Int) (w_1 : List Int) (r_1 : List (List Bool)) (i_ : Int) : List (Nat × T) := [(6, .own (.box (.agg [I r_.Inputs, I r_.Outputs, eSl 1 false F11_ r_.Rows]))), (7, .d (I s_)), (8, .d (I t_)), (9, .d (I (w64 (n_1 - 1)))), (10, .own (eOs 1 false (eI .i64) w_1)), (11, .own (eOs 1 false (eOs 1 true eB) r_1)), (12, .d (I i_))]
abbrev ST_ref10_Differ_L3 (r_ : S_api_Machine) (s_ : Int) (t_ : Int) (n_1 : Int) (w_1 : List Int) : List (Nat × T) := [(6, .own (.box (.agg [I r_.Inputs, I r_.Outputs, eSl 1 false F11_ r_.Rows]))), (7, .d (I s_)), (8, .d (I t_)), (9, .d (I n_1)), (10, .own (eOs 1 false (eI .i64) w_1))]
abbrev ST_ref10_Differ_J1 (a_ : S_api_Machine) (r_ : S_api_Machine) (n_ : Int) : List (Nat × T) := [(6, .own (.box (.agg [I r_.Inputs, I r_.Outputs, eSl 1 false F11_ r_.Rows]))), (7, .d (I 0)), (8, .d (I ((a_.Rows.length : Nat) : Int))), (9, .d (I n_))]
abbrev ST_ref10_Differ_L6 (a_ : S_api_Machine) (r_ : S_api_Machine) (n_2 : Int) : List (Nat × T) := [(6, .own (.box (.agg [I r_.Inputs, I r_.Outputs, eSl 1 false F11_ r_.Rows]))), (7, .d (I 0)), (8, .d (I ((a_.Rows.length : Nat) : Int))), (9, .d (I n_2))]
set_option maxRecDepth 100000 in
set_option maxHeartbeats 8000000 in
theorem w_ref10_Differ {ctr : Ctr} (hC : CtrOk Try.prog ctr) (hm : Try.prog.follows .mixedOrders = true) (h_ref10_Beside : ctr.Has sp_ref10_Beside) (h_ref07_Marked : ctr.Has sp_ref07_Marked) : sp_ref10_Differ.Ok Try.prog := by
  refine spF_ok ?_
  rintro ⟨a_, b_⟩ r0 hf0
  try unfold ref10_Differ at hf0
  refine callOk_h (tt := TTab) (keep := false) (rs := [(4, none), (5, none)]) (n := ⟨110, []⟩) (body := bd_ref10_Differ) TTab_ok Try.func32 rfl (by kernel_rfl) rfl rfl (by show (2 : Nat) ≤ 110; decide) fun E hE => ?_
  obtain ⟨r_, h0, hf0⟩ := bindE hf0
  refine awpAt X0 TTab_ok hC hm [6, 7, 8, 9] 4000 [.g [], .a (F20_ r_), .a (.atom (.int .i64 ((a_.Rows.length : Nat) : Int))), .cut 1] (sub [1, 1, 1, 1] bd_ref10_Differ) (frs [1, 1, 1, 1] [] bd_ref10_Differ []) [(6, .own (.box (.agg [I r_.Inputs, I r_.Outputs, eSl 1 false F11_ r_.Rows]))), (7, .d (I 0)), (8, .d (I ((a_.Rows.length : Nat) : Int))), (9, .d (I 0))] [ob (hasG h_ref10_Beside), ob (hasF h_ref10_Beside (x := (a_, b_)) h0 (loC F20_ a_ <| loC F20_ b_ <| loN)), ob (lnM F11_ a_.Rows)] (by kernel_rfl) fun st0 h0 => ?_
  refine awpJoin' (X := Int) (x := (sub [1, 1, 1, 1, 2] bd_ref10_Differ)) (y := (sub [1, 1, 1, 1, 1] bd_ref10_Differ)) (by kernel_rfl) [6, 7, 8, 9] [6, 7, 8, 9] _ h0 (fun z => ref10_Differ_J1 a_ r_ z = some r0) (fun z => ST_ref10_Differ_J1 a_ r_ z) ?_ fun J1 hJ1 => ?_
  · rintro n_ hf0
    unfold ref10_Differ_J1 at hf0
    rcases bifE hf0 with ⟨c0, hf0⟩ | ⟨c0, hf0⟩
    · obtain rfl := someE hf0
      exact awpEnd X0 TTab_ok hC hm hE 4000 (hs := [.a (.atom (.int .i64 ((r_.Rows.length : Nat) : Int))), .b true, .l ([].map (eI .i64))]) (x := (.tup [eSl 1 true (eI .i64) [], B false])) [ob (lnM F11_ r_.Rows), ob (c0), ob (shM (eI .i64) (eI .i64) [])] (by kernel_rfl) (show LeV (.tup [eSl 1 true (eI .i64) [], B false]) (.tup [eSl 1 false (eI .i64) ([] : List Int), B false]) from inferInstance)
    · refine awpAt X0 TTab_ok hC hm [6, 7, 8, 9, 10] 4000 [.a (.atom (.int .i64 ((r_.Rows.length : Nat) : Int))), .b false, .cut 1] (sub [1, 1, 1, 1, 1, 1, 1] bd_ref10_Differ) (frs [1, 1, 1, 1, 1, 1, 1] [] bd_ref10_Differ []) [(6, .own (.box (.agg [I r_.Inputs, I r_.Outputs, eSl 1 false F11_ r_.Rows]))), (7, .d (I 0)), (8, .d (I ((a_.Rows.length : Nat) : Int))), (9, .d (I n_)), (10, .own (eOs 1 true (eI .i64) []))] [ob (lnM F11_ r_.Rows), ob (c0)] (by kernel_rfl) fun st0 h0 => ?_
      refine awpJoin' (X := List Int) (x := (sub [1, 1, 1, 1, 1, 1, 1, 2] bd_ref10_Differ)) (y := (sub [1, 1, 1, 1, 1, 1, 1, 1] bd_ref10_Differ)) (by kernel_rfl) [10] [6, 7, 8, 9, 10] _ h0 (fun z => ref10_Differ_J2 z = some r0) (fun z => ST_ref10_Differ_J2 z) ?_ fun J2 hJ2 => ?_
      · rintro w_ hf0
        unfold ref10_Differ_J2 at hf0
        obtain rfl := someE hf0
        exact awpEnd X0 TTab_ok hC hm hE 4000 (hs := [.l (w_.map (eI .i64))]) (x := (.tup [eSl 1 false (eI .i64) w_, B true])) [ob (shM (eI .i64) (eI .i64) w_)] (by kernel_rfl) (show LeV (.tup [eSl 1 false (eI .i64) w_, B true]) (.tup [eSl 1 false (eI .i64) w_, B true]) from inferInstance)
      · obtain ⟨t3, ht3, hf0⟩ := bindE hf0
        refine awpAt X0 TTab_ok hC hm [6, 7, 8, 9, 10] 4000 [] (sub [1, 1, 1, 1, 1, 1, 1, 2, 0] bd_ref10_Differ) (frs [1, 1, 1, 1, 1, 1, 1, 2, 0] [J2] bd_ref10_Differ []) [(6, .own (.box (.agg [I r_.Inputs, I r_.Outputs, eSl 1 false F11_ r_.Rows]))), (7, .d (I 0)), (8, .d (I ((a_.Rows.length : Nat) : Int))), (9, .d (I n_)), (10, .own (eOs 1 true (eI .i64) []))] [] (by kernel_rfl) fun st0 h0 => ?_
        refine awpLoop' (X := (Int × Int × Int × List Int) × Nat) (c' := (sub [1, 1, 1, 1, 1, 1, 1, 2, 0, 0] bd_ref10_Differ)) (by kernel_rfl) [6, 7, 8, 9, 10] (fun x => loopN (fun s => ref10_Differ_L3 r_ s.1 s.2.1 s.2.2.1 s.2.2.2) x.2 x.1 = some t3) (fun x => x.2) (fun x => ST_ref10_Differ_L3 r_ x.1.1 x.1.2.1 x.1.2.2.1 x.1.2.2.2) ((0, ((a_.Rows.length : Nat) : Int), n_, ([] : List Int)), fuel) _ h0 inferInstance ht3 ?_
        rintro ⟨⟨s_, t_, n_1, w_1⟩, n3⟩ hn3 J3 hJ3
        obtain ⟨m3, lr1, rfl, hf1, hl1⟩ := loopE hn3
        try unfold ref10_Differ_L3 at hf1
        rcases bifE hf1 with ⟨c1, hf1⟩ | ⟨c1, hf1⟩
        · obtain ⟨r_1, h1, hf1⟩ := bindE hf1
          obtain ⟨t4, ht4, hf1⟩ := bindE hf1
          refine awpAt X0 TTab_ok hC hm [6, 7, 8, 9, 10, 11, 12] 4000 [.b true, .g [], .a (F5_ r_1)] (sub [1, 1, 1, 1, 1, 1, 1, 2, 0, 0, 1, 0, 1, 1, 1, 0] bd_ref10_Differ) (frs [1, 1, 1, 1, 1, 1, 1, 2, 0, 0, 1, 0, 1, 1, 1, 0] [J2, J3] bd_ref10_Differ []) [(6, .own (.box (.agg [I r_.Inputs, I r_.Outputs, eSl 1 false F11_ r_.Rows]))), (7, .d (I s_)), (8, .d (I t_)), (9, .d (I (w64 (n_1 - 1)))), (10, .own (eOs 1 false (eI .i64) w_1)), (11, .own (eOs 1 false (eOs 1 true eB) r_1)), (12, .d (I 0))] [ob (c1), ob (hasG h_ref07_Marked), ob (hasF h_ref07_Marked (x := (r_, w64 (n_1 - 1))) h1 (loC F20_ r_ <| loC (eI .i64) (w64 (n_1 - 1)) <| loN))] (by kernel_rfl) fun st0 h0 => ?_
          refine awpLoop' (X := Int × Nat) (c' := (sub [1, 1, 1, 1, 1, 1, 1, 2, 0, 0, 1, 0, 1, 1, 1, 0, 0] bd_ref10_Differ)) (by kernel_rfl) [6, 7, 8, 9, 10, 11, 12] (fun x => loopN (fun s => ref10_Differ_L4 r_ s_ t_ n_1 w_1 r_1 s) x.2 x.1 = some t4) (fun x => x.2) (fun x => ST_ref10_Differ_L4 r_ s_ t_ n_1 w_1 r_1 x.1) (0, fuel) _ h0 inferInstance ht4 ?_
          rintro ⟨i_, n4⟩ hn4 J4 hJ4
          obtain ⟨m4, lr2, rfl, hf2, hl2⟩ := loopE hn4
          try unfold ref10_Differ_L4 at hf2
          rcases bifE hf2 with ⟨c2, hf2⟩ | ⟨c2, hf2⟩
          · refine awpAt X0 TTab_ok hC hm [6, 7, 8, 9, 10, 11, 12] 4000 [.b true, .cut 0] (sub [1, 1, 1, 1, 1, 1, 1, 2, 0, 0, 1, 0, 1, 1, 1, 0, 0, 1] bd_ref10_Differ) (frs [1, 1, 1, 1, 1, 1, 1, 2, 0, 0, 1, 0, 1, 1, 1, 0, 0, 1] [J2, J3, J4] bd_ref10_Differ []) [(6, .own (.box (.agg [I r_.Inputs, I r_.Outputs, eSl 1 false F11_ r_.Rows]))), (7, .d (I s_)), (8, .d (I t_)), (9, .d (I (w64 (n_1 - 1)))), (10, .own (eOs 1 false (eI .i64) w_1)), (11, .own (eOs 1 false (eOs 1 true eB) r_1)), (12, .d (I i_))] [ob (c2)] (by kernel_rfl) fun st0 h0 => ?_
            refine awpJoin' (X := Int × Bool × Bool × Bool × Bool × Bool) (x := (sub [1, 1, 1, 1, 1, 1, 1, 2, 0, 0, 1, 0, 1, 1, 1, 0, 0, 1, 2] bd_ref10_Differ)) (y := (sub [1, 1, 1, 1, 1, 1, 1, 2, 0, 0, 1, 0, 1, 1, 1, 0, 0, 1, 1] bd_ref10_Differ)) (by kernel_rfl) [6, 7, 8, 9, 10, 11, 12, 82, 83, 84, 88, 89, 99] [6, 7, 8, 9, 10, 11, 12] _ h0 (fun z => ref10_Differ_J5 i_ z.1 z.2.1 z.2.2.1 z.2.2.2.1 z.2.2.2.2.1 z.2.2.2.2.2 = some lr2) (fun z => ST_ref10_Differ_J5 r_ s_ t_ n_1 w_1 r_1 i_ z.1 z.2.1 z.2.2.1 z.2.2.2.1 z.2.2.2.2.1 z.2.2.2.2.2) ?_ fun J5 hJ5 => ?_
            · rintro ⟨x82, x83, x84, x88, x89, x99⟩ hf2
              unfold ref10_Differ_J5 at hf2
              obtain rfl := someE hf2
              exact awpBack X0 TTab_ok hC hm [6, 7, 8, 9, 10, 11, 12] 4000 [] J4 [(6, .own (.box (.agg [I r_.Inputs, I r_.Outputs, eSl 1 false F11_ r_.Rows]))), (7, .d (I s_)), (8, .d (I t_)), (9, .d (I (w64 (n_1 - 1)))), (10, .own (eOs 1 false (eI .i64) w_1)), (11, .own (eOs 1 false (eOs 1 true eB) r_1)), (12, .d (I (w64 (i_ + 1))))] [] (by kernel_rfl) fun st0 h0 => hJ4 st0 _ (w64 (i_ + 1), m4) hl2 (Nat.lt_succ_self m4) h0 inferInstance
            · obtain ⟨Row_e, h2, hf2⟩ := bindE hf2
              obtain ⟨Row_e_e, h3, hf2⟩ := bindE hf2
              obtain ⟨Row_e1, h4, hf2⟩ := bindE hf2
              obtain ⟨Row_e_e1, h5, hf2⟩ := bindE hf2
              rcases bifE hf2 with ⟨c3, hf2⟩ | ⟨c3, hf2⟩
              · obtain ⟨g0, hf2⟩ := gdE hf2
                obtain rfl := someE hf2
                obtain rfl := hl2
                obtain rfl := someE hf1
                exact awpBack X0 TTab_ok hC hm [6, 7, 8, 9, 10] 4000 [.a (F11_ Row_e), .a (F8_ Row_e_e), .a (F11_ Row_e1), .a (F8_ Row_e_e1), .b true, .b true, .b true, .b true, .b true, .b true, .b true, .b true, .b true, .b true, .l ((w_1 ++ ([i_] : List Int)).map (eI .i64))] J3 [(6, .own (.box (.agg [I r_.Inputs, I r_.Outputs, eSl 1 false F11_ r_.Rows]))), (7, .d (I Row_e_e.To)), (8, .d (I Row_e_e1.To)), (9, .d (I (w64 (n_1 - 1)))), (10, .own (eOs 1 false (eI .i64) (w_1 ++ ([i_] : List Int))))] [ob (i0 h2), ob (iM F11_ h2), ob (i0 h3), ob (iM F8_ h3), ob (i0 h4), ob (iM F11_ h4), ob (i0 h5), ob (iM F8_ h5), ob (c3), ob (c3), ob (c3), ob (c3), ob (c3), ob (c3), ob (c3), ob (c3), ob (Eq.refl true), ob (dM (eI .i64) ([i_] : List Int)), ob (dM (eI .i64) ([i_] : List Int)), ob (aL (eI .i64) (eI .i64) g0), ob (aM (eI .i64) w_1 ([i_] : List Int))] (by kernel_rfl) fun st0 h0 => hJ3 st0 _ ((Row_e_e.To, Row_e_e1.To, w64 (n_1 - 1), (w_1 ++ ([i_] : List Int))), m3) hl1 (Nat.lt_succ_self m3) h0 inferInstance
              · rcases bifE hf2 with ⟨c4, hf2⟩ | ⟨c4, hf2⟩
                · rcases bifE hf2 with ⟨c5, hf2⟩ | ⟨c5, hf2⟩
                  · obtain ⟨r__e, h6, hf2⟩ := bindE hf2
                    obtain ⟨r__e_e, h7, hf2⟩ := bindE hf2
                    rcases bifE hf2 with ⟨c6, hf2⟩ | ⟨c6, hf2⟩
                    · obtain ⟨g1, hf2⟩ := gdE hf2
                      obtain rfl := someE hf2
                      obtain rfl := hl2
                      obtain rfl := someE hf1
                      exact awpBack X0 TTab_ok hC hm [6, 7, 8, 9, 10] 4000 [.a (F11_ Row_e), .a (F8_ Row_e_e), .a (F11_ Row_e1), .a (F8_ Row_e_e1), .b false, .b false, .b false, .b false, .b true, .b true, .b true, .b false, .b true, .b false, .b true, .b true, .b true, .b true, .b true, .a ((eOs 1 true eB) r__e), .b true, .b true, .b true, .a ((eOs 1 true eB) r__e), .b true, .a ((eOs 1 true eB) r__e), .a (eB r__e_e), .b false, .b true, .b false, .b true, .b true, .l ((w_1 ++ ([i_] : List Int)).map (eI .i64))] J3 [(6, .own (.box (.agg [I r_.Inputs, I r_.Outputs, eSl 1 false F11_ r_.Rows]))), (7, .d (I Row_e_e.To)), (8, .d (I Row_e_e1.To)), (9, .d (I (w64 (n_1 - 1)))), (10, .own (eOs 1 false (eI .i64) (w_1 ++ ([i_] : List Int))))] [ob (i0 h2), ob (iM F11_ h2), ob (i0 h3), ob (iM F8_ h3), ob (i0 h4), ob (iM F11_ h4), ob (i0 h5), ob (iM F8_ h5), ob (c3), ob (c3), ob (c3), ob (c3), ob (c4), ob (c4), ob (c4), ob (c3), ob (c4), ob (c3), ob (c5), ob (c5), ob (c5), ob (c5), ob (iL (eOs 1 true eB) h6), ob (c5), ob (iM (eOs 1 true eB) h6), ob (c5), ob (c5), ob (c5), ob (iM (eOs 1 true eB) h6), ob (iL eB h7), ob (c5), ob (iM (eOs 1 true eB) h6), ob (iM eB h7), ob (c3), ob (c5), ob (c3), ob (c6), ob (dM (eI .i64) ([i_] : List Int)), ob (dM (eI .i64) ([i_] : List Int)), ob (aL (eI .i64) (eI .i64) g1), ob (aM (eI .i64) w_1 ([i_] : List Int))] (by kernel_rfl) fun st0 h0 => hJ3 st0 _ ((Row_e_e.To, Row_e_e1.To, w64 (n_1 - 1), (w_1 ++ ([i_] : List Int))), m3) hl1 (Nat.lt_succ_self m3) h0 inferInstance
                    · exact awpBack X0 TTab_ok hC hm [6, 7, 8, 9, 10, 11, 12, 82, 83, 84, 88, 89, 99] 4000 [.a (F11_ Row_e), .a (F8_ Row_e_e), .a (F11_ Row_e1), .a (F8_ Row_e_e1), .b false, .b false, .b false, .b false, .b true, .b true, .b true, .b false, .b true, .b false, .b true, .b true, .b true, .b true, .b true, .a ((eOs 1 true eB) r__e), .b true, .b true, .b true, .a ((eOs 1 true eB) r__e), .b true, .a ((eOs 1 true eB) r__e), .a (eB r__e_e), .b false, .b true, .b false, .b false] J5 [(6, .own (.box (.agg [I r_.Inputs, I r_.Outputs, eSl 1 false F11_ r_.Rows]))), (7, .d (I s_)), (8, .d (I t_)), (9, .d (I (w64 (n_1 - 1)))), (10, .own (eOs 1 false (eI .i64) w_1)), (11, .own (eOs 1 false (eOs 1 true eB) r_1)), (12, .d (I i_)), (82, .d (I Row_e_e.To)), (83, .d (B (decide (Row_e_e.To ≥ 0)))), (84, .d (B (decide (Row_e_e.To ≥ 0)))), (88, .d (B (decide (Row_e_e1.To ≥ 0)))), (89, .d (B (decide (Row_e_e1.To ≥ 0)))), (99, .d (B r__e_e))] [ob (i0 h2), ob (iM F11_ h2), ob (i0 h3), ob (iM F8_ h3), ob (i0 h4), ob (iM F11_ h4), ob (i0 h5), ob (iM F8_ h5), ob (c3), ob (c3), ob (c3), ob (c3), ob (c4), ob (c4), ob (c4), ob (c3), ob (c4), ob (c3), ob (c5), ob (c5), ob (c5), ob (c5), ob (iL (eOs 1 true eB) h6), ob (c5), ob (iM (eOs 1 true eB) h6), ob (c5), ob (c5), ob (c5), ob (iM (eOs 1 true eB) h6), ob (iL eB h7), ob (c5), ob (iM (eOs 1 true eB) h6), ob (iM eB h7), ob (c3), ob (c5), ob (c3), ob (c6)] (by kernel_rfl) fun st0 h0 => hJ5 st0 _ (Row_e_e.To, decide (Row_e_e.To ≥ 0), decide (Row_e_e.To ≥ 0), decide (Row_e_e1.To ≥ 0), decide (Row_e_e1.To ≥ 0), r__e_e) hf2 h0 inferInstance
                  · exact awpBack X0 TTab_ok hC hm [6, 7, 8, 9, 10, 11, 12, 82, 83, 84, 88, 89, 99] 4000 [.a (F11_ Row_e), .a (F8_ Row_e_e), .a (F11_ Row_e1), .a (F8_ Row_e_e1), .b false, .b false, .b false, .b false, .b true, .b true, .b true, .b false, .b true, .b false, .b false, .b false, .b false, .b false, .b false, .b false, .b false, .b false, .b false, .b false, .b false, .b false, .b false] J5 [(6, .own (.box (.agg [I r_.Inputs, I r_.Outputs, eSl 1 false F11_ r_.Rows]))), (7, .d (I s_)), (8, .d (I t_)), (9, .d (I (w64 (n_1 - 1)))), (10, .own (eOs 1 false (eI .i64) w_1)), (11, .own (eOs 1 false (eOs 1 true eB) r_1)), (12, .d (I i_)), (82, .d (I Row_e_e.To)), (83, .d (B (decide (Row_e_e.To ≥ 0)))), (84, .d (B (decide (Row_e_e.To ≥ 0)))), (88, .d (B (decide (Row_e_e1.To ≥ 0)))), (89, .d (B (decide (Row_e_e1.To ≥ 0)))), (99, .d (B false))] [ob (i0 h2), ob (iM F11_ h2), ob (i0 h3), ob (iM F8_ h3), ob (i0 h4), ob (iM F11_ h4), ob (i0 h5), ob (iM F8_ h5), ob (c3), ob (c3), ob (c3), ob (c3), ob (c4), ob (c4), ob (c4), ob (c3), ob (c4), ob (c3), ob (c5), ob (c5), ob (c5), ob (c5), ob (c5), ob (c5), ob (c5), ob (c5), ob (c5), ob (c3), ob (c5), ob (c3), ob (Eq.refl false)] (by kernel_rfl) fun st0 h0 => hJ5 st0 _ (Row_e_e.To, decide (Row_e_e.To ≥ 0), decide (Row_e_e.To ≥ 0), decide (Row_e_e1.To ≥ 0), decide (Row_e_e1.To ≥ 0), false) hf2 h0 inferInstance
                · exact awpBack X0 TTab_ok hC hm [6, 7, 8, 9, 10, 11, 12, 82, 83, 84, 88, 89, 99] 4000 [.a (F11_ Row_e), .a (F8_ Row_e_e), .a (F11_ Row_e1), .a (F8_ Row_e_e1), .b false, .b false, .b false, .b false, .b false, .b false, .b false, .b false, .b false, .b false, .b false, .b false, .b false, .b false, .b false, .b false, .b false, .b false, .b false, .b false, .b false, .b false, .b false] J5 [(6, .own (.box (.agg [I r_.Inputs, I r_.Outputs, eSl 1 false F11_ r_.Rows]))), (7, .d (I s_)), (8, .d (I t_)), (9, .d (I (w64 (n_1 - 1)))), (10, .own (eOs 1 false (eI .i64) w_1)), (11, .own (eOs 1 false (eOs 1 true eB) r_1)), (12, .d (I i_)), (82, .d (I Row_e_e.To)), (83, .d (B (decide (Row_e_e.To ≥ 0)))), (84, .d (B (decide (Row_e_e.To ≥ 0)))), (88, .d (B false)), (89, .d (B false)), (99, .d (B false))] [ob (i0 h2), ob (iM F11_ h2), ob (i0 h3), ob (iM F8_ h3), ob (i0 h4), ob (iM F11_ h4), ob (i0 h5), ob (iM F8_ h5), ob (c3), ob (c3), ob (c3), ob (c3), ob (c4), ob (c4), ob (c4), ob (c3), ob (c4), ob (c3), ob (Eq.refl false), ob (Eq.refl false), ob (Eq.refl false), ob (Eq.refl false), ob (Eq.refl false), ob (Eq.refl false), ob (Eq.refl false), ob (Eq.refl false), ob (Eq.refl false), ob (c3), ob (Eq.refl false), ob (c3), ob (Eq.refl false)] (by kernel_rfl) fun st0 h0 => hJ5 st0 _ (Row_e_e.To, decide (Row_e_e.To ≥ 0), decide (Row_e_e.To ≥ 0), false, false, false) hf2 h0 inferInstance
          · obtain rfl := someE hf2
            obtain rfl := hl2
            obtain rfl := someE hf1
            exact awpBack X0 TTab_ok hC hm [6, 7, 8, 9, 10] 4000 [.b false] J3 [(6, .own (.box (.agg [I r_.Inputs, I r_.Outputs, eSl 1 false F11_ r_.Rows]))), (7, .d (I s_)), (8, .d (I t_)), (9, .d (I (w64 (n_1 - 1)))), (10, .own (eOs 1 false (eI .i64) w_1))] [ob (c2)] (by kernel_rfl) fun st0 h0 => hJ3 st0 _ ((s_, t_, w64 (n_1 - 1), w_1), m3) hl1 (Nat.lt_succ_self m3) h0 inferInstance
        · obtain rfl := someE hf1
          obtain rfl := hl1
          exact awpBack X0 TTab_ok hC hm [10] 4000 [.b false] J2 [(10, .own (eOs 1 false (eI .i64) w_1))] [ob (c1)] (by kernel_rfl) fun st0 h0 => hJ2 st0 _ w_1 hf0 h0 inferInstance
  · obtain ⟨t6, ht6, hf0⟩ := bindE hf0
    refine awpAt X0 TTab_ok hC hm [6, 7, 8, 9] 4000 [] (sub [1, 1, 1, 1, 2, 0] bd_ref10_Differ) (frs [1, 1, 1, 1, 2, 0] [J1] bd_ref10_Differ []) [(6, .own (.box (.agg [I r_.Inputs, I r_.Outputs, eSl 1 false F11_ r_.Rows]))), (7, .d (I 0)), (8, .d (I ((a_.Rows.length : Nat) : Int))), (9, .d (I 0))] [] (by kernel_rfl) fun st0 h0 => ?_
    refine awpLoop' (X := Int × Nat) (c' := (sub [1, 1, 1, 1, 2, 0, 0] bd_ref10_Differ)) (by kernel_rfl) [6, 7, 8, 9] (fun x => loopN (fun s => ref10_Differ_L6 a_ r_ s) x.2 x.1 = some t6) (fun x => x.2) (fun x => ST_ref10_Differ_L6 a_ r_ x.1) (0, fuel) _ h0 inferInstance ht6 ?_
    rintro ⟨n_2, n6⟩ hn6 J6 hJ6
    obtain ⟨m6, lr1, rfl, hf1, hl1⟩ := loopE hn6
    try unfold ref10_Differ_L6 at hf1
    rcases bifE hf1 with ⟨c7, hf1⟩ | ⟨c7, hf1⟩
    · obtain ⟨r_2, h8, hf1⟩ := bindE hf1
      obtain ⟨r__e1, h9, hf1⟩ := bindE hf1
      obtain ⟨r__e_e1, h10, hf1⟩ := bindE hf1
      rcases bifE hf1 with ⟨c8, hf1⟩ | ⟨c8, hf1⟩
      · obtain rfl := someE hf1
        exact awpBack X0 TTab_ok hC hm [6, 7, 8, 9] 4000 [.a (.atom (.int .i64 ((r_.Rows.length : Nat) : Int))), .b true, .b true, .b true, .g [], .a (F5_ r_2), .b true, .b true, .b true, .a ((eOs 1 true eB) r__e1), .b true, .b true, .a ((eOs 1 true eB) r__e1), .b true, .a ((eOs 1 true eB) r__e1), .a (eB r__e_e1), .b true, .b true, .b true] J6 [(6, .own (.box (.agg [I r_.Inputs, I r_.Outputs, eSl 1 false F11_ r_.Rows]))), (7, .d (I 0)), (8, .d (I ((a_.Rows.length : Nat) : Int))), (9, .d (I (w64 (n_2 + 1))))] [ob (lnM F11_ r_.Rows), ob (c7), ob (c7), ob (c7), ob (hasG h_ref07_Marked), ob (hasF h_ref07_Marked (x := (r_, n_2)) h8 (loC F20_ r_ <| loC (eI .i64) n_2 <| loN)), ob (c7), ob (c7), ob (iL (eOs 1 true eB) h9), ob (c7), ob (iM (eOs 1 true eB) h9), ob (c7), ob (c7), ob (iM (eOs 1 true eB) h9), ob (iL eB h10), ob (c7), ob (iM (eOs 1 true eB) h9), ob (iM eB h10), ob (c7), ob (c7), ob (c8)] (by kernel_rfl) fun st0 h0 => hJ6 st0 _ (w64 (n_2 + 1), m6) hl1 (Nat.lt_succ_self m6) h0 inferInstance
      · obtain rfl := someE hf1
        obtain rfl := hl1
        exact awpBack X0 TTab_ok hC hm [6, 7, 8, 9] 4000 [.a (.atom (.int .i64 ((r_.Rows.length : Nat) : Int))), .b true, .b true, .b true, .g [], .a (F5_ r_2), .b true, .b true, .b true, .a ((eOs 1 true eB) r__e1), .b true, .b true, .a ((eOs 1 true eB) r__e1), .b true, .a ((eOs 1 true eB) r__e1), .a (eB r__e_e1), .b true, .b true, .b false] J1 [(6, .own (.box (.agg [I r_.Inputs, I r_.Outputs, eSl 1 false F11_ r_.Rows]))), (7, .d (I 0)), (8, .d (I ((a_.Rows.length : Nat) : Int))), (9, .d (I n_2))] [ob (lnM F11_ r_.Rows), ob (c7), ob (c7), ob (c7), ob (hasG h_ref07_Marked), ob (hasF h_ref07_Marked (x := (r_, n_2)) h8 (loC F20_ r_ <| loC (eI .i64) n_2 <| loN)), ob (c7), ob (c7), ob (iL (eOs 1 true eB) h9), ob (c7), ob (iM (eOs 1 true eB) h9), ob (c7), ob (c7), ob (iM (eOs 1 true eB) h9), ob (iL eB h10), ob (c7), ob (iM (eOs 1 true eB) h9), ob (iM eB h10), ob (c7), ob (c7), ob (c8)] (by kernel_rfl) fun st0 h0 => hJ1 st0 _ n_2 hf0 h0 inferInstance
    · obtain rfl := someE hf1
      obtain rfl := hl1
      exact awpBack X0 TTab_ok hC hm [6, 7, 8, 9] 4000 [.a (.atom (.int .i64 ((r_.Rows.length : Nat) : Int))), .b false, .b false, .b false, .b false, .b false, .b false, .b false, .b false, .b false, .b false, .b false, .b false] J1 [(6, .own (.box (.agg [I r_.Inputs, I r_.Outputs, eSl 1 false F11_ r_.Rows]))), (7, .d (I 0)), (8, .d (I ((a_.Rows.length : Nat) : Int))), (9, .d (I n_2))] [ob (lnM F11_ r_.Rows), ob (c7), ob (c7), ob (c7), ob (c7), ob (c7), ob (c7), ob (c7), ob (c7), ob (c7), ob (c7), ob (c7), ob (Eq.refl false)] (by kernel_rfl) fun st0 h0 => hJ1 st0 _ n_2 hf0 h0 inferInstance
noncomputable def bd_ref01_Compare : Code := (Try.f74.body).getD .skip
noncomputable def sp_ref01_Compare : Spec := spF (α := List Int × List Int) (ρ := Int) 74 (fun x => [F3_ x.1, F3_ x.2]) (fun r => (eI .i64) r) (fun x => ref01_Compare x.1 x.2) [] (by
    rintro ⟨a0, a1⟩ ⟨b0, b1⟩ h
    simp only [List.cons.injEq, and_true] at h
    have e0 := EncI.inj (f := F3_) _ _ h.1
    have e1 := EncI.inj (f := F3_) _ _ h.2
    subst e0 e1
    rfl)
abbrev ST_ref01_Compare_J1 : List (Nat × T) := []
abbrev ST_ref01_Compare_L2 (a_ : List Int) (b_ : List Int) (i_ : Int) : List (Nat × T) := [(0, .d (eSl 1 false (eI .i64) a_)), (1, .d (eSl 1 false (eI .i64) b_)), (5, .d (I i_))]
set_option maxRecDepth 100000 in
set_option maxHeartbeats 8000000 in
theorem w_ref01_Compare {ctr : Ctr} (hC : CtrOk Try.prog ctr) (hm : Try.prog.follows .mixedOrders = true) : sp_ref01_Compare.Ok Try.prog := by
  refine spF_ok ?_
  rintro ⟨a_, b_⟩ r0 hf0
  try unfold ref01_Compare at hf0
  refine callOk_h (tt := TTab) (keep := true) (rs := [(4, none)]) (n := ⟨40, []⟩) (body := bd_ref01_Compare) TTab_ok Try.func74 rfl (by kernel_rfl) rfl rfl (by show (2 : Nat) ≤ 40; decide) fun E hE => ?_
  rcases bifE hf0 with ⟨c0, hf0⟩ | ⟨c0, hf0⟩
  · obtain rfl := someE hf0
    exact awpEnd X0 TTab_ok hC hm hE 4000 (hs := [.a (.atom (.int .i64 ((a_.length : Nat) : Int))), .a (.atom (.int .i64 ((b_.length : Nat) : Int))), .b true]) (x := (I (-1))) [ob (lnM (eI .i64) a_), ob (lnM (eI .i64) b_), ob (c0)] (by kernel_rfl) (show LeV (I (-1)) (I (-1)) from inferInstance)
  · rcases bifE hf0 with ⟨c1, hf0⟩ | ⟨c1, hf0⟩
    · obtain rfl := someE hf0
      exact awpEnd X0 TTab_ok hC hm hE 4000 (hs := [.a (.atom (.int .i64 ((a_.length : Nat) : Int))), .a (.atom (.int .i64 ((b_.length : Nat) : Int))), .b false, .a (.atom (.int .i64 ((a_.length : Nat) : Int))), .a (.atom (.int .i64 ((b_.length : Nat) : Int))), .b true]) (x := (I 1)) [ob (lnM (eI .i64) a_), ob (lnM (eI .i64) b_), ob (c0), ob (lnM (eI .i64) a_), ob (lnM (eI .i64) b_), ob (c1)] (by kernel_rfl) (show LeV (I 1) (I 1) from inferInstance)
    · refine awpAt X0 TTab_ok hC hm [0, 1] 4000 [.a (.atom (.int .i64 ((a_.length : Nat) : Int))), .a (.atom (.int .i64 ((b_.length : Nat) : Int))), .b false, .a (.atom (.int .i64 ((a_.length : Nat) : Int))), .a (.atom (.int .i64 ((b_.length : Nat) : Int))), .b false, .cut 0] (sub [1, 1, 1] bd_ref01_Compare) (frs [1, 1, 1] [] bd_ref01_Compare []) [(0, .d (eSl 1 false (eI .i64) a_)), (1, .d (eSl 1 false (eI .i64) b_))] [ob (lnM (eI .i64) a_), ob (lnM (eI .i64) b_), ob (c0), ob (lnM (eI .i64) a_), ob (lnM (eI .i64) b_), ob (c1)] (by kernel_rfl) fun st0 h0 => ?_
      refine awpJoin' (X := Unit) (x := (sub [1, 1, 1, 2] bd_ref01_Compare)) (y := (sub [1, 1, 1, 1] bd_ref01_Compare)) (by kernel_rfl) [] [0, 1] _ h0 (fun z => ref01_Compare_J1 = some r0) (fun z => ST_ref01_Compare_J1) ?_ fun J1 hJ1 => ?_
      · rintro ⟨⟩ hf0
        unfold ref01_Compare_J1 at hf0
        obtain rfl := someE hf0
        exact awpEnd X0 TTab_ok hC hm hE 4000 (hs := []) (x := (I 0)) [] (by kernel_rfl) (show LeV (I 0) (I 0) from inferInstance)
      · obtain ⟨t2, ht2, hf0⟩ := bindE hf0
        refine awpAt X0 TTab_ok hC hm [0, 1, 5] 4000 [] (sub [1, 1, 1, 2, 1, 0] bd_ref01_Compare) (frs [1, 1, 1, 2, 1, 0] [J1] bd_ref01_Compare []) [(0, .d (eSl 1 false (eI .i64) a_)), (1, .d (eSl 1 false (eI .i64) b_)), (5, .d (I 0))] [] (by kernel_rfl) fun st0 h0 => ?_
        refine awpLoop' (X := Int × Nat) (c' := (sub [1, 1, 1, 2, 1, 0, 0] bd_ref01_Compare)) (by kernel_rfl) [0, 1, 5] (fun x => loopN (fun s => ref01_Compare_L2 a_ b_ s) x.2 x.1 = some t2) (fun x => x.2) (fun x => ST_ref01_Compare_L2 a_ b_ x.1) (0, fuel) _ h0 inferInstance ht2 ?_
        rintro ⟨i_, n2⟩ hn2 J2 hJ2
        obtain ⟨m2, lr1, rfl, hf1, hl1⟩ := loopE hn2
        try unfold ref01_Compare_L2 at hf1
        rcases bifE hf1 with ⟨c2, hf1⟩ | ⟨c2, hf1⟩
        · obtain ⟨a__e, h0, hf1⟩ := bindE hf1
          obtain ⟨b__e, h1, hf1⟩ := bindE hf1
          rcases bifE hf1 with ⟨c3, hf1⟩ | ⟨c3, hf1⟩
          · obtain rfl := someE hf1
            obtain rfl := hl1
            obtain rfl := someE hf0
            exact awpEnd X0 TTab_ok hC hm hE 4000 (hs := [.a (.atom (.int .i64 ((a_.length : Nat) : Int))), .b true, .a ((eI .i64) a__e), .a ((eI .i64) b__e), .b true]) (x := (I (-1))) [ob (lnM (eI .i64) a_), ob (c2), ob (i0 h0), ob (iM (eI .i64) h0), ob (i0 h1), ob (iM (eI .i64) h1), ob (c3)] (by kernel_rfl) (show LeV (I (-1)) (I (-1)) from inferInstance)
          · obtain ⟨a__e1, h2, hf1⟩ := bindE hf1
            obtain ⟨b__e1, h3, hf1⟩ := bindE hf1
            rcases bifE hf1 with ⟨c4, hf1⟩ | ⟨c4, hf1⟩
            · obtain rfl := someE hf1
              obtain rfl := hl1
              obtain rfl := someE hf0
              exact awpEnd X0 TTab_ok hC hm hE 4000 (hs := [.a (.atom (.int .i64 ((a_.length : Nat) : Int))), .b true, .a ((eI .i64) a__e), .a ((eI .i64) b__e), .b false, .a ((eI .i64) a__e1), .a ((eI .i64) b__e1), .b true]) (x := (I 1)) [ob (lnM (eI .i64) a_), ob (c2), ob (i0 h0), ob (iM (eI .i64) h0), ob (i0 h1), ob (iM (eI .i64) h1), ob (c3), ob (i0 h2), ob (iM (eI .i64) h2), ob (i0 h3), ob (iM (eI .i64) h3), ob (c4)] (by kernel_rfl) (show LeV (I 1) (I 1) from inferInstance)
            · obtain rfl := someE hf1
              exact awpBack X0 TTab_ok hC hm [0, 1, 5] 4000 [.a (.atom (.int .i64 ((a_.length : Nat) : Int))), .b true, .a ((eI .i64) a__e), .a ((eI .i64) b__e), .b false, .a ((eI .i64) a__e1), .a ((eI .i64) b__e1), .b false] J2 [(0, .d (eSl 1 false (eI .i64) a_)), (1, .d (eSl 1 false (eI .i64) b_)), (5, .d (I (w64 (i_ + 1))))] [ob (lnM (eI .i64) a_), ob (c2), ob (i0 h0), ob (iM (eI .i64) h0), ob (i0 h1), ob (iM (eI .i64) h1), ob (c3), ob (i0 h2), ob (iM (eI .i64) h2), ob (i0 h3), ob (iM (eI .i64) h3), ob (c4)] (by kernel_rfl) fun st0 h0 => hJ2 st0 _ (w64 (i_ + 1), m2) hl1 (Nat.lt_succ_self m2) h0 inferInstance
        · obtain rfl := someE hf1
          obtain rfl := hl1
          exact awpBack X0 TTab_ok hC hm [] 4000 [.a (.atom (.int .i64 ((a_.length : Nat) : Int))), .b false] J1 [] [ob (lnM (eI .i64) a_), ob (c2)] (by kernel_rfl) fun st0 h0 => hJ1 st0 _ () hf0 h0 inferInstance
noncomputable def bd_ref01_Same : Code := (Try.f34.body).getD .skip
noncomputable def sp_ref01_Same : Spec := spF (α := List Int × List Int) (ρ := Bool) 34 (fun x => [F3_ x.1, F3_ x.2]) (fun r => eB r) (fun x => ref01_Same x.1 x.2) [] (by
    rintro ⟨a0, a1⟩ ⟨b0, b1⟩ h
    simp only [List.cons.injEq, and_true] at h
    have e0 := EncI.inj (f := F3_) _ _ h.1
    have e1 := EncI.inj (f := F3_) _ _ h.2
    subst e0 e1
    rfl)
set_option maxRecDepth 100000 in
set_option maxHeartbeats 8000000 in
theorem w_ref01_Same {ctr : Ctr} (hC : CtrOk Try.prog ctr) (hm : Try.prog.follows .mixedOrders = true) (h_ref01_Compare : ctr.Has sp_ref01_Compare) : sp_ref01_Same.Ok Try.prog := by
  refine spF_ok ?_
  rintro ⟨a_, b_⟩ r0 hf0
  try unfold ref01_Same at hf0
  refine callOk_h (tt := TTab) (keep := true) (rs := [(4, none)]) (n := ⟨9, []⟩) (body := bd_ref01_Same) TTab_ok Try.func34 rfl (by kernel_rfl) rfl rfl (by show (2 : Nat) ≤ 9; decide) fun E hE => ?_
  obtain ⟨r_, h0, hf0⟩ := bindE hf0
  obtain rfl := someE hf0
  exact awpEnd X0 TTab_ok hC hm hE 4000 (hs := [.g [], .a ((eI .i64) r_)]) (x := (B (r_ == 0))) [ob (hasG h_ref01_Compare), ob (hasF h_ref01_Compare (x := (a_, b_)) h0 (loC F3_ a_ <| loC F3_ b_ <| loN))] (by kernel_rfl) (show LeV (B (r_ == 0)) (B (r_ == 0)) from inferInstance)
noncomputable def bd_law10_list : Code := (Try.f33.body).getD .skip
noncomputable def sp_law10_list : Spec := spF (α := List Int × Int × List Int × Int) (ρ := Bool) 33 (fun x => [F1_ x.1, (eI .i64) x.2.1, F3_ x.2.2.1, (eI .i64) x.2.2.2]) (fun r => eB r) (fun x => law10_list x.1 x.2.1 x.2.2.1 x.2.2.2) [] (by
    rintro ⟨a0, a1, a2, a3⟩ ⟨b0, b1, b2, b3⟩ h
    simp only [List.cons.injEq, and_true] at h
    have e0 := EncI.inj (f := F1_) _ _ h.1
    have e1 := EncI.inj (f := (eI .i64)) _ _ h.2.1
    have e2 := EncI.inj (f := F3_) _ _ h.2.2.1
    have e3 := EncI.inj (f := (eI .i64)) _ _ h.2.2.2
    subst e0 e1 e2 e3
    rfl)
set_option maxRecDepth 100000 in
set_option maxHeartbeats 8000000 in
theorem w_law10_list {ctr : Ctr} (hC : CtrOk Try.prog ctr) (hm : Try.prog.follows .mixedOrders = true) (h_ref01_Same : ctr.Has sp_ref01_Same) : sp_law10_list.Ok Try.prog := by
  refine spF_ok ?_
  rintro ⟨l_, e_, want, f_⟩ r0 hf0
  try unfold law10_list at hf0
  refine callOk_h (tt := TTab) (keep := true) (rs := [(8, none)]) (n := ⟨24, []⟩) (body := bd_law10_list) TTab_ok Try.func33 rfl (by kernel_rfl) rfl rfl (by show (4 : Nat) ≤ 24; decide) fun E hE => ?_
  rcases bifE hf0 with ⟨c0, hf0⟩ | ⟨c0, hf0⟩
  · obtain ⟨r_, h0, hf0⟩ := bindE hf0
    rcases bifE hf0 with ⟨c1, hf0⟩ | ⟨c1, hf0⟩
    · obtain rfl := someE hf0
      exact awpEnd X0 TTab_ok hC hm hE 4000 (hs := [.b true, .b true, .b true, .g [], .a (eB r_), .b true, .b true, .b true, .a (.atom (.int .i64 ((l_.length : Nat) : Int))), .b true, .b true, .a (.atom (.int .i64 ((l_.length : Nat) : Int))), .b true, .b true]) (x := (B (((l_.length : Nat) : Int) == ((l_.length : Nat) : Int)))) [ob (c0), ob (c0), ob (c0), ob (hasG h_ref01_Same), ob (hasF h_ref01_Same (x := (l_, want)) h0 (loC F1_ l_ <| loC F3_ want <| loN)), ob (c0), ob (c1), ob (c1), ob (lnM (eI .i64) l_), ob (c1), ob (c1), ob (lnM (eI .i64) l_), ob (c1), ob (c1)] (by kernel_rfl) (show LeV (B (((l_.length : Nat) : Int) == ((l_.length : Nat) : Int))) (B (((l_.length : Nat) : Int) == ((l_.length : Nat) : Int))) from inferInstance)
    · obtain rfl := someE hf0
      exact awpEnd X0 TTab_ok hC hm hE 4000 (hs := [.b true, .b true, .b true, .g [], .a (eB r_), .b true, .b false, .b false, .b false, .b false, .b false, .b false]) (x := (B false)) [ob (c0), ob (c0), ob (c0), ob (hasG h_ref01_Same), ob (hasF h_ref01_Same (x := (l_, want)) h0 (loC F1_ l_ <| loC F3_ want <| loN)), ob (c0), ob (c1), ob (c1), ob (c1), ob (c1), ob (c1), ob (c1)] (by kernel_rfl) (show LeV (B false) (B false) from inferInstance)
  · obtain rfl := someE hf0
    exact awpEnd X0 TTab_ok hC hm hE 4000 (hs := [.b false, .b false, .b false, .b false, .b false, .b false, .b false, .b false, .b false, .b false]) (x := (B false)) [ob (c0), ob (c0), ob (c0), ob (c0), ob (Eq.refl false), ob (Eq.refl false), ob (Eq.refl false), ob (Eq.refl false), ob (Eq.refl false), ob (Eq.refl false)] (by kernel_rfl) (show LeV (B false) (B false) from inferInstance)
noncomputable def bd_ref04_Next : Code := (Try.f75.body).getD .skip
noncomputable def sp_ref04_Next : Spec := spF (α := S_api_Machine × Int × Int) (ρ := S_api_Edge) 75 (fun x => [F20_ x.1, (eI .i64) x.2.1, (eI .i64) x.2.2]) (fun r => F8_ r) (fun x => ref04_Next x.1 x.2.1 x.2.2) [] (by
    rintro ⟨a0, a1, a2⟩ ⟨b0, b1, b2⟩ h
    simp only [List.cons.injEq, and_true] at h
    have e0 := EncI.inj (f := F20_) _ _ h.1
    have e1 := EncI.inj (f := (eI .i64)) _ _ h.2.1
    have e2 := EncI.inj (f := (eI .i64)) _ _ h.2.2
    subst e0 e1 e2
    rfl)
set_option maxRecDepth 100000 in
set_option maxHeartbeats 8000000 in
theorem w_ref04_Next {ctr : Ctr} (hC : CtrOk Try.prog ctr) (hm : Try.prog.follows .mixedOrders = true) : sp_ref04_Next.Ok Try.prog := by
  refine spF_ok ?_
  rintro ⟨m_, s_, i_⟩ r0 hf0
  try unfold ref04_Next at hf0
  refine callOk_h (tt := TTab) (keep := false) (rs := [(6, some 67)]) (n := ⟨18, []⟩) (body := bd_ref04_Next) TTab_ok Try.func75 rfl (by kernel_rfl) rfl rfl (by show (3 : Nat) ≤ 18; decide) fun E hE => ?_
  rcases bifE hf0 with ⟨c0, hf0⟩ | ⟨c0, hf0⟩
  · obtain rfl := someE hf0
    exact awpEnd X0 TTab_ok hC hm hE 4000 (hs := [.b true]) (x := (.agg [I (-1), I (-1)])) [ob (c0)] (by kernel_rfl) (show LeV (.agg [I (-1), I (-1)]) (.agg [I (-1), I (-1)]) from inferInstance)
  · obtain ⟨Row_e, h0, hf0⟩ := bindE hf0
    obtain ⟨Row_e_e, h1, hf0⟩ := bindE hf0
    obtain rfl := someE hf0
    exact awpEnd X0 TTab_ok hC hm hE 4000 (hs := [.b false, .a (F11_ Row_e), .a (F8_ Row_e_e)]) (x := (.agg [I Row_e_e.To, I Row_e_e.Out])) [ob (c0), ob (i0 h0), ob (iM F11_ h0), ob (i0 h1), ob (iM F8_ h1)] (by kernel_rfl) (show LeV (.agg [I Row_e_e.To, I Row_e_e.Out]) (.agg [I Row_e_e.To, I Row_e_e.Out]) from inferInstance)
noncomputable def bd_ref04_Run : Code := (Try.f35.body).getD .skip
noncomputable def sp_ref04_Run : Spec := spF (α := S_api_Machine × Int × List Int) (ρ := List Int) 35 (fun x => [F20_ x.1, (eI .i64) x.2.1, F3_ x.2.2]) (fun r => F4_ r) (fun x => ref04_Run x.1 x.2.1 x.2.2) [] (by
    rintro ⟨a0, a1, a2⟩ ⟨b0, b1, b2⟩ h
    simp only [List.cons.injEq, and_true] at h
    have e0 := EncI.inj (f := F20_) _ _ h.1
    have e1 := EncI.inj (f := (eI .i64)) _ _ h.2.1
    have e2 := EncI.inj (f := F3_) _ _ h.2.2
    subst e0 e1 e2
    rfl)
abbrev ST_ref04_Run_J1 (out : List Int) : List (Nat × T) := [(7, .own (eOs 1 false (eI .i64) out))]
abbrev ST_ref04_Run_L2 (m_ : S_api_Machine) (w_ : List Int) (s_1 : Int) (out1 : List Int) (k_ : Int) : List (Nat × T) := [(1, .d (I s_1)), (2, .d (eSl 1 false (eI .i64) w_)), (3, .own (.box (.agg [I m_.Inputs, I m_.Outputs, eSl 1 false F11_ m_.Rows]))), (7, .own (eOs 1 false (eI .i64) out1)), (8, .d (I k_))]
set_option maxRecDepth 100000 in
set_option maxHeartbeats 8000000 in
theorem w_ref04_Run {ctr : Ctr} (hC : CtrOk Try.prog ctr) (hm : Try.prog.follows .mixedOrders = true) (h_ref04_Next : ctr.Has sp_ref04_Next) : sp_ref04_Run.Ok Try.prog := by
  refine spF_ok ?_
  rintro ⟨m_, s_, w_⟩ r0 hf0
  try unfold ref04_Run at hf0
  refine callOk_h (tt := TTab) (keep := true) (rs := [(6, none)]) (n := ⟨31, []⟩) (body := bd_ref04_Run) TTab_ok Try.func35 rfl (by kernel_rfl) rfl rfl (by show (3 : Nat) ≤ 31; decide) fun E hE => ?_
  refine awpAt X0 TTab_ok hC hm [1, 2, 3, 7] 4000 [.cut 2] (sub [1, 1] bd_ref04_Run) (frs [1, 1] [] bd_ref04_Run []) [(1, .d (I s_)), (2, .d (eSl 1 false (eI .i64) w_)), (3, .own (.box (.agg [I m_.Inputs, I m_.Outputs, eSl 1 false F11_ m_.Rows]))), (7, .own (eOs 1 true (eI .i64) []))] [] (by kernel_rfl) fun st0 h0 => ?_
  refine awpJoin' (X := List Int) (x := (sub [1, 1, 2] bd_ref04_Run)) (y := (sub [1, 1, 1] bd_ref04_Run)) (by kernel_rfl) [7] [1, 2, 3, 7] _ h0 (fun z => ref04_Run_J1 z = some r0) (fun z => ST_ref04_Run_J1 z) ?_ fun J1 hJ1 => ?_
  · rintro out hf0
    unfold ref04_Run_J1 at hf0
    obtain rfl := someE hf0
    exact awpEnd X0 TTab_ok hC hm hE 4000 (hs := []) (x := (eOs 1 false (eI .i64) out)) [] (by kernel_rfl) (show LeV (eOs 1 false (eI .i64) out) (eOs 1 false (eI .i64) out) from inferInstance)
  · obtain ⟨t2, ht2, hf0⟩ := bindE hf0
    refine awpAt X0 TTab_ok hC hm [1, 2, 3, 7, 8] 4000 [] (sub [1, 1, 2, 1, 0] bd_ref04_Run) (frs [1, 1, 2, 1, 0] [J1] bd_ref04_Run []) [(1, .d (I s_)), (2, .d (eSl 1 false (eI .i64) w_)), (3, .own (.box (.agg [I m_.Inputs, I m_.Outputs, eSl 1 false F11_ m_.Rows]))), (7, .own (eOs 1 true (eI .i64) [])), (8, .d (I 0))] [] (by kernel_rfl) fun st0 h0 => ?_
    refine awpLoop' (X := (Int × List Int × Int) × Nat) (c' := (sub [1, 1, 2, 1, 0, 0] bd_ref04_Run)) (by kernel_rfl) [1, 2, 3, 7, 8] (fun x => loopN (fun s => ref04_Run_L2 m_ w_ s.1 s.2.1 s.2.2) x.2 x.1 = some t2) (fun x => x.2) (fun x => ST_ref04_Run_L2 m_ w_ x.1.1 x.1.2.1 x.1.2.2) ((s_, ([] : List Int), 0), fuel) _ h0 inferInstance ht2 ?_
    rintro ⟨⟨s_1, out1, k_⟩, n2⟩ hn2 J2 hJ2
    obtain ⟨m2, lr1, rfl, hf1, hl1⟩ := loopE hn2
    try unfold ref04_Run_L2 at hf1
    rcases bifE hf1 with ⟨c0, hf1⟩ | ⟨c0, hf1⟩
    · obtain ⟨w__e, h0, hf1⟩ := bindE hf1
      obtain ⟨r_, h1, hf1⟩ := bindE hf1
      obtain ⟨g0, hf1⟩ := gdE hf1
      obtain rfl := someE hf1
      exact awpBack X0 TTab_ok hC hm [1, 2, 3, 7, 8] 4000 [.a (.atom (.int .i64 ((w_.length : Nat) : Int))), .b true, .a ((eI .i64) w__e), .g [], .a (F8_ r_), .b true, .l ((out1 ++ ([r_.Out] : List Int)).map (eI .i64))] J2 [(1, .d (I r_.To)), (2, .d (eSl 1 false (eI .i64) w_)), (3, .own (.box (.agg [I m_.Inputs, I m_.Outputs, eSl 1 false F11_ m_.Rows]))), (7, .own (eOs 1 false (eI .i64) (out1 ++ ([r_.Out] : List Int)))), (8, .d (I (w64 (k_ + 1))))] [ob (lnM (eI .i64) w_), ob (c0), ob (i0 h0), ob (iM (eI .i64) h0), ob (hasG h_ref04_Next), ob (hasF h_ref04_Next (x := (m_, s_1, w__e)) h1 (loC F20_ m_ <| loC (eI .i64) s_1 <| loC (eI .i64) w__e <| loN)), ob (dM (eI .i64) ([r_.Out] : List Int)), ob (dM (eI .i64) ([r_.Out] : List Int)), ob (aL (eI .i64) (eI .i64) g0), ob (aM (eI .i64) out1 ([r_.Out] : List Int))] (by kernel_rfl) fun st0 h0 => hJ2 st0 _ ((r_.To, (out1 ++ ([r_.Out] : List Int)), w64 (k_ + 1)), m2) hl1 (Nat.lt_succ_self m2) h0 inferInstance
    · obtain rfl := someE hf1
      obtain rfl := hl1
      exact awpBack X0 TTab_ok hC hm [7] 4000 [.a (.atom (.int .i64 ((w_.length : Nat) : Int))), .b false] J1 [(7, .own (eOs 1 false (eI .i64) out1))] [ob (lnM (eI .i64) w_), ob (c0)] (by kernel_rfl) fun st0 h0 => hJ1 st0 _ out1 hf0 h0 inferInstance
noncomputable def bd_law10_edge : Code := (Try.f48.body).getD .skip
noncomputable def sp_law10_edge : Spec := spF (α := Int × Int) (ρ := S_api_Edge) 48 (fun x => [(eI .i64) x.1, (eI .i64) x.2]) (fun r => F8_ r) (fun x => law10_edge x.1 x.2) [] (by
    rintro ⟨a0, a1⟩ ⟨b0, b1⟩ h
    simp only [List.cons.injEq, and_true] at h
    have e0 := EncI.inj (f := (eI .i64)) _ _ h.1
    have e1 := EncI.inj (f := (eI .i64)) _ _ h.2
    subst e0 e1
    rfl)
set_option maxRecDepth 100000 in
set_option maxHeartbeats 8000000 in
theorem w_law10_edge {ctr : Ctr} (hC : CtrOk Try.prog ctr) (hm : Try.prog.follows .mixedOrders = true) : sp_law10_edge.Ok Try.prog := by
  refine spF_ok ?_
  rintro ⟨to, out⟩ r0 hf0
  try unfold law10_edge at hf0
  refine callOk_h (tt := TTab) (keep := false) (rs := [(4, some 67)]) (n := ⟨8, []⟩) (body := bd_law10_edge) TTab_ok Try.func48 rfl (by kernel_rfl) rfl rfl (by show (2 : Nat) ≤ 8; decide) fun E hE => ?_
  obtain rfl := someE hf0
  exact awpEnd X0 TTab_ok hC hm hE 4000 (hs := []) (x := (.agg [I to, I out])) [] (by kernel_rfl) (show LeV (.agg [I to, I out]) (.agg [I to, I out]) from inferInstance)
noncomputable def bd_equals_Equal : Code := (Try.f38.body).getD .skip
noncomputable def sp_equals_Equal : Spec := spF (α := S_api_Machine × S_api_Machine) (ρ := Bool × Int) 38 (fun x => [F20_ x.1, F20_ x.2]) (fun r => .tup [eB r.1, (eI .i64) r.2]) (fun x => equals_Equal x.1 x.2) [] (by
    rintro ⟨a0, a1⟩ ⟨b0, b1⟩ h
    simp only [List.cons.injEq, and_true] at h
    have e0 := EncI.inj (f := F20_) _ _ h.1
    have e1 := EncI.inj (f := F20_) _ _ h.2
    subst e0 e1
    rfl)
set_option maxRecDepth 100000 in
set_option maxHeartbeats 8000000 in
theorem w_equals_Equal {ctr : Ctr} (hC : CtrOk Try.prog ctr) (hm : Try.prog.follows .mixedOrders = true) (h_equals_Differ : ctr.Has sp_equals_Differ) : sp_equals_Equal.Ok Try.prog := by
  refine spF_ok ?_
  rintro ⟨a_, b_⟩ r0 hf0
  try unfold equals_Equal at hf0
  refine callOk_h (tt := TTab) (keep := false) (rs := [(4, none), (5, none)]) (n := ⟨23, []⟩) (body := bd_equals_Equal) TTab_ok Try.func38 rfl (by kernel_rfl) rfl rfl (by show (2 : Nat) ≤ 23; decide) fun E hE => ?_
  obtain ⟨r_, h0, hf0⟩ := bindE hf0
  rcases bifE hf0 with ⟨c0, hf0⟩ | ⟨c0, hf0⟩
  · obtain rfl := someE hf0
    exact awpEnd X0 TTab_ok hC hm hE 4000 (hs := [.g [], .a (.tup [eSl 1 true (eI .i64) r_.1, B r_.2.1, I r_.2.2]), .b true, .b true, .b true]) (x := (.tup [B (!r_.2.1), I r_.2.2])) [ob (hasG h_equals_Differ), ob (hasF h_equals_Differ (x := (a_, b_)) h0 (loC F20_ a_ <| loC F20_ b_ <| loN)), ob (c0), ob (c0), ob (c0)] (by kernel_rfl) (show LeV (.tup [B (!r_.2.1), I r_.2.2]) (.tup [B (!r_.2.1), I r_.2.2]) from inferInstance)
  · obtain rfl := someE hf0
    exact awpEnd X0 TTab_ok hC hm hE 4000 (hs := [.g [], .a (.tup [eSl 1 true (eI .i64) r_.1, B r_.2.1, I r_.2.2]), .b false, .b false, .b false]) (x := (.tup [B false, I r_.2.2])) [ob (hasG h_equals_Differ), ob (hasF h_equals_Differ (x := (a_, b_)) h0 (loC F20_ a_ <| loC F20_ b_ <| loN)), ob (c0), ob (c0), ob (c0)] (by kernel_rfl) (show LeV (.tup [B false, I r_.2.2]) (.tup [B false, I r_.2.2]) from inferInstance)
noncomputable def bd_cmp_isNaN_int : Code := (Try.f131.body).getD .skip
noncomputable def sp_cmp_isNaN_int : Spec := spF (α := Int) (ρ := Bool) 131 (fun x => [(eI .i64) x]) (fun r => eB r) (fun x => cmp_isNaN_int x) [] (by
    rintro a0 b0 h
    simp only [List.cons.injEq, and_true] at h
    have e0 := EncI.inj (f := (eI .i64)) _ _ h
    subst e0
    rfl)
set_option maxRecDepth 100000 in
set_option maxHeartbeats 8000000 in
theorem w_cmp_isNaN_int {ctr : Ctr} (hC : CtrOk Try.prog ctr) (hm : Try.prog.follows .mixedOrders = true) : sp_cmp_isNaN_int.Ok Try.prog := by
  refine spF_ok ?_
  rintro x_ r0 hf0
  try unfold cmp_isNaN_int at hf0
  refine callOk_h (tt := TTab) (keep := true) (rs := [(2, none)]) (n := ⟨6, []⟩) (body := bd_cmp_isNaN_int) TTab_ok Try.func131 rfl (by kernel_rfl) rfl rfl (by show (1 : Nat) ≤ 6; decide) fun E hE => ?_
  obtain rfl := someE hf0
  exact awpEnd X0 TTab_ok hC hm hE 4000 (hs := []) (x := (B (x_ != x_))) [] (by kernel_rfl) (show LeV (B (x_ != x_)) (B (x_ != x_)) from inferInstance)
noncomputable def bd_cmp_Compare_int : Code := (Try.f104.body).getD .skip
noncomputable def sp_cmp_Compare_int : Spec := spF (α := Int × Int) (ρ := Int) 104 (fun x => [(eI .i64) x.1, (eI .i64) x.2]) (fun r => (eI .i64) r) (fun x => cmp_Compare_int x.1 x.2) [] (by
    rintro ⟨a0, a1⟩ ⟨b0, b1⟩ h
    simp only [List.cons.injEq, and_true] at h
    have e0 := EncI.inj (f := (eI .i64)) _ _ h.1
    have e1 := EncI.inj (f := (eI .i64)) _ _ h.2
    subst e0 e1
    rfl)
set_option maxRecDepth 100000 in
set_option maxHeartbeats 8000000 in
theorem w_cmp_Compare_int {ctr : Ctr} (hC : CtrOk Try.prog ctr) (hm : Try.prog.follows .mixedOrders = true) (h_cmp_isNaN_int : ctr.Has sp_cmp_isNaN_int) : sp_cmp_Compare_int.Ok Try.prog := by
  refine spF_ok ?_
  rintro ⟨x_, y_⟩ r0 hf0
  try unfold cmp_Compare_int at hf0
  refine callOk_h (tt := TTab) (keep := true) (rs := [(4, none)]) (n := ⟨20, []⟩) (body := bd_cmp_Compare_int) TTab_ok Try.func104 rfl (by kernel_rfl) rfl rfl (by show (2 : Nat) ≤ 20; decide) fun E hE => ?_
  obtain ⟨r_, h0, hf0⟩ := bindE hf0
  obtain ⟨r_1, h1, hf0⟩ := bindE hf0
  rcases bifE hf0 with ⟨c0, hf0⟩ | ⟨c0, hf0⟩
  · rcases bifE hf0 with ⟨c1, hf0⟩ | ⟨c1, hf0⟩
    · obtain rfl := someE hf0
      exact awpEnd X0 TTab_ok hC hm hE 4000 (hs := [.g [], .a (eB r_), .g [], .a (eB r_1), .b true, .b true]) (x := (I 0)) [ob (hasG h_cmp_isNaN_int), ob (hasF h_cmp_isNaN_int (x := x_) h0 (loC (eI .i64) x_ <| loN)), ob (hasG h_cmp_isNaN_int), ob (hasF h_cmp_isNaN_int (x := y_) h1 (loC (eI .i64) y_ <| loN)), ob (c0), ob (c1)] (by kernel_rfl) (show LeV (I 0) (I 0) from inferInstance)
    · obtain rfl := someE hf0
      exact awpEnd X0 TTab_ok hC hm hE 4000 (hs := [.g [], .a (eB r_), .g [], .a (eB r_1), .b true, .b false]) (x := (I (-1))) [ob (hasG h_cmp_isNaN_int), ob (hasF h_cmp_isNaN_int (x := x_) h0 (loC (eI .i64) x_ <| loN)), ob (hasG h_cmp_isNaN_int), ob (hasF h_cmp_isNaN_int (x := y_) h1 (loC (eI .i64) y_ <| loN)), ob (c0), ob (c1)] (by kernel_rfl) (show LeV (I (-1)) (I (-1)) from inferInstance)
  · rcases bifE hf0 with ⟨c2, hf0⟩ | ⟨c2, hf0⟩
    · obtain rfl := someE hf0
      exact awpEnd X0 TTab_ok hC hm hE 4000 (hs := [.g [], .a (eB r_), .g [], .a (eB r_1), .b false, .b true]) (x := (I 1)) [ob (hasG h_cmp_isNaN_int), ob (hasF h_cmp_isNaN_int (x := x_) h0 (loC (eI .i64) x_ <| loN)), ob (hasG h_cmp_isNaN_int), ob (hasF h_cmp_isNaN_int (x := y_) h1 (loC (eI .i64) y_ <| loN)), ob (c0), ob (c2)] (by kernel_rfl) (show LeV (I 1) (I 1) from inferInstance)
    · rcases bifE hf0 with ⟨c3, hf0⟩ | ⟨c3, hf0⟩
      · obtain rfl := someE hf0
        exact awpEnd X0 TTab_ok hC hm hE 4000 (hs := [.g [], .a (eB r_), .g [], .a (eB r_1), .b false, .b false, .b true]) (x := (I (-1))) [ob (hasG h_cmp_isNaN_int), ob (hasF h_cmp_isNaN_int (x := x_) h0 (loC (eI .i64) x_ <| loN)), ob (hasG h_cmp_isNaN_int), ob (hasF h_cmp_isNaN_int (x := y_) h1 (loC (eI .i64) y_ <| loN)), ob (c0), ob (c2), ob (c3)] (by kernel_rfl) (show LeV (I (-1)) (I (-1)) from inferInstance)
      · rcases bifE hf0 with ⟨c4, hf0⟩ | ⟨c4, hf0⟩
        · obtain rfl := someE hf0
          exact awpEnd X0 TTab_ok hC hm hE 4000 (hs := [.g [], .a (eB r_), .g [], .a (eB r_1), .b false, .b false, .b false, .b true]) (x := (I 1)) [ob (hasG h_cmp_isNaN_int), ob (hasF h_cmp_isNaN_int (x := x_) h0 (loC (eI .i64) x_ <| loN)), ob (hasG h_cmp_isNaN_int), ob (hasF h_cmp_isNaN_int (x := y_) h1 (loC (eI .i64) y_ <| loN)), ob (c0), ob (c2), ob (c3), ob (c4)] (by kernel_rfl) (show LeV (I 1) (I 1) from inferInstance)
        · obtain rfl := someE hf0
          exact awpEnd X0 TTab_ok hC hm hE 4000 (hs := [.g [], .a (eB r_), .g [], .a (eB r_1), .b false, .b false, .b false, .b false]) (x := (I 0)) [ob (hasG h_cmp_isNaN_int), ob (hasF h_cmp_isNaN_int (x := x_) h0 (loC (eI .i64) x_ <| loN)), ob (hasG h_cmp_isNaN_int), ob (hasF h_cmp_isNaN_int (x := y_) h1 (loC (eI .i64) y_ <| loN)), ob (c0), ob (c2), ob (c3), ob (c4)] (by kernel_rfl) (show LeV (I 0) (I 0) from inferInstance)
noncomputable def bd_slices_Compare_int_int : Code := (Try.f80.body).getD .skip
noncomputable def sp_slices_Compare_int_int : Spec := spF (α := List Int × List Int) (ρ := Int) 80 (fun x => [F3_ x.1, F3_ x.2]) (fun r => (eI .i64) r) (fun x => slices_Compare_int_int x.1 x.2) [] (by
    rintro ⟨a0, a1⟩ ⟨b0, b1⟩ h
    simp only [List.cons.injEq, and_true] at h
    have e0 := EncI.inj (f := F3_) _ _ h.1
    have e1 := EncI.inj (f := F3_) _ _ h.2
    subst e0 e1
    rfl)
abbrev ST_slices_Compare_int_int_J1 (s1 : List Int) (s2 : List Int) : List (Nat × T) := [(0, .d (eSl 1 false (eI .i64) s1)), (1, .d (eSl 1 false (eI .i64) s2))]
abbrev ST_slices_Compare_int_int_L2 (s1 : List Int) (s2 : List Int) (x11 : Int) : List (Nat × T) := [(0, .d (eSl 1 false (eI .i64) s1)), (1, .d (eSl 1 false (eI .i64) s2)), (9, .d (eSl 1 false (eI .i64) s1)), (10, .d (I ((s1.length : Nat) : Int))), (11, .d (I x11))]
set_option maxRecDepth 100000 in
set_option maxHeartbeats 8000000 in
theorem w_slices_Compare_int_int {ctr : Ctr} (hC : CtrOk Try.prog ctr) (hm : Try.prog.follows .mixedOrders = true) (h_cmp_Compare_int : ctr.Has sp_cmp_Compare_int) : sp_slices_Compare_int_int.Ok Try.prog := by
  refine spF_ok ?_
  rintro ⟨s1, s2⟩ r0 hf0
  try unfold slices_Compare_int_int at hf0
  refine callOk_h (tt := TTab) (keep := true) (rs := [(4, none)]) (n := ⟨36, []⟩) (body := bd_slices_Compare_int_int) TTab_ok Try.func80 rfl (by kernel_rfl) rfl rfl (by show (2 : Nat) ≤ 36; decide) fun E hE => ?_
  refine awpAt X0 TTab_ok hC hm [0, 1] 4000 [.cut 1] (sub [1] bd_slices_Compare_int_int) (frs [1] [] bd_slices_Compare_int_int []) [(0, .d (eSl 1 false (eI .i64) s1)), (1, .d (eSl 1 false (eI .i64) s2))] [] (by kernel_rfl) fun st0 h0 => ?_
  refine awpJoin' (X := Unit) (x := (sub [1, 2] bd_slices_Compare_int_int)) (y := (sub [1, 1] bd_slices_Compare_int_int)) (by kernel_rfl) [0, 1] [0, 1] _ h0 (fun z => slices_Compare_int_int_J1 s1 s2 = some r0) (fun z => ST_slices_Compare_int_int_J1 s1 s2) ?_ fun J1 hJ1 => ?_
  · rintro ⟨⟩ hf0
    unfold slices_Compare_int_int_J1 at hf0
    rcases bifE hf0 with ⟨c0, hf0⟩ | ⟨c0, hf0⟩
    · obtain rfl := someE hf0
      exact awpEnd X0 TTab_ok hC hm hE 4000 (hs := [.a (.atom (.int .i64 ((s1.length : Nat) : Int))), .a (.atom (.int .i64 ((s2.length : Nat) : Int))), .b true]) (x := (I (-1))) [ob (lnM (eI .i64) s1), ob (lnM (eI .i64) s2), ob (c0)] (by kernel_rfl) (show LeV (I (-1)) (I (-1)) from inferInstance)
    · obtain rfl := someE hf0
      exact awpEnd X0 TTab_ok hC hm hE 4000 (hs := [.a (.atom (.int .i64 ((s1.length : Nat) : Int))), .a (.atom (.int .i64 ((s2.length : Nat) : Int))), .b false]) (x := (I 0)) [ob (lnM (eI .i64) s1), ob (lnM (eI .i64) s2), ob (c0)] (by kernel_rfl) (show LeV (I 0) (I 0) from inferInstance)
  · obtain ⟨t2, ht2, hf0⟩ := bindE hf0
    refine awpAt X0 TTab_ok hC hm [0, 1, 9, 10, 11] 4000 [.a (.atom (.int .i64 ((s1.length : Nat) : Int)))] (sub [1, 2, 1, 0] bd_slices_Compare_int_int) (frs [1, 2, 1, 0] [J1] bd_slices_Compare_int_int []) [(0, .d (eSl 1 false (eI .i64) s1)), (1, .d (eSl 1 false (eI .i64) s2)), (9, .d (eSl 1 false (eI .i64) s1)), (10, .d (I ((s1.length : Nat) : Int))), (11, .d (I 0))] [ob (lnM (eI .i64) s1)] (by kernel_rfl) fun st0 h0 => ?_
    refine awpLoop' (X := Int × Nat) (c' := (sub [1, 2, 1, 0, 0] bd_slices_Compare_int_int)) (by kernel_rfl) [0, 1, 9, 10, 11] (fun x => loopN (fun s => slices_Compare_int_int_L2 s1 s2 s) x.2 x.1 = some t2) (fun x => x.2) (fun x => ST_slices_Compare_int_int_L2 s1 s2 x.1) (0, fuel) _ h0 inferInstance ht2 ?_
    rintro ⟨x11, n2⟩ hn2 J2 hJ2
    obtain ⟨m2, lr1, rfl, hf1, hl1⟩ := loopE hn2
    try unfold slices_Compare_int_int_L2 at hf1
    rcases bifE hf1 with ⟨c1, hf1⟩ | ⟨c1, hf1⟩
    · obtain ⟨s_e, h0, hf1⟩ := bindE hf1
      rcases bifE hf1 with ⟨c2, hf1⟩ | ⟨c2, hf1⟩
      · obtain rfl := someE hf1
        obtain rfl := hl1
        obtain rfl := someE hf0
        exact awpEnd X0 TTab_ok hC hm hE 4000 (hs := [.b true, .a ((eI .i64) s_e), .a (.atom (.int .i64 ((s2.length : Nat) : Int))), .b true]) (x := (I 1)) [ob (c1), ob (i0 h0), ob (iM (eI .i64) h0), ob (lnM (eI .i64) s2), ob (c2)] (by kernel_rfl) (show LeV (I 1) (I 1) from inferInstance)
      · obtain ⟨s_e1, h1, hf1⟩ := bindE hf1
        obtain ⟨r_, h2, hf1⟩ := bindE hf1
        rcases bifE hf1 with ⟨c3, hf1⟩ | ⟨c3, hf1⟩
        · obtain rfl := someE hf1
          obtain rfl := hl1
          obtain rfl := someE hf0
          exact awpEnd X0 TTab_ok hC hm hE 4000 (hs := [.b true, .a ((eI .i64) s_e), .a (.atom (.int .i64 ((s2.length : Nat) : Int))), .b false, .a ((eI .i64) s_e1), .g [], .a ((eI .i64) r_), .b true]) (x := (I r_)) [ob (c1), ob (i0 h0), ob (iM (eI .i64) h0), ob (lnM (eI .i64) s2), ob (c2), ob (i0 h1), ob (iM (eI .i64) h1), ob (hasG h_cmp_Compare_int), ob (hasF h_cmp_Compare_int (x := (s_e, s_e1)) h2 (loC (eI .i64) s_e <| loC (eI .i64) s_e1 <| loN)), ob (c3)] (by kernel_rfl) (show LeV (I r_) (I r_) from inferInstance)
        · obtain rfl := someE hf1
          exact awpBack X0 TTab_ok hC hm [0, 1, 9, 10, 11] 4000 [.b true, .a ((eI .i64) s_e), .a (.atom (.int .i64 ((s2.length : Nat) : Int))), .b false, .a ((eI .i64) s_e1), .g [], .a ((eI .i64) r_), .b false] J2 [(0, .d (eSl 1 false (eI .i64) s1)), (1, .d (eSl 1 false (eI .i64) s2)), (9, .d (eSl 1 false (eI .i64) s1)), (10, .d (I ((s1.length : Nat) : Int))), (11, .d (I (w64 (x11 + 1))))] [ob (c1), ob (i0 h0), ob (iM (eI .i64) h0), ob (lnM (eI .i64) s2), ob (c2), ob (i0 h1), ob (iM (eI .i64) h1), ob (hasG h_cmp_Compare_int), ob (hasF h_cmp_Compare_int (x := (s_e, s_e1)) h2 (loC (eI .i64) s_e <| loC (eI .i64) s_e1 <| loN)), ob (c3)] (by kernel_rfl) fun st0 h0 => hJ2 st0 _ (w64 (x11 + 1), m2) hl1 (Nat.lt_succ_self m2) h0 inferInstance
    · obtain rfl := someE hf1
      obtain rfl := hl1
      exact awpBack X0 TTab_ok hC hm [0, 1] 4000 [.b false] J1 [(0, .d (eSl 1 false (eI .i64) s1)), (1, .d (eSl 1 false (eI .i64) s2))] [ob (c1)] (by kernel_rfl) fun st0 h0 => hJ1 st0 _ () hf0 h0 inferInstance
noncomputable def bd_equals_Relate_1 : Code := (Try.f79.body).getD .skip
noncomputable def sp_equals_Relate_1 : Spec := spF (α := Arr2 Int × Arr2 Int) (ρ := Int) 79 (fun x => [F0_ x.1, F0_ x.2]) (fun r => (eI .i64) r) (fun x => equals_Relate_1 x.1 x.2) [] (by
    rintro ⟨a0, a1⟩ ⟨b0, b1⟩ h
    simp only [List.cons.injEq, and_true] at h
    have e0 := EncI.inj (f := F0_) _ _ h.1
    have e1 := EncI.inj (f := F0_) _ _ h.2
    subst e0 e1
    rfl)
set_option maxRecDepth 100000 in
set_option maxHeartbeats 8000000 in
theorem w_equals_Relate_1 {ctr : Ctr} (hC : CtrOk Try.prog ctr) (hm : Try.prog.follows .mixedOrders = true) (h_slices_Compare_int_int : ctr.Has sp_slices_Compare_int_int) : sp_equals_Relate_1.Ok Try.prog := by
  refine spF_ok ?_
  rintro ⟨p_, q_⟩ r0 hf0
  try unfold equals_Relate_1 at hf0
  refine callOk_h (tt := TTab) (keep := true) (rs := [(4, none)]) (n := ⟨8, []⟩) (body := bd_equals_Relate_1) TTab_ok Try.func79 rfl (by kernel_rfl) rfl rfl (by show (2 : Nat) ≤ 8; decide) fun E hE => ?_
  obtain ⟨r_, h0, hf0⟩ := bindE hf0
  obtain rfl := someE hf0
  exact awpEnd ((xArr TTab_ok 6).or ((xArr TTab_ok 5).or X0)) TTab_ok hC hm hE 4000 (hs := [.g [], .a ((eI .i64) r_)]) (x := (I r_)) [ob (hasG h_slices_Compare_int_int), ob (hasF h_slices_Compare_int_int (x := ([p_.e0, p_.e1], [q_.e0, q_.e1])) h0 (loC F1_ ([p_.e0, p_.e1] : List Int) <| loC F1_ ([q_.e0, q_.e1] : List Int) <| loN))] (by kernel_rfl) (show LeV (I r_) (I r_) from inferInstance)
noncomputable def bd_slices_Clip_2_int_2_int : Code := (Try.f81.body).getD .skip
noncomputable def sp_slices_Clip_2_int_2_int : Spec := spF (α := List (Arr2 Int)) (ρ := List (Arr2 Int)) 81 (fun x => [F7_ x]) (fun r => F6_ r) (fun x => slices_Clip_2_int_2_int x) [] (by
    rintro a0 b0 h
    simp only [List.cons.injEq, and_true] at h
    have e0 := EncI.inj (f := F7_) _ _ h
    subst e0
    rfl)
set_option maxRecDepth 100000 in
set_option maxHeartbeats 8000000 in
theorem w_slices_Clip_2_int_2_int {ctr : Ctr} (hC : CtrOk Try.prog ctr) (hm : Try.prog.follows .mixedOrders = true) : sp_slices_Clip_2_int_2_int.Ok Try.prog := by
  refine spF_ok ?_
  rintro s_ r0 hf0
  try unfold slices_Clip_2_int_2_int at hf0
  refine callOk_h (tt := TTab) (keep := true) (rs := [(2, none)]) (n := ⟨9, []⟩) (body := bd_slices_Clip_2_int_2_int) TTab_ok Try.func81 rfl (by kernel_rfl) rfl rfl (by show (1 : Nat) ≤ 9; decide) fun E hE => ?_
  obtain ⟨g0, hf0⟩ := gdE hf0
  obtain rfl := someE hf0
  exact awpEnd X0 TTab_ok hC hm hE 4000 (hs := [.a (.atom (.int .i64 ((s_.length : Nat) : Int))), .a (.atom (.int .i64 ((s_.length : Nat) : Int))), .a (eSl 2 true F0_ ((s_.drop 0).take (((s_.length : Nat) : Int).toNat - 0)))]) (x := (eSl 2 true F0_ ((s_.drop 0).take (((s_.length : Nat) : Int).toNat - 0)))) [ob (lnM F0_ s_), ob (lnM F0_ s_), ob (slB g0), ob (slC g0), ob (sl011 F0_ g0), ob (slT1 2 F0_ s_ 0 ((s_.length : Nat) : Int).toNat)] (by kernel_rfl) (show LeV (eSl 2 true F0_ ((s_.drop 0).take (((s_.length : Nat) : Int).toNat - 0))) (eSl 2 true F0_ ((s_.drop 0).take (((s_.length : Nat) : Int).toNat - 0))) from inferInstance)
noncomputable def bd_equals_Relate : Code := (Try.f42.body).getD .skip
noncomputable def sp_equals_Relate : Spec := spF (α := S_api_Machine × S_api_Machine) (ρ := List (Arr2 Int) × Bool × Int) 42 (fun x => [F20_ x.1, F20_ x.2]) (fun r => .tup [F6_ r.1, eB r.2.1, (eI .i64) r.2.2]) (fun x => equals_Relate x.1 x.2) [] (by
    rintro ⟨a0, a1⟩ ⟨b0, b1⟩ h
    simp only [List.cons.injEq, and_true] at h
    have e0 := EncI.inj (f := F20_) _ _ h.1
    have e1 := EncI.inj (f := F20_) _ _ h.2
    subst e0 e1
    rfl)
set_option maxRecDepth 100000 in
set_option maxHeartbeats 8000000 in
theorem w_equals_Relate {ctr : Ctr} (hC : CtrOk Try.prog ctr) (hm : Try.prog.follows .mixedOrders = true) (h_equals_both : ctr.Has sp_equals_both) (h_equals_differ : ctr.Has sp_equals_differ) (h_equals_Relate_1 : ctr.Has sp_equals_Relate_1) (h_slices_Clip_2_int_2_int : ctr.Has sp_slices_Clip_2_int_2_int) : sp_equals_Relate.Ok Try.prog := by
  refine spF_ok ?_
  rintro ⟨a_, b_⟩ r0 hf0
  try unfold equals_Relate at hf0
  refine callOk_h (tt := TTab) (keep := false) (rs := [(4, none), (5, none), (6, none)]) (n := ⟨29, []⟩) (body := bd_equals_Relate) TTab_ok Try.func42 rfl (by kernel_rfl) rfl rfl (by show (2 : Nat) ≤ 29; decide) fun E hE => ?_
  obtain ⟨r_, h0, hf0⟩ := bindE hf0
  rcases bifE hf0 with ⟨c0, hf0⟩ | ⟨c0, hf0⟩
  · obtain rfl := someE hf0
    exact awpEnd X0 TTab_ok hC hm hE 4000 (hs := [.g [], .a ((eI .i64) r_), .b true, .l ([].map F0_)]) (x := (.tup [eSl 2 true F0_ [], B false, I r_])) [ob (hasG h_equals_both), ob (hasF h_equals_both (x := (a_, b_)) h0 (loC F20_ a_ <| loC F20_ b_ <| loN)), ob (c0), ob (shM F0_ F0_ [])] (by kernel_rfl) (show LeV (.tup [eSl 2 true F0_ [], B false, I r_]) (.tup [eSl 2 true F0_ ([] : List (Arr2 Int)), B false, I r_]) from inferInstance)
  · obtain ⟨r_1, h1, hf0⟩ := bindE hf0
    refine awpAt ((xExtr Try.prog 21 [some (eSl 1 true (eI .i64) r_1.1), some (eOs 2 false F0_ r_1.2)]).or ((xExtr Try.prog 20 [some (eSl 1 true (eI .i64) r_1.1), some (eOs 2 false F0_ r_1.2)]).or X0)) TTab_ok hC hm [8, 9] 4000 [.g [], .a ((eI .i64) r_), .b false, .g [], .a (.opq (tupQ [some (eSl 1 true (eI .i64) r_1.1), some (eOs 2 false F0_ r_1.2)])), .cut 0] (sub [1, 1, 1] bd_equals_Relate) (frs [1, 1, 1] [] bd_equals_Relate []) [(8, .d (eSl 1 true (eI .i64) r_1.1)), (9, .own (eOs 2 false F0_ r_1.2))] [ob (hasG h_equals_both), ob (hasF h_equals_both (x := (a_, b_)) h0 (loC F20_ a_ <| loC F20_ b_ <| loN)), ob (c0), ob (hasG h_equals_differ), ob (hasF h_equals_differ (x := (a_, b_)) h1 (loC F20_ a_ <| loC F20_ b_ <| loN)), ob ((⟨rfl, rfl⟩ : T.own (.opq (tupQ [some (eSl 1 true (eI .i64) r_1.1), some (eOs 2 false F0_ r_1.2)])) = T.own (.opq (tupQ [some (eSl 1 true (eI .i64) r_1.1), some (eOs 2 false F0_ r_1.2)])) ∧ 1 = 1)), ob ((⟨rfl, rfl⟩ : T.own (.opq (tupQ [some (eSl 1 true (eI .i64) r_1.1), some (eOs 2 false F0_ r_1.2)])) = T.own (.opq (tupQ [some (eSl 1 true (eI .i64) r_1.1), some (eOs 2 false F0_ r_1.2)])) ∧ 1 = 1))] (by kernel_rfl) fun st0 h0 => awpOf h0 ?_
    refine awpPin (by kernel_rfl) 9 fun pv9 => ?_
    obtain ⟨sorted, h2, hf0⟩ := bindE hf0
    obtain ⟨r_2, h3, hf0⟩ := bindE hf0
    obtain rfl := someE hf0
    exact awpEnd ((xLend (P := Try.prog) TTab [9] (sort_lent so_78 (f := F0_) (t := false) (v := pv9) (fun _ => rfl) (fun _ => rfl) (fun x y c h => hasCall hC h_equals_Relate_1 (x := (x, y)) h) h2) 23).or X0) TTab_ok hC hm hE 4000 (hs := [.g [], .l (sorted.map F0_), .a (F6_ r_2), .l (sorted.map F0_), .a (.atom (.int .i64 ((r_1.1.length : Nat) : Int)))]) (x := (.tup [eSl 2 true F0_ r_2, B (((r_1.1.length : Nat) : Int) == 0), I 0])) [ob (tabC_at (f := .fn 78 []) (xs := [.atom pv9, .fn 79 []]) (ls := [(pv9, eOs 2 false F0_ r_1.2)]) (r := .tup []) (ys := [eOs 2 false F0_ sorted]) [.atom pv9, .fn 79 []] (show LeTs [.atom pv9, .fn 79 []] [.atom pv9, .fn 79 []] from inferInstance)), ob (hasG h_slices_Clip_2_int_2_int), ob (shM F0_ F0_ sorted), ob (hasF h_slices_Clip_2_int_2_int (x := sorted) h3 (loC F7_ sorted <| loN)), ob (shM F0_ F0_ sorted), ob (lnM (eI .i64) r_1.1)] (by kernel_rfl) (show LeV (.tup [eSl 2 true F0_ r_2, B (((r_1.1.length : Nat) : Int) == 0), I 0]) (.tup [eSl 2 true F0_ r_2, B (((r_1.1.length : Nat) : Int) == 0), I 0]) from inferInstance)
noncomputable def bd_equals_Within : Code := (Try.f41.body).getD .skip
noncomputable def sp_equals_Within : Spec := spF (α := S_api_Machine × S_api_Machine × Int) (ρ := Bool × Int) 41 (fun x => [F20_ x.1, F20_ x.2.1, (eI .i64) x.2.2]) (fun r => .tup [eB r.1, (eI .i64) r.2]) (fun x => equals_Within x.1 x.2.1 x.2.2) [] (by
    rintro ⟨a0, a1, a2⟩ ⟨b0, b1, b2⟩ h
    simp only [List.cons.injEq, and_true] at h
    have e0 := EncI.inj (f := F20_) _ _ h.1
    have e1 := EncI.inj (f := F20_) _ _ h.2.1
    have e2 := EncI.inj (f := (eI .i64)) _ _ h.2.2
    subst e0 e1 e2
    rfl)
set_option maxRecDepth 100000 in
set_option maxHeartbeats 8000000 in
theorem w_equals_Within {ctr : Ctr} (hC : CtrOk Try.prog ctr) (hm : Try.prog.follows .mixedOrders = true) (h_equals_Differ : ctr.Has sp_equals_Differ) : sp_equals_Within.Ok Try.prog := by
  refine spF_ok ?_
  rintro ⟨a_, b_, k_⟩ r0 hf0
  try unfold equals_Within at hf0
  refine callOk_h (tt := TTab) (keep := false) (rs := [(6, none), (7, none)]) (n := ⟨33, []⟩) (body := bd_equals_Within) TTab_ok Try.func41 rfl (by kernel_rfl) rfl rfl (by show (3 : Nat) ≤ 33; decide) fun E hE => ?_
  obtain ⟨r_, h0, hf0⟩ := bindE hf0
  rcases bifE hf0 with ⟨c0, hf0⟩ | ⟨c0, hf0⟩
  · obtain rfl := someE hf0
    exact awpEnd X0 TTab_ok hC hm hE 4000 (hs := [.g [], .a (.tup [eSl 1 true (eI .i64) r_.1, B r_.2.1, I r_.2.2]), .b true]) (x := (.tup [B false, I r_.2.2])) [ob (hasG h_equals_Differ), ob (hasF h_equals_Differ (x := (a_, b_)) h0 (loC F20_ a_ <| loC F20_ b_ <| loN)), ob (c0)] (by kernel_rfl) (show LeV (.tup [B false, I r_.2.2]) (.tup [B false, I r_.2.2]) from inferInstance)
  · rcases bifE hf0 with ⟨c1, hf0⟩ | ⟨c1, hf0⟩
    · obtain rfl := someE hf0
      exact awpEnd X0 TTab_ok hC hm hE 4000 (hs := [.g [], .a (.tup [eSl 1 true (eI .i64) r_.1, B r_.2.1, I r_.2.2]), .b false, .b true]) (x := (.tup [B false, I 1])) [ob (hasG h_equals_Differ), ob (hasF h_equals_Differ (x := (a_, b_)) h0 (loC F20_ a_ <| loC F20_ b_ <| loN)), ob (c0), ob (c1)] (by kernel_rfl) (show LeV (.tup [B false, I 1]) (.tup [B false, I 1]) from inferInstance)
    · rcases bifE hf0 with ⟨c2, hf0⟩ | ⟨c2, hf0⟩
      · obtain rfl := someE hf0
        exact awpEnd X0 TTab_ok hC hm hE 4000 (hs := [.g [], .a (.tup [eSl 1 true (eI .i64) r_.1, B r_.2.1, I r_.2.2]), .b false, .b false, .b true, .b true, .b true, .b true, .b true]) (x := (.tup [B true, I 0])) [ob (hasG h_equals_Differ), ob (hasF h_equals_Differ (x := (a_, b_)) h0 (loC F20_ a_ <| loC F20_ b_ <| loN)), ob (c0), ob (c1), ob (c2), ob (c2), ob (c2), ob (c2), ob (c2)] (by kernel_rfl) (show LeV (.tup [B true, I 0]) (.tup [B true, I 0]) from inferInstance)
      · obtain rfl := someE hf0
        exact awpEnd X0 TTab_ok hC hm hE 4000 (hs := [.g [], .a (.tup [eSl 1 true (eI .i64) r_.1, B r_.2.1, I r_.2.2]), .b false, .b false, .b false, .b false, .a (.atom (.int .i64 ((r_.1.length : Nat) : Int))), .b false, .b false, .b false]) (x := (.tup [B (decide (((r_.1.length : Nat) : Int) > k_)), I 0])) [ob (hasG h_equals_Differ), ob (hasF h_equals_Differ (x := (a_, b_)) h0 (loC F20_ a_ <| loC F20_ b_ <| loN)), ob (c0), ob (c1), ob (c2), ob (c2), ob (lnM (eI .i64) r_.1), ob (c2), ob (c2), ob (c2)] (by kernel_rfl) (show LeV (.tup [B (decide (((r_.1.length : Nat) : Int) > k_)), I 0]) (.tup [B (decide (((r_.1.length : Nat) : Int) > k_)), I 0]) from inferInstance)
noncomputable def bd_equals_CheckRelation : Code := (Try.f45.body).getD .skip
noncomputable def sp_equals_CheckRelation : Spec := spF (α := S_api_Machine × S_api_Machine × List (Arr2 Int)) (ρ := Bool × Int) 45 (fun x => [F20_ x.1, F20_ x.2.1, F7_ x.2.2]) (fun r => .tup [eB r.1, (eI .i64) r.2]) (fun x => equals_CheckRelation x.1 x.2.1 x.2.2) [] (by
    rintro ⟨a0, a1, a2⟩ ⟨b0, b1, b2⟩ h
    simp only [List.cons.injEq, and_true] at h
    have e0 := EncI.inj (f := F20_) _ _ h.1
    have e1 := EncI.inj (f := F20_) _ _ h.2.1
    have e2 := EncI.inj (f := F7_) _ _ h.2.2
    subst e0 e1 e2
    rfl)
abbrev ST_equals_CheckRelation_J2 (is : Bool) : List (Nat × T) := [(12, .d (B is))]
abbrev ST_equals_CheckRelation_J4 (a_ : S_api_Machine) (b_ : S_api_Machine) (r_ : List (Arr2 Int)) (in_ : List ((Arr2 Int) × Bool)) (x64 : Int) (is2 : Bool) : List (Nat × T) := [(3, .own (.box (.agg [I a_.Inputs, I a_.Outputs, eSl 1 false F11_ a_.Rows]))), (4, .own (.box (.agg [I b_.Inputs, I b_.Outputs, eSl 1 false F11_ b_.Rows]))), (9, .own (.opq (mapQ (entL F0_ eB in_)))), (12, .d (B is2)), (62, .d (eSl 2 false F0_ r_)), (63, .d (I ((r_.length : Nat) : Int))), (64, .d (I x64))]
abbrev ST_equals_CheckRelation_L5 (a_ : S_api_Machine) (b_ : S_api_Machine) (r_ : List (Arr2 Int)) (in_ : List ((Arr2 Int) × Bool)) (x64 : Int) (r__e : Arr2 Int) (Row_e : List S_api_Edge) (is3 : Bool) (x75 : Int) : List (Nat × T) := [(3, .own (.box (.agg [I a_.Inputs, I a_.Outputs, eSl 1 false F11_ a_.Rows]))), (4, .own (.box (.agg [I b_.Inputs, I b_.Outputs, eSl 1 false F11_ b_.Rows]))), (9, .own (.opq (mapQ (entL F0_ eB in_)))), (12, .d (B is3)), (14, .own (.box (.agg [I r__e.e0, I r__e.e1]))), (62, .d (eSl 2 false F0_ r_)), (63, .d (I ((r_.length : Nat) : Int))), (64, .d (I x64)), (73, .d (eSl 2 false F8_ Row_e)), (74, .d (I ((Row_e.length : Nat) : Int))), (75, .d (I x75))]
abbrev ST_equals_CheckRelation_L3 (a_ : S_api_Machine) (b_ : S_api_Machine) (r_ : List (Arr2 Int)) (in_ : List ((Arr2 Int) × Bool)) (is1 : Bool) (x64 : Int) : List (Nat × T) := [(3, .own (.box (.agg [I a_.Inputs, I a_.Outputs, eSl 1 false F11_ a_.Rows]))), (4, .own (.box (.agg [I b_.Inputs, I b_.Outputs, eSl 1 false F11_ b_.Rows]))), (9, .own (.opq (mapQ (entL F0_ eB in_)))), (12, .d (B is1)), (62, .d (eSl 2 false F0_ r_)), (63, .d (I ((r_.length : Nat) : Int))), (64, .d (I x64))]
abbrev ST_equals_CheckRelation_J1 (a_ : S_api_Machine) (b_ : S_api_Machine) (r_ : List (Arr2 Int)) (in_ : List ((Arr2 Int) × Bool)) : List (Nat × T) := [(2, .d (eSl 2 false F0_ r_)), (3, .own (.box (.agg [I a_.Inputs, I a_.Outputs, eSl 1 false F11_ a_.Rows]))), (4, .own (.box (.agg [I b_.Inputs, I b_.Outputs, eSl 1 false F11_ b_.Rows]))), (9, .own (.opq (mapQ (entL F0_ eB in_))))]
abbrev ST_equals_CheckRelation_L6 (a_ : S_api_Machine) (b_ : S_api_Machine) (r_ : List (Arr2 Int)) (in_1 : List ((Arr2 Int) × Bool)) (x30 : Int) : List (Nat × T) := [(2, .d (eSl 2 false F0_ r_)), (3, .own (.box (.agg [I a_.Inputs, I a_.Outputs, eSl 1 false F11_ a_.Rows]))), (4, .own (.box (.agg [I b_.Inputs, I b_.Outputs, eSl 1 false F11_ b_.Rows]))), (9, .own (.opq (mapQ (entL F0_ eB in_1)))), (28, .d (eSl 2 false F0_ r_)), (29, .d (I ((r_.length : Nat) : Int))), (30, .d (I x30))]
set_option maxRecDepth 100000 in
set_option maxHeartbeats 8000000 in
theorem w_equals_CheckRelation {ctr : Ctr} (hC : CtrOk Try.prog ctr) (hm : Try.prog.follows .mixedOrders = true) (h_equals_both : ctr.Has sp_equals_both) : sp_equals_CheckRelation.Ok Try.prog := by
  refine spF_ok ?_
  rintro ⟨a_, b_, r_⟩ r0 hf0
  try unfold equals_CheckRelation at hf0
  refine callOk_h (tt := TTab) (keep := false) (rs := [(6, none), (7, none)]) (n := ⟨114, []⟩) (body := bd_equals_CheckRelation) TTab_ok Try.func45 rfl (by kernel_rfl) rfl rfl (by show (3 : Nat) ≤ 114; decide) fun E hE => ?_
  obtain ⟨r_1, h0, hf0⟩ := bindE hf0
  rcases bifE hf0 with ⟨c0, hf0⟩ | ⟨c0, hf0⟩
  · obtain rfl := someE hf0
    exact awpEnd X0 TTab_ok hC hm hE 4000 (hs := [.g [], .a ((eI .i64) r_1), .b true]) (x := (.tup [B false, I r_1])) [ob (hasG h_equals_both), ob (hasF h_equals_both (x := (a_, b_)) h0 (loC F20_ a_ <| loC F20_ b_ <| loN)), ob (c0)] (by kernel_rfl) (show LeV (.tup [B false, I r_1]) (.tup [B false, I r_1]) from inferInstance)
  · rcases bifE hf0 with ⟨c1, hf0⟩ | ⟨c1, hf0⟩
    · obtain rfl := someE hf0
      exact awpEnd X0 TTab_ok hC hm hE 4000 (hs := [.g [], .a ((eI .i64) r_1), .b false, .a (.atom (.int .i64 ((r_.length : Nat) : Int))), .b true]) (x := (.tup [B false, I 3])) [ob (hasG h_equals_both), ob (hasF h_equals_both (x := (a_, b_)) h0 (loC F20_ a_ <| loC F20_ b_ <| loN)), ob (c0), ob (lnM F0_ r_), ob (c1)] (by kernel_rfl) (show LeV (.tup [B false, I 3]) (.tup [B false, I 3]) from inferInstance)
    · refine awpAt ((xMake Try.prog 27).or X0) TTab_ok hC hm [2, 3, 4, 9] 4000 [.g [], .a ((eI .i64) r_1), .b false, .a (.atom (.int .i64 ((r_.length : Nat) : Int))), .b false, .cut 1] (sub [1, 1, 1, 1] bd_equals_CheckRelation) (frs [1, 1, 1, 1] [] bd_equals_CheckRelation []) [(2, .d (eSl 2 false F0_ r_)), (3, .own (.box (.agg [I a_.Inputs, I a_.Outputs, eSl 1 false F11_ a_.Rows]))), (4, .own (.box (.agg [I b_.Inputs, I b_.Outputs, eSl 1 false F11_ b_.Rows]))), (9, .own (.opq (mapQ (entL F0_ eB ([] : List ((Arr2 Int) × Bool))))))] [ob (hasG h_equals_both), ob (hasF h_equals_both (x := (a_, b_)) h0 (loC F20_ a_ <| loC F20_ b_ <| loN)), ob (c0), ob (lnM F0_ r_), ob (c1)] (by kernel_rfl) fun st0 h0 => ?_
      refine awpJoin' (X := List ((Arr2 Int) × Bool)) (x := (sub [1, 1, 1, 1, 2] bd_equals_CheckRelation)) (y := (sub [1, 1, 1, 1, 1] bd_equals_CheckRelation)) (by kernel_rfl) [2, 3, 4, 9] [2, 3, 4, 9] _ h0 (fun z => equals_CheckRelation_J1 a_ b_ r_ z = some r0) (fun z => ST_equals_CheckRelation_J1 a_ b_ r_ z) ?_ fun J1 hJ1 => ?_
      · rintro in_ hf0
        unfold equals_CheckRelation_J1 at hf0
        obtain ⟨val, h1, hf0⟩ := bindE hf0
        replace h1 := someE h1
        refine awpAt ((xLook mt_130 61 (entL F0_ eB in_)).or X0) TTab_ok hC hm [2, 3, 4, 9, 12] 4000 [.a (eB val), .cut 0] (sub [1, 1, 1, 1, 1, 1] bd_equals_CheckRelation) (frs [1, 1, 1, 1, 1, 1] [] bd_equals_CheckRelation []) [(2, .d (eSl 2 false F0_ r_)), (3, .own (.box (.agg [I a_.Inputs, I a_.Outputs, eSl 1 false F11_ a_.Rows]))), (4, .own (.box (.agg [I b_.Inputs, I b_.Outputs, eSl 1 false F11_ b_.Rows]))), (9, .own (.opq (mapQ (entL F0_ eB in_)))), (12, .d (B val))] [ob ((⟨rfl, rfl, ent_ok (fun _ => rfl) in_⟩ : A.opq (mapQ (entL F0_ eB in_)) = A.opq (mapQ (entL F0_ eB in_)) ∧ (okAgg [.i64, .i64]) (F0_ (Arr2.mk 0 0)) = true ∧ ∀ p ∈ entL F0_ eB in_, (okAgg [.i64, .i64]) p.1 = true)), ob ((get1 (f := F0_) (g := eB) (z0 := false) (z := .atom (.bool false)) rfl (Arr2.mk 0 0) in_).trans (congrArg eB h1))] (by kernel_rfl) fun st0 h0 => ?_
        refine awpJoin' (X := Bool) (x := (sub [1, 1, 1, 1, 1, 1, 2] bd_equals_CheckRelation)) (y := (sub [1, 1, 1, 1, 1, 1, 1] bd_equals_CheckRelation)) (by kernel_rfl) [12] [2, 3, 4, 9, 12] _ h0 (fun z => equals_CheckRelation_J2 z = some r0) (fun z => ST_equals_CheckRelation_J2 z) ?_ fun J2 hJ2 => ?_
        · rintro is hf0
          unfold equals_CheckRelation_J2 at hf0
          obtain rfl := someE hf0
          exact awpEnd X0 TTab_ok hC hm hE 4000 (hs := []) (x := (.tup [B is, I 0])) [] (by kernel_rfl) (show LeV (.tup [B is, I 0]) (.tup [B is, I 0]) from inferInstance)
        · obtain ⟨t3, ht3, hf0⟩ := bindE hf0
          refine awpAt X0 TTab_ok hC hm [3, 4, 9, 12, 62, 63, 64] 4000 [.a (.atom (.int .i64 ((r_.length : Nat) : Int)))] (sub [1, 1, 1, 1, 1, 1, 2, 1, 0] bd_equals_CheckRelation) (frs [1, 1, 1, 1, 1, 1, 2, 1, 0] [J2] bd_equals_CheckRelation []) [(3, .own (.box (.agg [I a_.Inputs, I a_.Outputs, eSl 1 false F11_ a_.Rows]))), (4, .own (.box (.agg [I b_.Inputs, I b_.Outputs, eSl 1 false F11_ b_.Rows]))), (9, .own (.opq (mapQ (entL F0_ eB in_)))), (12, .d (B val)), (62, .d (eSl 2 false F0_ r_)), (63, .d (I ((r_.length : Nat) : Int))), (64, .d (I 0))] [ob (lnM F0_ r_)] (by kernel_rfl) fun st0 h0 => ?_
          refine awpLoop' (X := (Bool × Int) × Nat) (c' := (sub [1, 1, 1, 1, 1, 1, 2, 1, 0, 0] bd_equals_CheckRelation)) (by kernel_rfl) [3, 4, 9, 12, 62, 63, 64] (fun x => loopN (fun s => equals_CheckRelation_L3 a_ b_ r_ in_ s.1 s.2) x.2 x.1 = some t3) (fun x => x.2) (fun x => ST_equals_CheckRelation_L3 a_ b_ r_ in_ x.1.1 x.1.2) ((val, 0), fuel) _ h0 inferInstance ht3 ?_
          rintro ⟨⟨is1, x64⟩, n3⟩ hn3 J3 hJ3
          obtain ⟨m3, lr1, rfl, hf1, hl1⟩ := loopE hn3
          try unfold equals_CheckRelation_L3 at hf1
          rcases bifE hf1 with ⟨c2, hf1⟩ | ⟨c2, hf1⟩
          · refine awpAt X0 TTab_ok hC hm [3, 4, 9, 12, 62, 63, 64] 4000 [.b true, .cut 0] (sub [1, 1, 1, 1, 1, 1, 2, 1, 0, 0, 1, 1] bd_equals_CheckRelation) (frs [1, 1, 1, 1, 1, 1, 2, 1, 0, 0, 1, 1] [J2, J3] bd_equals_CheckRelation []) [(3, .own (.box (.agg [I a_.Inputs, I a_.Outputs, eSl 1 false F11_ a_.Rows]))), (4, .own (.box (.agg [I b_.Inputs, I b_.Outputs, eSl 1 false F11_ b_.Rows]))), (9, .own (.opq (mapQ (entL F0_ eB in_)))), (12, .d (B is1)), (62, .d (eSl 2 false F0_ r_)), (63, .d (I ((r_.length : Nat) : Int))), (64, .d (I x64))] [ob (c2)] (by kernel_rfl) fun st0 h0 => ?_
            refine awpJoin' (X := Bool) (x := (sub [1, 1, 1, 1, 1, 1, 2, 1, 0, 0, 1, 1, 2] bd_equals_CheckRelation)) (y := (sub [1, 1, 1, 1, 1, 1, 2, 1, 0, 0, 1, 1, 1] bd_equals_CheckRelation)) (by kernel_rfl) [3, 4, 9, 12, 62, 63, 64] [3, 4, 9, 12, 62, 63, 64] _ h0 (fun z => equals_CheckRelation_J4 x64 z = some lr1) (fun z => ST_equals_CheckRelation_J4 a_ b_ r_ in_ x64 z) ?_ fun J4 hJ4 => ?_
            · rintro is2 hf1
              unfold equals_CheckRelation_J4 at hf1
              obtain rfl := someE hf1
              exact awpBack X0 TTab_ok hC hm [3, 4, 9, 12, 62, 63, 64] 4000 [] J3 [(3, .own (.box (.agg [I a_.Inputs, I a_.Outputs, eSl 1 false F11_ a_.Rows]))), (4, .own (.box (.agg [I b_.Inputs, I b_.Outputs, eSl 1 false F11_ b_.Rows]))), (9, .own (.opq (mapQ (entL F0_ eB in_)))), (12, .d (B is2)), (62, .d (eSl 2 false F0_ r_)), (63, .d (I ((r_.length : Nat) : Int))), (64, .d (I (w64 (x64 + 1))))] [] (by kernel_rfl) fun st0 h0 => hJ3 st0 _ ((is2, w64 (x64 + 1)), m3) hl1 (Nat.lt_succ_self m3) h0 inferInstance
            · obtain ⟨r__e, h2, hf1⟩ := bindE hf1
              obtain ⟨Row_e, h3, hf1⟩ := bindE hf1
              obtain ⟨t5, ht5, hf1⟩ := bindE hf1
              refine awpAt X0 TTab_ok hC hm [3, 4, 9, 12, 14, 62, 63, 64, 73, 74, 75] 4000 [.a (F0_ r__e), .a (F11_ Row_e), .a (.atom (.int .i64 ((Row_e.length : Nat) : Int)))] (sub [1, 1, 1, 1, 1, 1, 2, 1, 0, 0, 1, 1, 2, 0, 1, 1, 0] bd_equals_CheckRelation) (frs [1, 1, 1, 1, 1, 1, 2, 1, 0, 0, 1, 1, 2, 0, 1, 1, 0] [J2, J3, J4] bd_equals_CheckRelation []) [(3, .own (.box (.agg [I a_.Inputs, I a_.Outputs, eSl 1 false F11_ a_.Rows]))), (4, .own (.box (.agg [I b_.Inputs, I b_.Outputs, eSl 1 false F11_ b_.Rows]))), (9, .own (.opq (mapQ (entL F0_ eB in_)))), (12, .d (B is1)), (14, .own (.box (.agg [I r__e.e0, I r__e.e1]))), (62, .d (eSl 2 false F0_ r_)), (63, .d (I ((r_.length : Nat) : Int))), (64, .d (I x64)), (73, .d (eSl 2 false F8_ Row_e)), (74, .d (I ((Row_e.length : Nat) : Int))), (75, .d (I 0))] [ob (i0 h2), ob (iM F0_ h2), ob ((⟨rfl, by decide⟩ : true = true ∧ 0 < 2)), ob (i0 h3), ob (iM F11_ h3), ob (lnM F8_ Row_e)] (by kernel_rfl) fun st0 h0 => ?_
              refine awpLoop' (X := (Bool × Int) × Nat) (c' := (sub [1, 1, 1, 1, 1, 1, 2, 1, 0, 0, 1, 1, 2, 0, 1, 1, 0, 0] bd_equals_CheckRelation)) (by kernel_rfl) [3, 4, 9, 12, 14, 62, 63, 64, 73, 74, 75] (fun x => loopN (fun s => equals_CheckRelation_L5 b_ in_ r__e Row_e s.1 s.2) x.2 x.1 = some t5) (fun x => x.2) (fun x => ST_equals_CheckRelation_L5 a_ b_ r_ in_ x64 r__e Row_e x.1.1 x.1.2) ((is1, 0), fuel) _ h0 inferInstance ht5 ?_
              rintro ⟨⟨is3, x75⟩, n5⟩ hn5 J5 hJ5
              obtain ⟨m5, lr2, rfl, hf2, hl2⟩ := loopE hn5
              try unfold equals_CheckRelation_L5 at hf2
              rcases bifE hf2 with ⟨c3, hf2⟩ | ⟨c3, hf2⟩
              · obtain ⟨Row_e_e, h4, hf2⟩ := bindE hf2
                obtain ⟨Row_e1, h5, hf2⟩ := bindE hf2
                obtain ⟨Row_e_e1, h6, hf2⟩ := bindE hf2
                rcases bifE hf2 with ⟨c4, hf2⟩ | ⟨c4, hf2⟩
                · rcases bifE hf2 with ⟨c5, hf2⟩ | ⟨c5, hf2⟩
                  · rcases bifE hf2 with ⟨c6, hf2⟩ | ⟨c6, hf2⟩
                    · obtain rfl := someE hf2
                      exact awpBack X0 TTab_ok hC hm [3, 4, 9, 12, 14, 62, 63, 64, 73, 74, 75] 4000 [.b true, .a (F8_ Row_e_e), .a (F11_ Row_e1), .a (F8_ Row_e_e1), .b true, .b true, .b true, .b true, .b true, .b true, .b true, .b true, .b true, .b true, .b true, .b true, .b true, .b true, .b true, .b true, .b true, .b true, .b true, .b true] J5 [(3, .own (.box (.agg [I a_.Inputs, I a_.Outputs, eSl 1 false F11_ a_.Rows]))), (4, .own (.box (.agg [I b_.Inputs, I b_.Outputs, eSl 1 false F11_ b_.Rows]))), (9, .own (.opq (mapQ (entL F0_ eB in_)))), (12, .d (B true)), (14, .own (.box (.agg [I r__e.e0, I r__e.e1]))), (62, .d (eSl 2 false F0_ r_)), (63, .d (I ((r_.length : Nat) : Int))), (64, .d (I x64)), (73, .d (eSl 2 false F8_ Row_e)), (74, .d (I ((Row_e.length : Nat) : Int))), (75, .d (I (w64 (x75 + 1))))] [ob (c3), ob (i0 h4), ob (iM F8_ h4), ob ((⟨rfl, by decide⟩ : true = true ∧ 1 < 2)), ob (i0 h5), ob (iM F11_ h5), ob (i0 h6), ob (iM F8_ h6), ob (c4), ob (c4), ob (c4), ob (c4), ob (c4), ob (c4), ob (c5), ob (c5), ob (c5), ob (c5), ob (c6), ob (c6), ob (c6), ob (c6), ob (c6), ob (c6), ob (c6), ob (c5), ob (c6), ob (c5)] (by kernel_rfl) fun st0 h0 => hJ5 st0 _ ((true, w64 (x75 + 1)), m5) hl2 (Nat.lt_succ_self m5) h0 inferInstance
                    · obtain ⟨val1, h7, hf2⟩ := bindE hf2
                      replace h7 := someE h7
                      obtain rfl := someE hf2
                      exact awpBack ((xLook mt_130 108 (entL F0_ eB in_)).or X0) TTab_ok hC hm [3, 4, 9, 12, 14, 62, 63, 64, 73, 74, 75] 4000 [.b true, .a (F8_ Row_e_e), .a (F11_ Row_e1), .a (F8_ Row_e_e1), .b true, .b true, .b true, .b true, .b true, .b true, .b true, .b true, .b true, .b true, .b false, .b false, .b false, .b false, .b false, .b false, .b false, .a (eB val1), .b true, .b false, .b true] J5 [(3, .own (.box (.agg [I a_.Inputs, I a_.Outputs, eSl 1 false F11_ a_.Rows]))), (4, .own (.box (.agg [I b_.Inputs, I b_.Outputs, eSl 1 false F11_ b_.Rows]))), (9, .own (.opq (mapQ (entL F0_ eB in_)))), (12, .d (B val1)), (14, .own (.box (.agg [I r__e.e0, I r__e.e1]))), (62, .d (eSl 2 false F0_ r_)), (63, .d (I ((r_.length : Nat) : Int))), (64, .d (I x64)), (73, .d (eSl 2 false F8_ Row_e)), (74, .d (I ((Row_e.length : Nat) : Int))), (75, .d (I (w64 (x75 + 1))))] [ob (c3), ob (i0 h4), ob (iM F8_ h4), ob ((⟨rfl, by decide⟩ : true = true ∧ 1 < 2)), ob (i0 h5), ob (iM F11_ h5), ob (i0 h6), ob (iM F8_ h6), ob (c4), ob (c4), ob (c4), ob (c4), ob (c4), ob (c4), ob (c5), ob (c5), ob (c5), ob (c5), ob (c6), ob (c6), ob (c6), ob (c6), ob (c6), ob (c6), ob (c6), ob ((⟨rfl, rfl, ent_ok (fun _ => rfl) in_⟩ : A.opq (mapQ (entL F0_ eB in_)) = A.opq (mapQ (entL F0_ eB in_)) ∧ (okAgg [.i64, .i64]) (F0_ (Arr2.mk Row_e_e.To Row_e_e1.To)) = true ∧ ∀ p ∈ entL F0_ eB in_, (okAgg [.i64, .i64]) p.1 = true)), ob ((get1 (f := F0_) (g := eB) (z0 := false) (z := .atom (.bool false)) rfl (Arr2.mk Row_e_e.To Row_e_e1.To) in_).trans (congrArg eB h7)), ob (c5), ob (c6), ob (c5)] (by kernel_rfl) fun st0 h0 => hJ5 st0 _ ((val1, w64 (x75 + 1)), m5) hl2 (Nat.lt_succ_self m5) h0 inferInstance
                  · obtain rfl := someE hf2
                    exact awpBack X0 TTab_ok hC hm [3, 4, 9, 12, 14, 62, 63, 64, 73, 74, 75] 4000 [.b true, .a (F8_ Row_e_e), .a (F11_ Row_e1), .a (F8_ Row_e_e1), .b true, .b true, .b true, .b true, .b true, .b true, .b false, .b false, .b false, .b false, .b false, .b false] J5 [(3, .own (.box (.agg [I a_.Inputs, I a_.Outputs, eSl 1 false F11_ a_.Rows]))), (4, .own (.box (.agg [I b_.Inputs, I b_.Outputs, eSl 1 false F11_ b_.Rows]))), (9, .own (.opq (mapQ (entL F0_ eB in_)))), (12, .d (B false)), (14, .own (.box (.agg [I r__e.e0, I r__e.e1]))), (62, .d (eSl 2 false F0_ r_)), (63, .d (I ((r_.length : Nat) : Int))), (64, .d (I x64)), (73, .d (eSl 2 false F8_ Row_e)), (74, .d (I ((Row_e.length : Nat) : Int))), (75, .d (I (w64 (x75 + 1))))] [ob (c3), ob (i0 h4), ob (iM F8_ h4), ob ((⟨rfl, by decide⟩ : true = true ∧ 1 < 2)), ob (i0 h5), ob (iM F11_ h5), ob (i0 h6), ob (iM F8_ h6), ob (c4), ob (c4), ob (c4), ob (c4), ob (c4), ob (c4), ob (c5), ob (c5), ob (c5), ob (c5), ob (c5), ob (c5)] (by kernel_rfl) fun st0 h0 => hJ5 st0 _ ((false, w64 (x75 + 1)), m5) hl2 (Nat.lt_succ_self m5) h0 inferInstance
                · obtain rfl := someE hf2
                  exact awpBack X0 TTab_ok hC hm [3, 4, 9, 12, 14, 62, 63, 64, 73, 74, 75] 4000 [.b true, .a (F8_ Row_e_e), .a (F11_ Row_e1), .a (F8_ Row_e_e1), .b false, .b false, .b false, .b false, .b false, .b false, .b false, .b false, .b false, .b false, .b false, .b false] J5 [(3, .own (.box (.agg [I a_.Inputs, I a_.Outputs, eSl 1 false F11_ a_.Rows]))), (4, .own (.box (.agg [I b_.Inputs, I b_.Outputs, eSl 1 false F11_ b_.Rows]))), (9, .own (.opq (mapQ (entL F0_ eB in_)))), (12, .d (B false)), (14, .own (.box (.agg [I r__e.e0, I r__e.e1]))), (62, .d (eSl 2 false F0_ r_)), (63, .d (I ((r_.length : Nat) : Int))), (64, .d (I x64)), (73, .d (eSl 2 false F8_ Row_e)), (74, .d (I ((Row_e.length : Nat) : Int))), (75, .d (I (w64 (x75 + 1))))] [ob (c3), ob (i0 h4), ob (iM F8_ h4), ob ((⟨rfl, by decide⟩ : true = true ∧ 1 < 2)), ob (i0 h5), ob (iM F11_ h5), ob (i0 h6), ob (iM F8_ h6), ob (c4), ob (c4), ob (c4), ob (c4), ob (c4), ob (c4), ob (Eq.refl false), ob (Eq.refl false), ob (Eq.refl false), ob (Eq.refl false), ob (Eq.refl false), ob (Eq.refl false)] (by kernel_rfl) fun st0 h0 => hJ5 st0 _ ((false, w64 (x75 + 1)), m5) hl2 (Nat.lt_succ_self m5) h0 inferInstance
              · obtain rfl := someE hf2
                obtain rfl := hl2
                exact awpBack X0 TTab_ok hC hm [3, 4, 9, 12, 62, 63, 64] 4000 [.b false] J4 [(3, .own (.box (.agg [I a_.Inputs, I a_.Outputs, eSl 1 false F11_ a_.Rows]))), (4, .own (.box (.agg [I b_.Inputs, I b_.Outputs, eSl 1 false F11_ b_.Rows]))), (9, .own (.opq (mapQ (entL F0_ eB in_)))), (12, .d (B is3)), (62, .d (eSl 2 false F0_ r_)), (63, .d (I ((r_.length : Nat) : Int))), (64, .d (I x64))] [ob (c3)] (by kernel_rfl) fun st0 h0 => hJ4 st0 _ is3 hf1 h0 inferInstance
          · obtain rfl := someE hf1
            obtain rfl := hl1
            exact awpBack X0 TTab_ok hC hm [12] 4000 [.b false] J2 [(12, .d (B is1))] [ob (c2)] (by kernel_rfl) fun st0 h0 => hJ2 st0 _ is1 hf0 h0 inferInstance
      · obtain ⟨t6, ht6, hf0⟩ := bindE hf0
        refine awpAt X0 TTab_ok hC hm [2, 3, 4, 9, 28, 29, 30] 4000 [.a (.atom (.int .i64 ((r_.length : Nat) : Int)))] (sub [1, 1, 1, 1, 2, 1, 0] bd_equals_CheckRelation) (frs [1, 1, 1, 1, 2, 1, 0] [J1] bd_equals_CheckRelation []) [(2, .d (eSl 2 false F0_ r_)), (3, .own (.box (.agg [I a_.Inputs, I a_.Outputs, eSl 1 false F11_ a_.Rows]))), (4, .own (.box (.agg [I b_.Inputs, I b_.Outputs, eSl 1 false F11_ b_.Rows]))), (9, .own (.opq (mapQ (entL F0_ eB ([] : List ((Arr2 Int) × Bool)))))), (28, .d (eSl 2 false F0_ r_)), (29, .d (I ((r_.length : Nat) : Int))), (30, .d (I 0))] [ob (lnM F0_ r_)] (by kernel_rfl) fun st0 h0 => ?_
        refine awpLoop' (X := ((List ((Arr2 Int) × Bool)) × Int) × Nat) (c' := (sub [1, 1, 1, 1, 2, 1, 0, 0] bd_equals_CheckRelation)) (by kernel_rfl) [2, 3, 4, 9, 28, 29, 30] (fun x => loopN (fun s => equals_CheckRelation_L6 a_ b_ r_ s.1 s.2) x.2 x.1 = some t6) (fun x => x.2) (fun x => ST_equals_CheckRelation_L6 a_ b_ r_ x.1.1 x.1.2) ((([] : List ((Arr2 Int) × Bool)), 0), fuel) _ h0 inferInstance ht6 ?_
        rintro ⟨⟨in_1, x30⟩, n6⟩ hn6 J6 hJ6
        obtain ⟨m6, lr1, rfl, hf1, hl1⟩ := loopE hn6
        try unfold equals_CheckRelation_L6 at hf1
        rcases bifE hf1 with ⟨c7, hf1⟩ | ⟨c7, hf1⟩
        · obtain ⟨r__e1, h8, hf1⟩ := bindE hf1
          rcases bifE hf1 with ⟨c8, hf1⟩ | ⟨c8, hf1⟩
          · obtain rfl := someE hf1
            obtain rfl := hl1
            obtain rfl := someE hf0
            exact awpEnd X0 TTab_ok hC hm hE 4000 (hs := [.b true, .a (F0_ r__e1), .b true, .b true, .b true, .b true, .b true, .b true, .b true, .b true, .b true, .b true, .b true, .b true, .b true, .b true, .b true]) (x := (.tup [B false, I 1])) [ob (c7), ob (i0 h8), ob (iM F0_ h8), ob ((⟨rfl, by decide⟩ : true = true ∧ 0 < 2)), ob ((⟨rfl, by decide⟩ : true = true ∧ 1 < 2)), ob (c8), ob (c8), ob (c8), ob (c8), ob (c8), ob (c8), ob (c8), ob (Eq.refl true), ob (Eq.refl true), ob (Eq.refl true), ob (Eq.refl true), ob (Eq.refl true), ob (Eq.refl true), ob (Eq.refl true), ob (Eq.refl true)] (by kernel_rfl) (show LeV (.tup [B false, I 1]) (.tup [B false, I 1]) from inferInstance)
          · rcases bifE hf1 with ⟨c9, hf1⟩ | ⟨c9, hf1⟩
            · obtain rfl := someE hf1
              obtain rfl := hl1
              obtain rfl := someE hf0
              exact awpEnd X0 TTab_ok hC hm hE 4000 (hs := [.b true, .a (F0_ r__e1), .b false, .b false, .b false, .b false, .b false, .a (.atom (.int .i64 ((a_.Rows.length : Nat) : Int))), .b false, .b false, .b true, .b true, .b true, .b true, .b true, .b true, .b true, .b true]) (x := (.tup [B false, I 1])) [ob (c7), ob (i0 h8), ob (iM F0_ h8), ob ((⟨rfl, by decide⟩ : true = true ∧ 0 < 2)), ob ((⟨rfl, by decide⟩ : true = true ∧ 1 < 2)), ob (c8), ob ((⟨rfl, by decide⟩ : true = true ∧ 0 < 2)), ob (c8), ob (c8), ob (c8), ob (c8), ob (lnM F11_ a_.Rows), ob (c8), ob (c8), ob (c9), ob (c9), ob (c9), ob (c9), ob (c9), ob (c9), ob (c9), ob (Eq.refl true)] (by kernel_rfl) (show LeV (.tup [B false, I 1]) (.tup [B false, I 1]) from inferInstance)
            · rcases bifE hf1 with ⟨c10, hf1⟩ | ⟨c10, hf1⟩
              · obtain rfl := someE hf1
                obtain rfl := hl1
                obtain rfl := someE hf0
                exact awpEnd X0 TTab_ok hC hm hE 4000 (hs := [.b true, .a (F0_ r__e1), .b false, .b false, .b false, .b false, .b false, .a (.atom (.int .i64 ((a_.Rows.length : Nat) : Int))), .b false, .b false, .b false, .b false, .b false, .b false, .b false, .a (.atom (.int .i64 ((b_.Rows.length : Nat) : Int))), .b false, .b false, .b true]) (x := (.tup [B false, I 1])) [ob (c7), ob (i0 h8), ob (iM F0_ h8), ob ((⟨rfl, by decide⟩ : true = true ∧ 0 < 2)), ob ((⟨rfl, by decide⟩ : true = true ∧ 1 < 2)), ob (c8), ob ((⟨rfl, by decide⟩ : true = true ∧ 0 < 2)), ob (c8), ob (c8), ob (c8), ob (c8), ob (lnM F11_ a_.Rows), ob (c8), ob (c8), ob (c9), ob ((⟨rfl, by decide⟩ : true = true ∧ 1 < 2)), ob (c9), ob (c9), ob (c9), ob (c9), ob (lnM F11_ b_.Rows), ob (c9), ob (c9), ob (c10)] (by kernel_rfl) (show LeV (.tup [B false, I 1]) (.tup [B false, I 1]) from inferInstance)
              · obtain rfl := someE hf1
                exact awpBack ((xUpd mt_130 56 (entL F0_ eB in_1) (entL F0_ eB (mset in_1 r__e1 true))).or X0) TTab_ok hC hm [2, 3, 4, 9, 28, 29, 30] 4000 [.b true, .a (F0_ r__e1), .b false, .b false, .b false, .b false, .b false, .a (.atom (.int .i64 ((a_.Rows.length : Nat) : Int))), .b false, .b false, .b false, .b false, .b false, .b false, .b false, .a (.atom (.int .i64 ((b_.Rows.length : Nat) : Int))), .b false, .b false, .b false] J6 [(2, .d (eSl 2 false F0_ r_)), (3, .own (.box (.agg [I a_.Inputs, I a_.Outputs, eSl 1 false F11_ a_.Rows]))), (4, .own (.box (.agg [I b_.Inputs, I b_.Outputs, eSl 1 false F11_ b_.Rows]))), (9, .own (.opq (mapQ (entL F0_ eB (mset in_1 r__e1 true))))), (28, .d (eSl 2 false F0_ r_)), (29, .d (I ((r_.length : Nat) : Int))), (30, .d (I (w64 (x30 + 1))))] [ob (c7), ob (i0 h8), ob (iM F0_ h8), ob ((⟨rfl, by decide⟩ : true = true ∧ 0 < 2)), ob ((⟨rfl, by decide⟩ : true = true ∧ 1 < 2)), ob (c8), ob ((⟨rfl, by decide⟩ : true = true ∧ 0 < 2)), ob (c8), ob (c8), ob (c8), ob (c8), ob (lnM F11_ a_.Rows), ob (c8), ob (c8), ob (c9), ob ((⟨rfl, by decide⟩ : true = true ∧ 1 < 2)), ob (c9), ob (c9), ob (c9), ob (c9), ob (lnM F11_ b_.Rows), ob (c9), ob (c9), ob (c10), ob ((⟨rfl, rfl, rfl, rfl, ent_ok (fun _ => rfl) in_1⟩ : T.own (.opq (mapQ (entL F0_ eB in_1))) = T.own (.opq (mapQ (entL F0_ eB in_1))) ∧ 0 = 0 ∧ (okAgg [.i64, .i64]) (F0_ r__e1) = true ∧ (eB true).isD = true ∧ ∀ p ∈ entL F0_ eB in_1, (okAgg [.i64, .i64]) p.1 = true)), ob (put_set (f := F0_) (g := eB) r__e1 true in_1)] (by kernel_rfl) fun st0 h0 => hJ6 st0 _ (((mset in_1 r__e1 true), w64 (x30 + 1)), m6) hl1 (Nat.lt_succ_self m6) h0 inferInstance
        · obtain rfl := someE hf1
          obtain rfl := hl1
          exact awpBack X0 TTab_ok hC hm [2, 3, 4, 9] 4000 [.b false] J1 [(2, .d (eSl 2 false F0_ r_)), (3, .own (.box (.agg [I a_.Inputs, I a_.Outputs, eSl 1 false F11_ a_.Rows]))), (4, .own (.box (.agg [I b_.Inputs, I b_.Outputs, eSl 1 false F11_ b_.Rows]))), (9, .own (.opq (mapQ (entL F0_ eB in_1))))] [ob (c7)] (by kernel_rfl) fun st0 h0 => hJ1 st0 _ in_1 hf0 h0 inferInstance
noncomputable def bd_law10_pairs : Code := (Try.f43.body).getD .skip
noncomputable def sp_law10_pairs : Spec := spF (α := List (Arr2 Int) × List (Arr2 Int)) (ρ := Bool) 43 (fun x => [F6_ x.1, F7_ x.2]) (fun r => eB r) (fun x => law10_pairs x.1 x.2) [] (by
    rintro ⟨a0, a1⟩ ⟨b0, b1⟩ h
    simp only [List.cons.injEq, and_true] at h
    have e0 := EncI.inj (f := F6_) _ _ h.1
    have e1 := EncI.inj (f := F7_) _ _ h.2
    subst e0 e1
    rfl)
abbrev ST_law10_pairs_J1 : List (Nat × T) := []
abbrev ST_law10_pairs_L2 (a_ : List (Arr2 Int)) (b_ : List (Arr2 Int)) (k_ : Int) : List (Nat × T) := [(0, .d (eSl 2 true F0_ a_)), (1, .d (eSl 2 false F0_ b_)), (5, .d (I k_))]
set_option maxRecDepth 100000 in
set_option maxHeartbeats 8000000 in
theorem w_law10_pairs {ctr : Ctr} (hC : CtrOk Try.prog ctr) (hm : Try.prog.follows .mixedOrders = true) : sp_law10_pairs.Ok Try.prog := by
  refine spF_ok ?_
  rintro ⟨a_, b_⟩ r0 hf0
  try unfold law10_pairs at hf0
  refine callOk_h (tt := TTab) (keep := true) (rs := [(4, none)]) (n := ⟨33, []⟩) (body := bd_law10_pairs) TTab_ok Try.func43 rfl (by kernel_rfl) rfl rfl (by show (2 : Nat) ≤ 33; decide) fun E hE => ?_
  rcases bifE hf0 with ⟨c0, hf0⟩ | ⟨c0, hf0⟩
  · obtain rfl := someE hf0
    exact awpEnd X0 TTab_ok hC hm hE 4000 (hs := [.a (.atom (.int .i64 ((a_.length : Nat) : Int))), .a (.atom (.int .i64 ((b_.length : Nat) : Int))), .b true, .b true, .b true, .b true, .b true, .b true, .b true]) (x := (B false)) [ob (lnM F0_ a_), ob (lnM F0_ b_), ob (c0), ob (c0), ob (c0), ob (c0), ob (c0), ob (c0), ob (Eq.refl true)] (by kernel_rfl) (show LeV (B false) (B false) from inferInstance)
  · rcases bifE hf0 with ⟨c1, hf0⟩ | ⟨c1, hf0⟩
    · obtain rfl := someE hf0
      exact awpEnd X0 TTab_ok hC hm hE 4000 (hs := [.a (.atom (.int .i64 ((a_.length : Nat) : Int))), .a (.atom (.int .i64 ((b_.length : Nat) : Int))), .b false, .b false, .a (.atom (.int .i64 ((a_.length : Nat) : Int))), .b false, .b false, .a (.atom (.int .i64 ((a_.length : Nat) : Int))), .b false, .b false, .b true]) (x := (B false)) [ob (lnM F0_ a_), ob (lnM F0_ b_), ob (c0), ob (c0), ob (lnM F0_ a_), ob (c0), ob (c0), ob (lnM F0_ a_), ob (c0), ob (c0), ob (c1)] (by kernel_rfl) (show LeV (B false) (B false) from inferInstance)
    · refine awpAt X0 TTab_ok hC hm [0, 1] 4000 [.a (.atom (.int .i64 ((a_.length : Nat) : Int))), .a (.atom (.int .i64 ((b_.length : Nat) : Int))), .b false, .b false, .a (.atom (.int .i64 ((a_.length : Nat) : Int))), .b false, .b false, .a (.atom (.int .i64 ((a_.length : Nat) : Int))), .b false, .b false, .b false, .cut 0] (sub [1, 1] bd_law10_pairs) (frs [1, 1] [] bd_law10_pairs []) [(0, .d (eSl 2 true F0_ a_)), (1, .d (eSl 2 false F0_ b_))] [ob (lnM F0_ a_), ob (lnM F0_ b_), ob (c0), ob (c0), ob (lnM F0_ a_), ob (c0), ob (c0), ob (lnM F0_ a_), ob (c0), ob (c0), ob (c1)] (by kernel_rfl) fun st0 h0 => ?_
      refine awpJoin' (X := Unit) (x := (sub [1, 1, 2] bd_law10_pairs)) (y := (sub [1, 1, 1] bd_law10_pairs)) (by kernel_rfl) [] [0, 1] _ h0 (fun z => law10_pairs_J1 = some r0) (fun z => ST_law10_pairs_J1) ?_ fun J1 hJ1 => ?_
      · rintro ⟨⟩ hf0
        unfold law10_pairs_J1 at hf0
        obtain rfl := someE hf0
        exact awpEnd X0 TTab_ok hC hm hE 4000 (hs := []) (x := (B true)) [] (by kernel_rfl) (show LeV (B true) (B true) from inferInstance)
      · obtain ⟨t2, ht2, hf0⟩ := bindE hf0
        refine awpAt X0 TTab_ok hC hm [0, 1, 5] 4000 [] (sub [1, 1, 2, 1, 0] bd_law10_pairs) (frs [1, 1, 2, 1, 0] [J1] bd_law10_pairs []) [(0, .d (eSl 2 true F0_ a_)), (1, .d (eSl 2 false F0_ b_)), (5, .d (I 0))] [] (by kernel_rfl) fun st0 h0 => ?_
        refine awpLoop' (X := Int × Nat) (c' := (sub [1, 1, 2, 1, 0, 0] bd_law10_pairs)) (by kernel_rfl) [0, 1, 5] (fun x => loopN (fun s => law10_pairs_L2 a_ b_ s) x.2 x.1 = some t2) (fun x => x.2) (fun x => ST_law10_pairs_L2 a_ b_ x.1) (0, fuel) _ h0 inferInstance ht2 ?_
        rintro ⟨k_, n2⟩ hn2 J2 hJ2
        obtain ⟨m2, lr1, rfl, hf1, hl1⟩ := loopE hn2
        try unfold law10_pairs_L2 at hf1
        rcases bifE hf1 with ⟨c2, hf1⟩ | ⟨c2, hf1⟩
        · obtain ⟨a__e, h0, hf1⟩ := bindE hf1
          obtain ⟨b__e, h1, hf1⟩ := bindE hf1
          rcases bifE hf1 with ⟨c3, hf1⟩ | ⟨c3, hf1⟩
          · obtain rfl := someE hf1
            obtain rfl := hl1
            obtain rfl := someE hf0
            exact awpEnd X0 TTab_ok hC hm hE 4000 (hs := [.a (.atom (.int .i64 ((a_.length : Nat) : Int))), .b true, .a (F0_ a__e), .a (F0_ b__e), .b true]) (x := (B false)) [ob (lnM F0_ a_), ob (c2), ob (i0 h0), ob (iM F0_ h0), ob (i0 h1), ob (iM F0_ h1), ob (c3)] (by kernel_rfl) (show LeV (B false) (B false) from inferInstance)
          · obtain rfl := someE hf1
            exact awpBack X0 TTab_ok hC hm [0, 1, 5] 4000 [.a (.atom (.int .i64 ((a_.length : Nat) : Int))), .b true, .a (F0_ a__e), .a (F0_ b__e), .b false] J2 [(0, .d (eSl 2 true F0_ a_)), (1, .d (eSl 2 false F0_ b_)), (5, .d (I (w64 (k_ + 1))))] [ob (lnM F0_ a_), ob (c2), ob (i0 h0), ob (iM F0_ h0), ob (i0 h1), ob (iM F0_ h1), ob (c3)] (by kernel_rfl) fun st0 h0 => hJ2 st0 _ (w64 (k_ + 1), m2) hl1 (Nat.lt_succ_self m2) h0 inferInstance
        · obtain rfl := someE hf1
          obtain rfl := hl1
          exact awpBack X0 TTab_ok hC hm [] 4000 [.a (.atom (.int .i64 ((a_.length : Nat) : Int))), .b false] J1 [] [ob (lnM F0_ a_), ob (c2)] (by kernel_rfl) fun st0 h0 => hJ1 st0 _ () hf0 h0 inferInstance
noncomputable def bd_law10_lives : Code := (Try.f36.body).getD .skip
noncomputable def sp_law10_lives : Spec := spF (α := Unit) (ρ := Bool) 36 (fun x => []) (fun r => eB r) (fun x => law10_lives) [] (fun _ _ _ => rfl)
set_option maxRecDepth 100000 in
set_option maxHeartbeats 8000000 in
theorem w_law10_lives {ctr : Ctr} (hC : CtrOk Try.prog ctr) (hm : Try.prog.follows .mixedOrders = true) (h_law10_edge : ctr.Has sp_law10_edge) (h_equals_Differ : ctr.Has sp_equals_Differ) (h_equals_Equal : ctr.Has sp_equals_Equal) (h_equals_Relate : ctr.Has sp_equals_Relate) (h_equals_Within : ctr.Has sp_equals_Within) (h_equals_CheckRelation : ctr.Has sp_equals_CheckRelation) (h_law10_list : ctr.Has sp_law10_list) (h_law10_pairs : ctr.Has sp_law10_pairs) : sp_law10_lives.Ok Try.prog := by
  refine spF_ok ?_
  rintro ⟨⟩ r0 hf0
  try unfold law10_lives at hf0
  refine callOk_h (tt := TTab) (keep := true) (rs := [(0, none)]) (n := ⟨221, []⟩) (body := bd_law10_lives) TTab_ok Try.func36 rfl (by kernel_rfl) rfl rfl (by show (0 : Nat) ≤ 221; decide) fun E hE => ?_
  obtain ⟨r_, h0, hf0⟩ := bindE hf0
  obtain ⟨r_1, h1, hf0⟩ := bindE hf0
  obtain ⟨r_2, h2, hf0⟩ := bindE hf0
  obtain ⟨r_3, h3, hf0⟩ := bindE hf0
  obtain ⟨r_4, h4, hf0⟩ := bindE hf0
  obtain ⟨r_5, h5, hf0⟩ := bindE hf0
  obtain ⟨r_6, h6, hf0⟩ := bindE hf0
  obtain ⟨r_7, h7, hf0⟩ := bindE hf0
  obtain ⟨r_8, h8, hf0⟩ := bindE hf0
  obtain ⟨r_9, h9, hf0⟩ := bindE hf0
  obtain ⟨r_10, h10, hf0⟩ := bindE hf0
  obtain ⟨r_11, h11, hf0⟩ := bindE hf0
  obtain ⟨r_12, h12, hf0⟩ := bindE hf0
  obtain ⟨r_13, h13, hf0⟩ := bindE hf0
  obtain ⟨r_14, h14, hf0⟩ := bindE hf0
  obtain ⟨r_15, h15, hf0⟩ := bindE hf0
  obtain ⟨r_16, h16, hf0⟩ := bindE hf0
  obtain ⟨r_17, h17, hf0⟩ := bindE hf0
  obtain ⟨r_18, h18, hf0⟩ := bindE hf0
  obtain ⟨r_19, h19, hf0⟩ := bindE hf0
  obtain ⟨r_20, h20, hf0⟩ := bindE hf0
  obtain ⟨r_21, h21, hf0⟩ := bindE hf0
  obtain ⟨r_22, h22, hf0⟩ := bindE hf0
  refine awpAt X0 TTab_ok hC hm [5, 6, 7, 8, 9, 10, 11, 12, 13, 14, 15, 16, 17, 18, 19, 20, 21, 22, 23, 25, 27, 29] 4000 [.g [], .a (F8_ r_), .g [], .a (F8_ r_1), .g [], .a (F8_ r_2), .g [], .a (F8_ r_3), .g [], .a (F8_ r_4), .g [], .a (F8_ r_5), .g [], .a (F8_ r_6), .g [], .a (F8_ r_7), .g [], .a (F8_ r_8), .g [], .a (F8_ r_9), .g [], .a (F8_ r_10), .g [], .a (F8_ r_11), .g [], .l (([[r_], [r_1], [r_2]]).map F9_), .l (([[r_3], [r_4], [r_5], [r_6]]).map F9_), .a (.tup [eSl 1 true (eI .i64) r_12.1, B r_12.2.1, I r_12.2.2]), .l (([[r_], [r_1], [r_2]]).map F9_), .l (([[r_3], [r_4], [r_5], [r_6]]).map F9_), .g [], .a (.tup [B r_13.1, I r_13.2]), .g [], .a (.tup [eSl 2 true F0_ r_14.1, B r_14.2.1, I r_14.2.2]), .g [], .l (([[r_7], [r_8], [r_9]]).map F9_), .a (.tup [eSl 1 true (eI .i64) r_15.1, B r_15.2.1, I r_15.2.2]), .l (([[r_7], [r_8], [r_9]]).map F9_), .g [], .a (.tup [B r_16.1, I r_16.2]), .g [], .a (.tup [B r_17.1, I r_17.2]), .g [], .l (([(Arr2.mk 0 0), (Arr2.mk 0 3), (Arr2.mk 1 1), (Arr2.mk 2 2)]).map F0_), .a (.tup [B r_18.1, I r_18.2]), .g [], .l (([(Arr2.mk 0 0), (Arr2.mk 1 1)]).map F0_), .a (.tup [B r_19.1, I r_19.2]), .g [], .l (([[r_10, r_11]]).map F9_), .a (.tup [B r_20.1, I r_20.2]), .g [], .a (.tup [B r_21.1, I r_21.2]), .g [], .l (([(Arr2.mk 0 4)]).map F0_), .a (.tup [B r_22.1, I r_22.2]), .cut 0] (sub [1, 1, 1, 1, 1, 1, 1, 1, 1, 1, 1, 1, 1, 1, 1, 1] bd_law10_lives) (frs [1, 1, 1, 1, 1, 1, 1, 1, 1, 1, 1, 1, 1, 1, 1, 1] [] bd_law10_lives []) [(5, .d (eSl 1 true (eI .i64) r_12.1)), (6, .d (B r_12.2.1)), (7, .d (I r_12.2.2)), (8, .d (B r_13.1)), (9, .d (I r_13.2)), (10, .d (eSl 2 true F0_ r_14.1)), (11, .d (B r_14.2.1)), (12, .d (I r_14.2.2)), (13, .d (eSl 1 true (eI .i64) r_15.1)), (14, .d (B r_15.2.1)), (15, .d (I r_15.2.2)), (16, .d (B r_16.1)), (17, .d (I r_16.2)), (18, .d (B r_17.1)), (19, .d (I r_17.2)), (20, .d (B r_18.1)), (21, .d (I r_18.2)), (22, .d (B r_19.1)), (23, .d (I r_19.2)), (25, .d (I r_20.2)), (27, .d (I r_21.2)), (29, .d (I r_22.2))] [ob (hasG h_law10_edge), ob (hasF h_law10_edge (x := (1, 0)) h0 (loC (eI .i64) 1 <| loC (eI .i64) 0 <| loN)), ob (hasG h_law10_edge), ob (hasF h_law10_edge (x := (2, 0)) h1 (loC (eI .i64) 2 <| loC (eI .i64) 0 <| loN)), ob (hasG h_law10_edge), ob (hasF h_law10_edge (x := (0, 1)) h2 (loC (eI .i64) 0 <| loC (eI .i64) 1 <| loN)), ob (hasG h_law10_edge), ob (hasF h_law10_edge (x := (1, 0)) h3 (loC (eI .i64) 1 <| loC (eI .i64) 0 <| loN)), ob (hasG h_law10_edge), ob (hasF h_law10_edge (x := (2, 0)) h4 (loC (eI .i64) 2 <| loC (eI .i64) 0 <| loN)), ob (hasG h_law10_edge), ob (hasF h_law10_edge (x := (3, 1)) h5 (loC (eI .i64) 3 <| loC (eI .i64) 1 <| loN)), ob (hasG h_law10_edge), ob (hasF h_law10_edge (x := (1, 0)) h6 (loC (eI .i64) 1 <| loC (eI .i64) 0 <| loN)), ob (hasG h_law10_edge), ob (hasF h_law10_edge (x := (1, 0)) h7 (loC (eI .i64) 1 <| loC (eI .i64) 0 <| loN)), ob (hasG h_law10_edge), ob (hasF h_law10_edge (x := (2, 0)) h8 (loC (eI .i64) 2 <| loC (eI .i64) 0 <| loN)), ob (hasG h_law10_edge), ob (hasF h_law10_edge (x := (2, 0)) h9 (loC (eI .i64) 2 <| loC (eI .i64) 0 <| loN)), ob (hasG h_law10_edge), ob (hasF h_law10_edge (x := (0, 0)) h10 (loC (eI .i64) 0 <| loC (eI .i64) 0 <| loN)), ob (hasG h_law10_edge), ob (hasF h_law10_edge (x := (0, 0)) h11 (loC (eI .i64) 0 <| loC (eI .i64) 0 <| loN)), ob (hasG h_equals_Differ), ob (shM F10_ F9_ ([[r_], [r_1], [r_2]])), ob (shM F10_ F9_ ([[r_3], [r_4], [r_5], [r_6]])), ob (hasF h_equals_Differ (x := ((S_api_Machine.mk 1 2 ([[r_], [r_1], [r_2]])), (S_api_Machine.mk 1 2 ([[r_3], [r_4], [r_5], [r_6]])))) h12 (loC F19_ (S_api_Machine.mk 1 2 ([[r_], [r_1], [r_2]])) <| loC F19_ (S_api_Machine.mk 1 2 ([[r_3], [r_4], [r_5], [r_6]])) <| loN)), ob (shM F10_ F9_ ([[r_], [r_1], [r_2]])), ob (shM F10_ F9_ ([[r_3], [r_4], [r_5], [r_6]])), ob (hasG h_equals_Equal), ob (hasF h_equals_Equal (x := ((S_api_Machine.mk 1 2 ([[r_], [r_1], [r_2]])), (S_api_Machine.mk 1 2 ([[r_3], [r_4], [r_5], [r_6]])))) h13 (loC F19_ (S_api_Machine.mk 1 2 ([[r_], [r_1], [r_2]])) <| loC F19_ (S_api_Machine.mk 1 2 ([[r_3], [r_4], [r_5], [r_6]])) <| loN)), ob (hasG h_equals_Relate), ob (hasF h_equals_Relate (x := ((S_api_Machine.mk 1 2 ([[r_], [r_1], [r_2]])), (S_api_Machine.mk 1 2 ([[r_3], [r_4], [r_5], [r_6]])))) h14 (loC F19_ (S_api_Machine.mk 1 2 ([[r_], [r_1], [r_2]])) <| loC F19_ (S_api_Machine.mk 1 2 ([[r_3], [r_4], [r_5], [r_6]])) <| loN)), ob (hasG h_equals_Differ), ob (shM F10_ F9_ ([[r_7], [r_8], [r_9]])), ob (hasF h_equals_Differ (x := ((S_api_Machine.mk 1 2 ([[r_], [r_1], [r_2]])), (S_api_Machine.mk 1 2 ([[r_7], [r_8], [r_9]])))) h15 (loC F19_ (S_api_Machine.mk 1 2 ([[r_], [r_1], [r_2]])) <| loC F19_ (S_api_Machine.mk 1 2 ([[r_7], [r_8], [r_9]])) <| loN)), ob (shM F10_ F9_ ([[r_7], [r_8], [r_9]])), ob (hasG h_equals_Within), ob (hasF h_equals_Within (x := ((S_api_Machine.mk 1 2 ([[r_], [r_1], [r_2]])), (S_api_Machine.mk 1 2 ([[r_7], [r_8], [r_9]])), 2)) h16 (loC F19_ (S_api_Machine.mk 1 2 ([[r_], [r_1], [r_2]])) <| loC F19_ (S_api_Machine.mk 1 2 ([[r_7], [r_8], [r_9]])) <| loC (eI .i64) 2 <| loN)), ob (hasG h_equals_Within), ob (hasF h_equals_Within (x := ((S_api_Machine.mk 1 2 ([[r_], [r_1], [r_2]])), (S_api_Machine.mk 1 2 ([[r_7], [r_8], [r_9]])), 3)) h17 (loC F19_ (S_api_Machine.mk 1 2 ([[r_], [r_1], [r_2]])) <| loC F19_ (S_api_Machine.mk 1 2 ([[r_7], [r_8], [r_9]])) <| loC (eI .i64) 3 <| loN)), ob (hasG h_equals_CheckRelation), ob (shM F0_ F0_ ([(Arr2.mk 0 0), (Arr2.mk 0 3), (Arr2.mk 1 1), (Arr2.mk 2 2)])), ob (hasF h_equals_CheckRelation (x := ((S_api_Machine.mk 1 2 ([[r_], [r_1], [r_2]])), (S_api_Machine.mk 1 2 ([[r_3], [r_4], [r_5], [r_6]])), [(Arr2.mk 0 0), (Arr2.mk 0 3), (Arr2.mk 1 1), (Arr2.mk 2 2)])) h18 (loC F19_ (S_api_Machine.mk 1 2 ([[r_], [r_1], [r_2]])) <| loC F19_ (S_api_Machine.mk 1 2 ([[r_3], [r_4], [r_5], [r_6]])) <| loC F6_ ([(Arr2.mk 0 0), (Arr2.mk 0 3), (Arr2.mk 1 1), (Arr2.mk 2 2)] : List (Arr2 Int)) <| loN)), ob (hasG h_equals_CheckRelation), ob (shM F0_ F0_ ([(Arr2.mk 0 0), (Arr2.mk 1 1)])), ob (hasF h_equals_CheckRelation (x := ((S_api_Machine.mk 1 2 ([[r_], [r_1], [r_2]])), (S_api_Machine.mk 1 2 ([[r_3], [r_4], [r_5], [r_6]])), [(Arr2.mk 0 0), (Arr2.mk 1 1)])) h19 (loC F19_ (S_api_Machine.mk 1 2 ([[r_], [r_1], [r_2]])) <| loC F19_ (S_api_Machine.mk 1 2 ([[r_3], [r_4], [r_5], [r_6]])) <| loC F6_ ([(Arr2.mk 0 0), (Arr2.mk 1 1)] : List (Arr2 Int)) <| loN)), ob (hasG h_equals_Equal), ob (shM F10_ F9_ ([[r_10, r_11]])), ob (hasF h_equals_Equal (x := ((S_api_Machine.mk 1 2 ([[r_], [r_1], [r_2]])), (S_api_Machine.mk 2 1 ([[r_10, r_11]])))) h20 (loC F19_ (S_api_Machine.mk 1 2 ([[r_], [r_1], [r_2]])) <| loC F19_ (S_api_Machine.mk 2 1 ([[r_10, r_11]])) <| loN)), ob (hasG h_equals_Within), ob (hasF h_equals_Within (x := ((S_api_Machine.mk 1 2 ([[r_], [r_1], [r_2]])), (S_api_Machine.mk 1 2 ([[r_3], [r_4], [r_5], [r_6]])), (-1))) h21 (loC F19_ (S_api_Machine.mk 1 2 ([[r_], [r_1], [r_2]])) <| loC F19_ (S_api_Machine.mk 1 2 ([[r_3], [r_4], [r_5], [r_6]])) <| loC (eI .i64) (-1) <| loN)), ob (hasG h_equals_CheckRelation), ob (shM F0_ F0_ ([(Arr2.mk 0 4)])), ob (hasF h_equals_CheckRelation (x := ((S_api_Machine.mk 1 2 ([[r_], [r_1], [r_2]])), (S_api_Machine.mk 1 2 ([[r_3], [r_4], [r_5], [r_6]])), [(Arr2.mk 0 4)])) h22 (loC F19_ (S_api_Machine.mk 1 2 ([[r_], [r_1], [r_2]])) <| loC F19_ (S_api_Machine.mk 1 2 ([[r_3], [r_4], [r_5], [r_6]])) <| loC F6_ ([(Arr2.mk 0 4)] : List (Arr2 Int)) <| loN))] (by kernel_rfl) fun st0 h0 => awpOf h0 ?_
  obtain ⟨r_23, h23, hf0⟩ := bindE hf0
  rcases bifE hf0 with ⟨c0, hf0⟩ | ⟨c0, hf0⟩
  · rcases bifE hf0 with ⟨c1, hf0⟩ | ⟨c1, hf0⟩
    · rcases bifE hf0 with ⟨c2, hf0⟩ | ⟨c2, hf0⟩
      · rcases bifE hf0 with ⟨c3, hf0⟩ | ⟨c3, hf0⟩
        · obtain ⟨r_24, h24, hf0⟩ := bindE hf0
          rcases bifE hf0 with ⟨c4, hf0⟩ | ⟨c4, hf0⟩
          · rcases bifE hf0 with ⟨c5, hf0⟩ | ⟨c5, hf0⟩
            · rcases bifE hf0 with ⟨c6, hf0⟩ | ⟨c6, hf0⟩
              · obtain ⟨r_25, h25, hf0⟩ := bindE hf0
                rcases bifE hf0 with ⟨c7, hf0⟩ | ⟨c7, hf0⟩
                · rcases bifE hf0 with ⟨c8, hf0⟩ | ⟨c8, hf0⟩
                  · rcases bifE hf0 with ⟨c9, hf0⟩ | ⟨c9, hf0⟩
                    · rcases bifE hf0 with ⟨c10, hf0⟩ | ⟨c10, hf0⟩
                      · rcases bifE hf0 with ⟨c11, hf0⟩ | ⟨c11, hf0⟩
                        · rcases bifE hf0 with ⟨c12, hf0⟩ | ⟨c12, hf0⟩
                          · rcases bifE hf0 with ⟨c13, hf0⟩ | ⟨c13, hf0⟩
                            · rcases bifE hf0 with ⟨c14, hf0⟩ | ⟨c14, hf0⟩
                              · rcases bifE hf0 with ⟨c15, hf0⟩ | ⟨c15, hf0⟩
                                · rcases bifE hf0 with ⟨c16, hf0⟩ | ⟨c16, hf0⟩
                                  · rcases bifE hf0 with ⟨c17, hf0⟩ | ⟨c17, hf0⟩
                                    · rcases bifE hf0 with ⟨c18, hf0⟩ | ⟨c18, hf0⟩
                                      · obtain rfl := someE hf0
                                        exact awpEnd ((xLend (P := Try.prog) TTab [] (lentCall (hasCall hC h_law10_list (x := (r_15.1, r_15.2.2, ([0, 0, 0] : List Int), 0)) h25)) 174).or ((xLend (P := Try.prog) TTab [] (lentCall (hasCall hC h_law10_pairs (x := (r_14.1, ([(Arr2.mk 0 0), (Arr2.mk 0 3), (Arr2.mk 1 1), (Arr2.mk 2 2)] : List (Arr2 Int)))) h24)) 161).or ((xLend (P := Try.prog) TTab [] (lentCall (hasCall hC h_law10_list (x := (r_12.1, r_12.2.2, ([] : List Int), 0)) h23)) 142).or X0))) TTab_ok hC hm hE 4000 (hs := [.b true, .b true, .b true, .b true, .b true, .b true, .b true, .b true, .b true, .b true, .b true, .b true, .b true, .b true, .b true, .l (([(Arr2.mk 0 0), (Arr2.mk 0 3), (Arr2.mk 1 1), (Arr2.mk 2 2)]).map F0_), .b true, .b true, .b true, .b true, .b true, .b true, .b true, .b true, .b true, .b true, .l (([0, 0, 0]).map (eI .i64)), .b true, .b true, .b true, .b true, .b true, .b true, .b true, .b true, .b true, .b true, .b true, .b true, .b true, .b true, .b true, .b true, .b true, .b true, .b true, .b true, .b true, .b true, .b true, .b true, .b true, .b true, .b true, .b true, .b true, .b true, .b true, .b true, .b true, .b true]) (x := (B (r_22.2 == 1))) [ob (tabC_at (f := .fn 33 []) (xs := [F1_ r_12.1, (eI .i64) r_12.2.2, F3_ ([] : List Int), (eI .i64) 0]) (ls := []) (r := B r_23) (ys := []) [F1_ r_12.1, (eI .i64) r_12.2.2, F1_ ([] : List Int), (eI .i64) 0] (show LeTs [F1_ r_12.1, (eI .i64) r_12.2.2, F1_ ([] : List Int), (eI .i64) 0] [F1_ r_12.1, (eI .i64) r_12.2.2, F3_ ([] : List Int), (eI .i64) 0] from inferInstance)), ob (c0), ob (c0), ob (c0), ob (c1), ob (c1), ob (c2), ob (c2), ob (c2), ob (c3), ob (c3), ob (c3), ob (c3), ob (c3), ob (c3), ob (c3), ob (shM F0_ F0_ ([(Arr2.mk 0 0), (Arr2.mk 0 3), (Arr2.mk 1 1), (Arr2.mk 2 2)])), ob (tabC_at (f := .fn 43 []) (xs := [F6_ r_14.1, F7_ ([(Arr2.mk 0 0), (Arr2.mk 0 3), (Arr2.mk 1 1), (Arr2.mk 2 2)] : List (Arr2 Int))]) (ls := []) (r := B r_24) (ys := []) [F6_ r_14.1, F6_ ([(Arr2.mk 0 0), (Arr2.mk 0 3), (Arr2.mk 1 1), (Arr2.mk 2 2)] : List (Arr2 Int))] (show LeTs [F6_ r_14.1, F6_ ([(Arr2.mk 0 0), (Arr2.mk 0 3), (Arr2.mk 1 1), (Arr2.mk 2 2)] : List (Arr2 Int))] [F6_ r_14.1, F7_ ([(Arr2.mk 0 0), (Arr2.mk 0 3), (Arr2.mk 1 1), (Arr2.mk 2 2)] : List (Arr2 Int))] from inferInstance)), ob (c3), ob (c4), ob (c4), ob (c5), ob (c5), ob (c5), ob (c6), ob (c6), ob (c6), ob (c6), ob (shM (eI .i64) (eI .i64) ([0, 0, 0])), ob (tabC_at (f := .fn 33 []) (xs := [F1_ r_15.1, (eI .i64) r_15.2.2, F3_ ([0, 0, 0] : List Int), (eI .i64) 0]) (ls := []) (r := B r_25) (ys := []) [F1_ r_15.1, (eI .i64) r_15.2.2, F1_ ([0, 0, 0] : List Int), (eI .i64) 0] (show LeTs [F1_ r_15.1, (eI .i64) r_15.2.2, F1_ ([0, 0, 0] : List Int), (eI .i64) 0] [F1_ r_15.1, (eI .i64) r_15.2.2, F3_ ([0, 0, 0] : List Int), (eI .i64) 0] from inferInstance)), ob (c6), ob (c7), ob (c7), ob (c8), ob (c8), ob (c9), ob (c9), ob (c9), ob (c10), ob (c10), ob (c10), ob (c11), ob (c11), ob (c11), ob (c12), ob (c12), ob (c13), ob (c13), ob (c13), ob (c14), ob (c14), ob (c14), ob (c15), ob (c15), ob (c15), ob (c16), ob (c16), ob (c16), ob (c17), ob (c17), ob (c17), ob (c18), ob (c18), ob (c18)] (by kernel_rfl) (show LeV (B (r_22.2 == 1)) (B (r_22.2 == 1)) from inferInstance)
                                      · obtain rfl := someE hf0
                                        exact awpEnd ((xLend (P := Try.prog) TTab [] (lentCall (hasCall hC h_law10_list (x := (r_15.1, r_15.2.2, ([0, 0, 0] : List Int), 0)) h25)) 174).or ((xLend (P := Try.prog) TTab [] (lentCall (hasCall hC h_law10_pairs (x := (r_14.1, ([(Arr2.mk 0 0), (Arr2.mk 0 3), (Arr2.mk 1 1), (Arr2.mk 2 2)] : List (Arr2 Int)))) h24)) 161).or ((xLend (P := Try.prog) TTab [] (lentCall (hasCall hC h_law10_list (x := (r_12.1, r_12.2.2, ([] : List Int), 0)) h23)) 142).or X0))) TTab_ok hC hm hE 4000 (hs := [.b true, .b true, .b true, .b true, .b true, .b true, .b true, .b true, .b true, .b true, .b true, .b true, .b true, .b true, .b true, .l (([(Arr2.mk 0 0), (Arr2.mk 0 3), (Arr2.mk 1 1), (Arr2.mk 2 2)]).map F0_), .b true, .b true, .b true, .b true, .b true, .b true, .b true, .b true, .b true, .b true, .l (([0, 0, 0]).map (eI .i64)), .b true, .b true, .b true, .b true, .b true, .b true, .b true, .b true, .b true, .b true, .b true, .b true, .b true, .b true, .b true, .b true, .b true, .b true, .b true, .b true, .b true, .b true, .b true, .b true, .b true, .b true, .b true, .b true, .b true, .b true, .b true, .b false, .b false, .b false]) (x := (B false)) [ob (tabC_at (f := .fn 33 []) (xs := [F1_ r_12.1, (eI .i64) r_12.2.2, F3_ ([] : List Int), (eI .i64) 0]) (ls := []) (r := B r_23) (ys := []) [F1_ r_12.1, (eI .i64) r_12.2.2, F1_ ([] : List Int), (eI .i64) 0] (show LeTs [F1_ r_12.1, (eI .i64) r_12.2.2, F1_ ([] : List Int), (eI .i64) 0] [F1_ r_12.1, (eI .i64) r_12.2.2, F3_ ([] : List Int), (eI .i64) 0] from inferInstance)), ob (c0), ob (c0), ob (c0), ob (c1), ob (c1), ob (c2), ob (c2), ob (c2), ob (c3), ob (c3), ob (c3), ob (c3), ob (c3), ob (c3), ob (c3), ob (shM F0_ F0_ ([(Arr2.mk 0 0), (Arr2.mk 0 3), (Arr2.mk 1 1), (Arr2.mk 2 2)])), ob (tabC_at (f := .fn 43 []) (xs := [F6_ r_14.1, F7_ ([(Arr2.mk 0 0), (Arr2.mk 0 3), (Arr2.mk 1 1), (Arr2.mk 2 2)] : List (Arr2 Int))]) (ls := []) (r := B r_24) (ys := []) [F6_ r_14.1, F6_ ([(Arr2.mk 0 0), (Arr2.mk 0 3), (Arr2.mk 1 1), (Arr2.mk 2 2)] : List (Arr2 Int))] (show LeTs [F6_ r_14.1, F6_ ([(Arr2.mk 0 0), (Arr2.mk 0 3), (Arr2.mk 1 1), (Arr2.mk 2 2)] : List (Arr2 Int))] [F6_ r_14.1, F7_ ([(Arr2.mk 0 0), (Arr2.mk 0 3), (Arr2.mk 1 1), (Arr2.mk 2 2)] : List (Arr2 Int))] from inferInstance)), ob (c3), ob (c4), ob (c4), ob (c5), ob (c5), ob (c5), ob (c6), ob (c6), ob (c6), ob (c6), ob (shM (eI .i64) (eI .i64) ([0, 0, 0])), ob (tabC_at (f := .fn 33 []) (xs := [F1_ r_15.1, (eI .i64) r_15.2.2, F3_ ([0, 0, 0] : List Int), (eI .i64) 0]) (ls := []) (r := B r_25) (ys := []) [F1_ r_15.1, (eI .i64) r_15.2.2, F1_ ([0, 0, 0] : List Int), (eI .i64) 0] (show LeTs [F1_ r_15.1, (eI .i64) r_15.2.2, F1_ ([0, 0, 0] : List Int), (eI .i64) 0] [F1_ r_15.1, (eI .i64) r_15.2.2, F3_ ([0, 0, 0] : List Int), (eI .i64) 0] from inferInstance)), ob (c6), ob (c7), ob (c7), ob (c8), ob (c8), ob (c9), ob (c9), ob (c9), ob (c10), ob (c10), ob (c10), ob (c11), ob (c11), ob (c11), ob (c12), ob (c12), ob (c13), ob (c13), ob (c13), ob (c14), ob (c14), ob (c14), ob (c15), ob (c15), ob (c15), ob (c16), ob (c16), ob (c16), ob (c17), ob (c17), ob (c17), ob (c18), ob (c18), ob (c18)] (by kernel_rfl) (show LeV (B false) (B false) from inferInstance)
                                    · obtain rfl := someE hf0
                                      exact awpEnd ((xLend (P := Try.prog) TTab [] (lentCall (hasCall hC h_law10_list (x := (r_15.1, r_15.2.2, ([0, 0, 0] : List Int), 0)) h25)) 174).or ((xLend (P := Try.prog) TTab [] (lentCall (hasCall hC h_law10_pairs (x := (r_14.1, ([(Arr2.mk 0 0), (Arr2.mk 0 3), (Arr2.mk 1 1), (Arr2.mk 2 2)] : List (Arr2 Int)))) h24)) 161).or ((xLend (P := Try.prog) TTab [] (lentCall (hasCall hC h_law10_list (x := (r_12.1, r_12.2.2, ([] : List Int), 0)) h23)) 142).or X0))) TTab_ok hC hm hE 4000 (hs := [.b true, .b true, .b true, .b true, .b true, .b true, .b true, .b true, .b true, .b true, .b true, .b true, .b true, .b true, .b true, .l (([(Arr2.mk 0 0), (Arr2.mk 0 3), (Arr2.mk 1 1), (Arr2.mk 2 2)]).map F0_), .b true, .b true, .b true, .b true, .b true, .b true, .b true, .b true, .b true, .b true, .l (([0, 0, 0]).map (eI .i64)), .b true, .b true, .b true, .b true, .b true, .b true, .b true, .b true, .b true, .b true, .b true, .b true, .b true, .b true, .b true, .b true, .b true, .b true, .b true, .b true, .b true, .b true, .b true, .b true, .b true, .b true, .b true, .b true, .b false, .b false, .b false, .b false, .b false, .b false]) (x := (B false)) [ob (tabC_at (f := .fn 33 []) (xs := [F1_ r_12.1, (eI .i64) r_12.2.2, F3_ ([] : List Int), (eI .i64) 0]) (ls := []) (r := B r_23) (ys := []) [F1_ r_12.1, (eI .i64) r_12.2.2, F1_ ([] : List Int), (eI .i64) 0] (show LeTs [F1_ r_12.1, (eI .i64) r_12.2.2, F1_ ([] : List Int), (eI .i64) 0] [F1_ r_12.1, (eI .i64) r_12.2.2, F3_ ([] : List Int), (eI .i64) 0] from inferInstance)), ob (c0), ob (c0), ob (c0), ob (c1), ob (c1), ob (c2), ob (c2), ob (c2), ob (c3), ob (c3), ob (c3), ob (c3), ob (c3), ob (c3), ob (c3), ob (shM F0_ F0_ ([(Arr2.mk 0 0), (Arr2.mk 0 3), (Arr2.mk 1 1), (Arr2.mk 2 2)])), ob (tabC_at (f := .fn 43 []) (xs := [F6_ r_14.1, F7_ ([(Arr2.mk 0 0), (Arr2.mk 0 3), (Arr2.mk 1 1), (Arr2.mk 2 2)] : List (Arr2 Int))]) (ls := []) (r := B r_24) (ys := []) [F6_ r_14.1, F6_ ([(Arr2.mk 0 0), (Arr2.mk 0 3), (Arr2.mk 1 1), (Arr2.mk 2 2)] : List (Arr2 Int))] (show LeTs [F6_ r_14.1, F6_ ([(Arr2.mk 0 0), (Arr2.mk 0 3), (Arr2.mk 1 1), (Arr2.mk 2 2)] : List (Arr2 Int))] [F6_ r_14.1, F7_ ([(Arr2.mk 0 0), (Arr2.mk 0 3), (Arr2.mk 1 1), (Arr2.mk 2 2)] : List (Arr2 Int))] from inferInstance)), ob (c3), ob (c4), ob (c4), ob (c5), ob (c5), ob (c5), ob (c6), ob (c6), ob (c6), ob (c6), ob (shM (eI .i64) (eI .i64) ([0, 0, 0])), ob (tabC_at (f := .fn 33 []) (xs := [F1_ r_15.1, (eI .i64) r_15.2.2, F3_ ([0, 0, 0] : List Int), (eI .i64) 0]) (ls := []) (r := B r_25) (ys := []) [F1_ r_15.1, (eI .i64) r_15.2.2, F1_ ([0, 0, 0] : List Int), (eI .i64) 0] (show LeTs [F1_ r_15.1, (eI .i64) r_15.2.2, F1_ ([0, 0, 0] : List Int), (eI .i64) 0] [F1_ r_15.1, (eI .i64) r_15.2.2, F3_ ([0, 0, 0] : List Int), (eI .i64) 0] from inferInstance)), ob (c6), ob (c7), ob (c7), ob (c8), ob (c8), ob (c9), ob (c9), ob (c9), ob (c10), ob (c10), ob (c10), ob (c11), ob (c11), ob (c11), ob (c12), ob (c12), ob (c13), ob (c13), ob (c13), ob (c14), ob (c14), ob (c14), ob (c15), ob (c15), ob (c15), ob (c16), ob (c16), ob (c16), ob (c17), ob (c17), ob (c17), ob (Eq.refl false), ob (Eq.refl false), ob (Eq.refl false)] (by kernel_rfl) (show LeV (B false) (B false) from inferInstance)
                                  · obtain rfl := someE hf0
                                    exact awpEnd ((xLend (P := Try.prog) TTab [] (lentCall (hasCall hC h_law10_list (x := (r_15.1, r_15.2.2, ([0, 0, 0] : List Int), 0)) h25)) 174).or ((xLend (P := Try.prog) TTab [] (lentCall (hasCall hC h_law10_pairs (x := (r_14.1, ([(Arr2.mk 0 0), (Arr2.mk 0 3), (Arr2.mk 1 1), (Arr2.mk 2 2)] : List (Arr2 Int)))) h24)) 161).or ((xLend (P := Try.prog) TTab [] (lentCall (hasCall hC h_law10_list (x := (r_12.1, r_12.2.2, ([] : List Int), 0)) h23)) 142).or X0))) TTab_ok hC hm hE 4000 (hs := [.b true, .b true, .b true, .b true, .b true, .b true, .b true, .b true, .b true, .b true, .b true, .b true, .b true, .b true, .b true, .l (([(Arr2.mk 0 0), (Arr2.mk 0 3), (Arr2.mk 1 1), (Arr2.mk 2 2)]).map F0_), .b true, .b true, .b true, .b true, .b true, .b true, .b true, .b true, .b true, .b true, .l (([0, 0, 0]).map (eI .i64)), .b true, .b true, .b true, .b true, .b true, .b true, .b true, .b true, .b true, .b true, .b true, .b true, .b true, .b true, .b true, .b true, .b true, .b true, .b true, .b true, .b true, .b true, .b true, .b true, .b true, .b false, .b false, .b false, .b false, .b false, .b false, .b false, .b false, .b false]) (x := (B false)) [ob (tabC_at (f := .fn 33 []) (xs := [F1_ r_12.1, (eI .i64) r_12.2.2, F3_ ([] : List Int), (eI .i64) 0]) (ls := []) (r := B r_23) (ys := []) [F1_ r_12.1, (eI .i64) r_12.2.2, F1_ ([] : List Int), (eI .i64) 0] (show LeTs [F1_ r_12.1, (eI .i64) r_12.2.2, F1_ ([] : List Int), (eI .i64) 0] [F1_ r_12.1, (eI .i64) r_12.2.2, F3_ ([] : List Int), (eI .i64) 0] from inferInstance)), ob (c0), ob (c0), ob (c0), ob (c1), ob (c1), ob (c2), ob (c2), ob (c2), ob (c3), ob (c3), ob (c3), ob (c3), ob (c3), ob (c3), ob (c3), ob (shM F0_ F0_ ([(Arr2.mk 0 0), (Arr2.mk 0 3), (Arr2.mk 1 1), (Arr2.mk 2 2)])), ob (tabC_at (f := .fn 43 []) (xs := [F6_ r_14.1, F7_ ([(Arr2.mk 0 0), (Arr2.mk 0 3), (Arr2.mk 1 1), (Arr2.mk 2 2)] : List (Arr2 Int))]) (ls := []) (r := B r_24) (ys := []) [F6_ r_14.1, F6_ ([(Arr2.mk 0 0), (Arr2.mk 0 3), (Arr2.mk 1 1), (Arr2.mk 2 2)] : List (Arr2 Int))] (show LeTs [F6_ r_14.1, F6_ ([(Arr2.mk 0 0), (Arr2.mk 0 3), (Arr2.mk 1 1), (Arr2.mk 2 2)] : List (Arr2 Int))] [F6_ r_14.1, F7_ ([(Arr2.mk 0 0), (Arr2.mk 0 3), (Arr2.mk 1 1), (Arr2.mk 2 2)] : List (Arr2 Int))] from inferInstance)), ob (c3), ob (c4), ob (c4), ob (c5), ob (c5), ob (c5), ob (c6), ob (c6), ob (c6), ob (c6), ob (shM (eI .i64) (eI .i64) ([0, 0, 0])), ob (tabC_at (f := .fn 33 []) (xs := [F1_ r_15.1, (eI .i64) r_15.2.2, F3_ ([0, 0, 0] : List Int), (eI .i64) 0]) (ls := []) (r := B r_25) (ys := []) [F1_ r_15.1, (eI .i64) r_15.2.2, F1_ ([0, 0, 0] : List Int), (eI .i64) 0] (show LeTs [F1_ r_15.1, (eI .i64) r_15.2.2, F1_ ([0, 0, 0] : List Int), (eI .i64) 0] [F1_ r_15.1, (eI .i64) r_15.2.2, F3_ ([0, 0, 0] : List Int), (eI .i64) 0] from inferInstance)), ob (c6), ob (c7), ob (c7), ob (c8), ob (c8), ob (c9), ob (c9), ob (c9), ob (c10), ob (c10), ob (c10), ob (c11), ob (c11), ob (c11), ob (c12), ob (c12), ob (c13), ob (c13), ob (c13), ob (c14), ob (c14), ob (c14), ob (c15), ob (c15), ob (c15), ob (c16), ob (c16), ob (c16), ob (Eq.refl false), ob (Eq.refl false), ob (Eq.refl false), ob (Eq.refl false), ob (Eq.refl false), ob (Eq.refl false)] (by kernel_rfl) (show LeV (B false) (B false) from inferInstance)
                                · obtain rfl := someE hf0
                                  exact awpEnd ((xLend (P := Try.prog) TTab [] (lentCall (hasCall hC h_law10_list (x := (r_15.1, r_15.2.2, ([0, 0, 0] : List Int), 0)) h25)) 174).or ((xLend (P := Try.prog) TTab [] (lentCall (hasCall hC h_law10_pairs (x := (r_14.1, ([(Arr2.mk 0 0), (Arr2.mk 0 3), (Arr2.mk 1 1), (Arr2.mk 2 2)] : List (Arr2 Int)))) h24)) 161).or ((xLend (P := Try.prog) TTab [] (lentCall (hasCall hC h_law10_list (x := (r_12.1, r_12.2.2, ([] : List Int), 0)) h23)) 142).or X0))) TTab_ok hC hm hE 4000 (hs := [.b true, .b true, .b true, .b true, .b true, .b true, .b true, .b true, .b true, .b true, .b true, .b true, .b true, .b true, .b true, .l (([(Arr2.mk 0 0), (Arr2.mk 0 3), (Arr2.mk 1 1), (Arr2.mk 2 2)]).map F0_), .b true, .b true, .b true, .b true, .b true, .b true, .b true, .b true, .b true, .b true, .l (([0, 0, 0]).map (eI .i64)), .b true, .b true, .b true, .b true, .b true, .b true, .b true, .b true, .b true, .b true, .b true, .b true, .b true, .b true, .b true, .b true, .b true, .b true, .b true, .b true, .b true, .b true, .b false, .b false, .b false, .b false, .b false, .b false, .b false, .b false, .b false, .b false, .b false, .b false]) (x := (B false)) [ob (tabC_at (f := .fn 33 []) (xs := [F1_ r_12.1, (eI .i64) r_12.2.2, F3_ ([] : List Int), (eI .i64) 0]) (ls := []) (r := B r_23) (ys := []) [F1_ r_12.1, (eI .i64) r_12.2.2, F1_ ([] : List Int), (eI .i64) 0] (show LeTs [F1_ r_12.1, (eI .i64) r_12.2.2, F1_ ([] : List Int), (eI .i64) 0] [F1_ r_12.1, (eI .i64) r_12.2.2, F3_ ([] : List Int), (eI .i64) 0] from inferInstance)), ob (c0), ob (c0), ob (c0), ob (c1), ob (c1), ob (c2), ob (c2), ob (c2), ob (c3), ob (c3), ob (c3), ob (c3), ob (c3), ob (c3), ob (c3), ob (shM F0_ F0_ ([(Arr2.mk 0 0), (Arr2.mk 0 3), (Arr2.mk 1 1), (Arr2.mk 2 2)])), ob (tabC_at (f := .fn 43 []) (xs := [F6_ r_14.1, F7_ ([(Arr2.mk 0 0), (Arr2.mk 0 3), (Arr2.mk 1 1), (Arr2.mk 2 2)] : List (Arr2 Int))]) (ls := []) (r := B r_24) (ys := []) [F6_ r_14.1, F6_ ([(Arr2.mk 0 0), (Arr2.mk 0 3), (Arr2.mk 1 1), (Arr2.mk 2 2)] : List (Arr2 Int))] (show LeTs [F6_ r_14.1, F6_ ([(Arr2.mk 0 0), (Arr2.mk 0 3), (Arr2.mk 1 1), (Arr2.mk 2 2)] : List (Arr2 Int))] [F6_ r_14.1, F7_ ([(Arr2.mk 0 0), (Arr2.mk 0 3), (Arr2.mk 1 1), (Arr2.mk 2 2)] : List (Arr2 Int))] from inferInstance)), ob (c3), ob (c4), ob (c4), ob (c5), ob (c5), ob (c5), ob (c6), ob (c6), ob (c6), ob (c6), ob (shM (eI .i64) (eI .i64) ([0, 0, 0])), ob (tabC_at (f := .fn 33 []) (xs := [F1_ r_15.1, (eI .i64) r_15.2.2, F3_ ([0, 0, 0] : List Int), (eI .i64) 0]) (ls := []) (r := B r_25) (ys := []) [F1_ r_15.1, (eI .i64) r_15.2.2, F1_ ([0, 0, 0] : List Int), (eI .i64) 0] (show LeTs [F1_ r_15.1, (eI .i64) r_15.2.2, F1_ ([0, 0, 0] : List Int), (eI .i64) 0] [F1_ r_15.1, (eI .i64) r_15.2.2, F3_ ([0, 0, 0] : List Int), (eI .i64) 0] from inferInstance)), ob (c6), ob (c7), ob (c7), ob (c8), ob (c8), ob (c9), ob (c9), ob (c9), ob (c10), ob (c10), ob (c10), ob (c11), ob (c11), ob (c11), ob (c12), ob (c12), ob (c13), ob (c13), ob (c13), ob (c14), ob (c14), ob (c14), ob (c15), ob (c15), ob (c15), ob (Eq.refl false), ob (Eq.refl false), ob (Eq.refl false), ob (Eq.refl false), ob (Eq.refl false), ob (Eq.refl false), ob (Eq.refl false), ob (Eq.refl false), ob (Eq.refl false)] (by kernel_rfl) (show LeV (B false) (B false) from inferInstance)
                              · obtain rfl := someE hf0
                                exact awpEnd ((xLend (P := Try.prog) TTab [] (lentCall (hasCall hC h_law10_list (x := (r_15.1, r_15.2.2, ([0, 0, 0] : List Int), 0)) h25)) 174).or ((xLend (P := Try.prog) TTab [] (lentCall (hasCall hC h_law10_pairs (x := (r_14.1, ([(Arr2.mk 0 0), (Arr2.mk 0 3), (Arr2.mk 1 1), (Arr2.mk 2 2)] : List (Arr2 Int)))) h24)) 161).or ((xLend (P := Try.prog) TTab [] (lentCall (hasCall hC h_law10_list (x := (r_12.1, r_12.2.2, ([] : List Int), 0)) h23)) 142).or X0))) TTab_ok hC hm hE 4000 (hs := [.b true, .b true, .b true, .b true, .b true, .b true, .b true, .b true, .b true, .b true, .b true, .b true, .b true, .b true, .b true, .l (([(Arr2.mk 0 0), (Arr2.mk 0 3), (Arr2.mk 1 1), (Arr2.mk 2 2)]).map F0_), .b true, .b true, .b true, .b true, .b true, .b true, .b true, .b true, .b true, .b true, .l (([0, 0, 0]).map (eI .i64)), .b true, .b true, .b true, .b true, .b true, .b true, .b true, .b true, .b true, .b true, .b true, .b true, .b true, .b true, .b true, .b true, .b true, .b true, .b true, .b false, .b false, .b false, .b false, .b false, .b false, .b false, .b false, .b false, .b false, .b false, .b false, .b false, .b false, .b false]) (x := (B false)) [ob (tabC_at (f := .fn 33 []) (xs := [F1_ r_12.1, (eI .i64) r_12.2.2, F3_ ([] : List Int), (eI .i64) 0]) (ls := []) (r := B r_23) (ys := []) [F1_ r_12.1, (eI .i64) r_12.2.2, F1_ ([] : List Int), (eI .i64) 0] (show LeTs [F1_ r_12.1, (eI .i64) r_12.2.2, F1_ ([] : List Int), (eI .i64) 0] [F1_ r_12.1, (eI .i64) r_12.2.2, F3_ ([] : List Int), (eI .i64) 0] from inferInstance)), ob (c0), ob (c0), ob (c0), ob (c1), ob (c1), ob (c2), ob (c2), ob (c2), ob (c3), ob (c3), ob (c3), ob (c3), ob (c3), ob (c3), ob (c3), ob (shM F0_ F0_ ([(Arr2.mk 0 0), (Arr2.mk 0 3), (Arr2.mk 1 1), (Arr2.mk 2 2)])), ob (tabC_at (f := .fn 43 []) (xs := [F6_ r_14.1, F7_ ([(Arr2.mk 0 0), (Arr2.mk 0 3), (Arr2.mk 1 1), (Arr2.mk 2 2)] : List (Arr2 Int))]) (ls := []) (r := B r_24) (ys := []) [F6_ r_14.1, F6_ ([(Arr2.mk 0 0), (Arr2.mk 0 3), (Arr2.mk 1 1), (Arr2.mk 2 2)] : List (Arr2 Int))] (show LeTs [F6_ r_14.1, F6_ ([(Arr2.mk 0 0), (Arr2.mk 0 3), (Arr2.mk 1 1), (Arr2.mk 2 2)] : List (Arr2 Int))] [F6_ r_14.1, F7_ ([(Arr2.mk 0 0), (Arr2.mk 0 3), (Arr2.mk 1 1), (Arr2.mk 2 2)] : List (Arr2 Int))] from inferInstance)), ob (c3), ob (c4), ob (c4), ob (c5), ob (c5), ob (c5), ob (c6), ob (c6), ob (c6), ob (c6), ob (shM (eI .i64) (eI .i64) ([0, 0, 0])), ob (tabC_at (f := .fn 33 []) (xs := [F1_ r_15.1, (eI .i64) r_15.2.2, F3_ ([0, 0, 0] : List Int), (eI .i64) 0]) (ls := []) (r := B r_25) (ys := []) [F1_ r_15.1, (eI .i64) r_15.2.2, F1_ ([0, 0, 0] : List Int), (eI .i64) 0] (show LeTs [F1_ r_15.1, (eI .i64) r_15.2.2, F1_ ([0, 0, 0] : List Int), (eI .i64) 0] [F1_ r_15.1, (eI .i64) r_15.2.2, F3_ ([0, 0, 0] : List Int), (eI .i64) 0] from inferInstance)), ob (c6), ob (c7), ob (c7), ob (c8), ob (c8), ob (c9), ob (c9), ob (c9), ob (c10), ob (c10), ob (c10), ob (c11), ob (c11), ob (c11), ob (c12), ob (c12), ob (c13), ob (c13), ob (c13), ob (c14), ob (c14), ob (c14), ob (Eq.refl false), ob (Eq.refl false), ob (Eq.refl false), ob (Eq.refl false), ob (Eq.refl false), ob (Eq.refl false), ob (Eq.refl false), ob (Eq.refl false), ob (Eq.refl false), ob (Eq.refl false), ob (Eq.refl false), ob (Eq.refl false)] (by kernel_rfl) (show LeV (B false) (B false) from inferInstance)
                            · obtain rfl := someE hf0
                              exact awpEnd ((xLend (P := Try.prog) TTab [] (lentCall (hasCall hC h_law10_list (x := (r_15.1, r_15.2.2, ([0, 0, 0] : List Int), 0)) h25)) 174).or ((xLend (P := Try.prog) TTab [] (lentCall (hasCall hC h_law10_pairs (x := (r_14.1, ([(Arr2.mk 0 0), (Arr2.mk 0 3), (Arr2.mk 1 1), (Arr2.mk 2 2)] : List (Arr2 Int)))) h24)) 161).or ((xLend (P := Try.prog) TTab [] (lentCall (hasCall hC h_law10_list (x := (r_12.1, r_12.2.2, ([] : List Int), 0)) h23)) 142).or X0))) TTab_ok hC hm hE 4000 (hs := [.b true, .b true, .b true, .b true, .b true, .b true, .b true, .b true, .b true, .b true, .b true, .b true, .b true, .b true, .b true, .l (([(Arr2.mk 0 0), (Arr2.mk 0 3), (Arr2.mk 1 1), (Arr2.mk 2 2)]).map F0_), .b true, .b true, .b true, .b true, .b true, .b true, .b true, .b true, .b true, .b true, .l (([0, 0, 0]).map (eI .i64)), .b true, .b true, .b true, .b true, .b true, .b true, .b true, .b true, .b true, .b true, .b true, .b true, .b true, .b true, .b true, .b true, .b false, .b false, .b false, .b false, .b false, .b false, .b false, .b false, .b false, .b false, .b false, .b false, .b false, .b false, .b false, .b false, .b false, .b false]) (x := (B false)) [ob (tabC_at (f := .fn 33 []) (xs := [F1_ r_12.1, (eI .i64) r_12.2.2, F3_ ([] : List Int), (eI .i64) 0]) (ls := []) (r := B r_23) (ys := []) [F1_ r_12.1, (eI .i64) r_12.2.2, F1_ ([] : List Int), (eI .i64) 0] (show LeTs [F1_ r_12.1, (eI .i64) r_12.2.2, F1_ ([] : List Int), (eI .i64) 0] [F1_ r_12.1, (eI .i64) r_12.2.2, F3_ ([] : List Int), (eI .i64) 0] from inferInstance)), ob (c0), ob (c0), ob (c0), ob (c1), ob (c1), ob (c2), ob (c2), ob (c2), ob (c3), ob (c3), ob (c3), ob (c3), ob (c3), ob (c3), ob (c3), ob (shM F0_ F0_ ([(Arr2.mk 0 0), (Arr2.mk 0 3), (Arr2.mk 1 1), (Arr2.mk 2 2)])), ob (tabC_at (f := .fn 43 []) (xs := [F6_ r_14.1, F7_ ([(Arr2.mk 0 0), (Arr2.mk 0 3), (Arr2.mk 1 1), (Arr2.mk 2 2)] : List (Arr2 Int))]) (ls := []) (r := B r_24) (ys := []) [F6_ r_14.1, F6_ ([(Arr2.mk 0 0), (Arr2.mk 0 3), (Arr2.mk 1 1), (Arr2.mk 2 2)] : List (Arr2 Int))] (show LeTs [F6_ r_14.1, F6_ ([(Arr2.mk 0 0), (Arr2.mk 0 3), (Arr2.mk 1 1), (Arr2.mk 2 2)] : List (Arr2 Int))] [F6_ r_14.1, F7_ ([(Arr2.mk 0 0), (Arr2.mk 0 3), (Arr2.mk 1 1), (Arr2.mk 2 2)] : List (Arr2 Int))] from inferInstance)), ob (c3), ob (c4), ob (c4), ob (c5), ob (c5), ob (c5), ob (c6), ob (c6), ob (c6), ob (c6), ob (shM (eI .i64) (eI .i64) ([0, 0, 0])), ob (tabC_at (f := .fn 33 []) (xs := [F1_ r_15.1, (eI .i64) r_15.2.2, F3_ ([0, 0, 0] : List Int), (eI .i64) 0]) (ls := []) (r := B r_25) (ys := []) [F1_ r_15.1, (eI .i64) r_15.2.2, F1_ ([0, 0, 0] : List Int), (eI .i64) 0] (show LeTs [F1_ r_15.1, (eI .i64) r_15.2.2, F1_ ([0, 0, 0] : List Int), (eI .i64) 0] [F1_ r_15.1, (eI .i64) r_15.2.2, F3_ ([0, 0, 0] : List Int), (eI .i64) 0] from inferInstance)), ob (c6), ob (c7), ob (c7), ob (c8), ob (c8), ob (c9), ob (c9), ob (c9), ob (c10), ob (c10), ob (c10), ob (c11), ob (c11), ob (c11), ob (c12), ob (c12), ob (c13), ob (c13), ob (c13), ob (Eq.refl false), ob (Eq.refl false), ob (Eq.refl false), ob (Eq.refl false), ob (Eq.refl false), ob (Eq.refl false), ob (Eq.refl false), ob (Eq.refl false), ob (Eq.refl false), ob (Eq.refl false), ob (Eq.refl false), ob (Eq.refl false), ob (Eq.refl false), ob (Eq.refl false), ob (Eq.refl false)] (by kernel_rfl) (show LeV (B false) (B false) from inferInstance)
                          · obtain rfl := someE hf0
                            exact awpEnd ((xLend (P := Try.prog) TTab [] (lentCall (hasCall hC h_law10_list (x := (r_15.1, r_15.2.2, ([0, 0, 0] : List Int), 0)) h25)) 174).or ((xLend (P := Try.prog) TTab [] (lentCall (hasCall hC h_law10_pairs (x := (r_14.1, ([(Arr2.mk 0 0), (Arr2.mk 0 3), (Arr2.mk 1 1), (Arr2.mk 2 2)] : List (Arr2 Int)))) h24)) 161).or ((xLend (P := Try.prog) TTab [] (lentCall (hasCall hC h_law10_list (x := (r_12.1, r_12.2.2, ([] : List Int), 0)) h23)) 142).or X0))) TTab_ok hC hm hE 4000 (hs := [.b true, .b true, .b true, .b true, .b true, .b true, .b true, .b true, .b true, .b true, .b true, .b true, .b true, .b true, .b true, .l (([(Arr2.mk 0 0), (Arr2.mk 0 3), (Arr2.mk 1 1), (Arr2.mk 2 2)]).map F0_), .b true, .b true, .b true, .b true, .b true, .b true, .b true, .b true, .b true, .b true, .l (([0, 0, 0]).map (eI .i64)), .b true, .b true, .b true, .b true, .b true, .b true, .b true, .b true, .b true, .b true, .b true, .b true, .b true, .b true, .b false, .b false, .b false, .b false, .b false, .b false, .b false, .b false, .b false, .b false, .b false, .b false, .b false, .b false, .b false, .b false, .b false, .b false, .b false, .b false]) (x := (B false)) [ob (tabC_at (f := .fn 33 []) (xs := [F1_ r_12.1, (eI .i64) r_12.2.2, F3_ ([] : List Int), (eI .i64) 0]) (ls := []) (r := B r_23) (ys := []) [F1_ r_12.1, (eI .i64) r_12.2.2, F1_ ([] : List Int), (eI .i64) 0] (show LeTs [F1_ r_12.1, (eI .i64) r_12.2.2, F1_ ([] : List Int), (eI .i64) 0] [F1_ r_12.1, (eI .i64) r_12.2.2, F3_ ([] : List Int), (eI .i64) 0] from inferInstance)), ob (c0), ob (c0), ob (c0), ob (c1), ob (c1), ob (c2), ob (c2), ob (c2), ob (c3), ob (c3), ob (c3), ob (c3), ob (c3), ob (c3), ob (c3), ob (shM F0_ F0_ ([(Arr2.mk 0 0), (Arr2.mk 0 3), (Arr2.mk 1 1), (Arr2.mk 2 2)])), ob (tabC_at (f := .fn 43 []) (xs := [F6_ r_14.1, F7_ ([(Arr2.mk 0 0), (Arr2.mk 0 3), (Arr2.mk 1 1), (Arr2.mk 2 2)] : List (Arr2 Int))]) (ls := []) (r := B r_24) (ys := []) [F6_ r_14.1, F6_ ([(Arr2.mk 0 0), (Arr2.mk 0 3), (Arr2.mk 1 1), (Arr2.mk 2 2)] : List (Arr2 Int))] (show LeTs [F6_ r_14.1, F6_ ([(Arr2.mk 0 0), (Arr2.mk 0 3), (Arr2.mk 1 1), (Arr2.mk 2 2)] : List (Arr2 Int))] [F6_ r_14.1, F7_ ([(Arr2.mk 0 0), (Arr2.mk 0 3), (Arr2.mk 1 1), (Arr2.mk 2 2)] : List (Arr2 Int))] from inferInstance)), ob (c3), ob (c4), ob (c4), ob (c5), ob (c5), ob (c5), ob (c6), ob (c6), ob (c6), ob (c6), ob (shM (eI .i64) (eI .i64) ([0, 0, 0])), ob (tabC_at (f := .fn 33 []) (xs := [F1_ r_15.1, (eI .i64) r_15.2.2, F3_ ([0, 0, 0] : List Int), (eI .i64) 0]) (ls := []) (r := B r_25) (ys := []) [F1_ r_15.1, (eI .i64) r_15.2.2, F1_ ([0, 0, 0] : List Int), (eI .i64) 0] (show LeTs [F1_ r_15.1, (eI .i64) r_15.2.2, F1_ ([0, 0, 0] : List Int), (eI .i64) 0] [F1_ r_15.1, (eI .i64) r_15.2.2, F3_ ([0, 0, 0] : List Int), (eI .i64) 0] from inferInstance)), ob (c6), ob (c7), ob (c7), ob (c8), ob (c8), ob (c9), ob (c9), ob (c9), ob (c10), ob (c10), ob (c10), ob (c11), ob (c11), ob (c11), ob (c12), ob (c12), ob (Eq.refl false), ob (Eq.refl false), ob (Eq.refl false), ob (Eq.refl false), ob (Eq.refl false), ob (Eq.refl false), ob (Eq.refl false), ob (Eq.refl false), ob (Eq.refl false), ob (Eq.refl false), ob (Eq.refl false), ob (Eq.refl false), ob (Eq.refl false), ob (Eq.refl false), ob (Eq.refl false), ob (Eq.refl false), ob (Eq.refl false), ob (Eq.refl false)] (by kernel_rfl) (show LeV (B false) (B false) from inferInstance)
                        · obtain rfl := someE hf0
                          exact awpEnd ((xLend (P := Try.prog) TTab [] (lentCall (hasCall hC h_law10_list (x := (r_15.1, r_15.2.2, ([0, 0, 0] : List Int), 0)) h25)) 174).or ((xLend (P := Try.prog) TTab [] (lentCall (hasCall hC h_law10_pairs (x := (r_14.1, ([(Arr2.mk 0 0), (Arr2.mk 0 3), (Arr2.mk 1 1), (Arr2.mk 2 2)] : List (Arr2 Int)))) h24)) 161).or ((xLend (P := Try.prog) TTab [] (lentCall (hasCall hC h_law10_list (x := (r_12.1, r_12.2.2, ([] : List Int), 0)) h23)) 142).or X0))) TTab_ok hC hm hE 4000 (hs := [.b true, .b true, .b true, .b true, .b true, .b true, .b true, .b true, .b true, .b true, .b true, .b true, .b true, .b true, .b true, .l (([(Arr2.mk 0 0), (Arr2.mk 0 3), (Arr2.mk 1 1), (Arr2.mk 2 2)]).map F0_), .b true, .b true, .b true, .b true, .b true, .b true, .b true, .b true, .b true, .b true, .l (([0, 0, 0]).map (eI .i64)), .b true, .b true, .b true, .b true, .b true, .b true, .b true, .b true, .b true, .b true, .b true, .b false, .b false, .b false, .b false, .b false, .b false, .b false, .b false, .b false, .b false, .b false, .b false, .b false, .b false, .b false, .b false, .b false, .b false, .b false, .b false, .b false, .b false, .b false]) (x := (B false)) [ob (tabC_at (f := .fn 33 []) (xs := [F1_ r_12.1, (eI .i64) r_12.2.2, F3_ ([] : List Int), (eI .i64) 0]) (ls := []) (r := B r_23) (ys := []) [F1_ r_12.1, (eI .i64) r_12.2.2, F1_ ([] : List Int), (eI .i64) 0] (show LeTs [F1_ r_12.1, (eI .i64) r_12.2.2, F1_ ([] : List Int), (eI .i64) 0] [F1_ r_12.1, (eI .i64) r_12.2.2, F3_ ([] : List Int), (eI .i64) 0] from inferInstance)), ob (c0), ob (c0), ob (c0), ob (c1), ob (c1), ob (c2), ob (c2), ob (c2), ob (c3), ob (c3), ob (c3), ob (c3), ob (c3), ob (c3), ob (c3), ob (shM F0_ F0_ ([(Arr2.mk 0 0), (Arr2.mk 0 3), (Arr2.mk 1 1), (Arr2.mk 2 2)])), ob (tabC_at (f := .fn 43 []) (xs := [F6_ r_14.1, F7_ ([(Arr2.mk 0 0), (Arr2.mk 0 3), (Arr2.mk 1 1), (Arr2.mk 2 2)] : List (Arr2 Int))]) (ls := []) (r := B r_24) (ys := []) [F6_ r_14.1, F6_ ([(Arr2.mk 0 0), (Arr2.mk 0 3), (Arr2.mk 1 1), (Arr2.mk 2 2)] : List (Arr2 Int))] (show LeTs [F6_ r_14.1, F6_ ([(Arr2.mk 0 0), (Arr2.mk 0 3), (Arr2.mk 1 1), (Arr2.mk 2 2)] : List (Arr2 Int))] [F6_ r_14.1, F7_ ([(Arr2.mk 0 0), (Arr2.mk 0 3), (Arr2.mk 1 1), (Arr2.mk 2 2)] : List (Arr2 Int))] from inferInstance)), ob (c3), ob (c4), ob (c4), ob (c5), ob (c5), ob (c5), ob (c6), ob (c6), ob (c6), ob (c6), ob (shM (eI .i64) (eI .i64) ([0, 0, 0])), ob (tabC_at (f := .fn 33 []) (xs := [F1_ r_15.1, (eI .i64) r_15.2.2, F3_ ([0, 0, 0] : List Int), (eI .i64) 0]) (ls := []) (r := B r_25) (ys := []) [F1_ r_15.1, (eI .i64) r_15.2.2, F1_ ([0, 0, 0] : List Int), (eI .i64) 0] (show LeTs [F1_ r_15.1, (eI .i64) r_15.2.2, F1_ ([0, 0, 0] : List Int), (eI .i64) 0] [F1_ r_15.1, (eI .i64) r_15.2.2, F3_ ([0, 0, 0] : List Int), (eI .i64) 0] from inferInstance)), ob (c6), ob (c7), ob (c7), ob (c8), ob (c8), ob (c9), ob (c9), ob (c9), ob (c10), ob (c10), ob (c10), ob (c11), ob (c11), ob (c11), ob (Eq.refl false), ob (Eq.refl false), ob (Eq.refl false), ob (Eq.refl false), ob (Eq.refl false), ob (Eq.refl false), ob (Eq.refl false), ob (Eq.refl false), ob (Eq.refl false), ob (Eq.refl false), ob (Eq.refl false), ob (Eq.refl false), ob (Eq.refl false), ob (Eq.refl false), ob (Eq.refl false), ob (Eq.refl false), ob (Eq.refl false), ob (Eq.refl false), ob (Eq.refl false), ob (Eq.refl false)] (by kernel_rfl) (show LeV (B false) (B false) from inferInstance)
                      · obtain rfl := someE hf0
                        exact awpEnd ((xLend (P := Try.prog) TTab [] (lentCall (hasCall hC h_law10_list (x := (r_15.1, r_15.2.2, ([0, 0, 0] : List Int), 0)) h25)) 174).or ((xLend (P := Try.prog) TTab [] (lentCall (hasCall hC h_law10_pairs (x := (r_14.1, ([(Arr2.mk 0 0), (Arr2.mk 0 3), (Arr2.mk 1 1), (Arr2.mk 2 2)] : List (Arr2 Int)))) h24)) 161).or ((xLend (P := Try.prog) TTab [] (lentCall (hasCall hC h_law10_list (x := (r_12.1, r_12.2.2, ([] : List Int), 0)) h23)) 142).or X0))) TTab_ok hC hm hE 4000 (hs := [.b true, .b true, .b true, .b true, .b true, .b true, .b true, .b true, .b true, .b true, .b true, .b true, .b true, .b true, .b true, .l (([(Arr2.mk 0 0), (Arr2.mk 0 3), (Arr2.mk 1 1), (Arr2.mk 2 2)]).map F0_), .b true, .b true, .b true, .b true, .b true, .b true, .b true, .b true, .b true, .b true, .l (([0, 0, 0]).map (eI .i64)), .b true, .b true, .b true, .b true, .b true, .b true, .b true, .b true, .b false, .b false, .b false, .b false, .b false, .b false, .b false, .b false, .b false, .b false, .b false, .b false, .b false, .b false, .b false, .b false, .b false, .b false, .b false, .b false, .b false, .b false, .b false, .b false, .b false, .b false]) (x := (B false)) [ob (tabC_at (f := .fn 33 []) (xs := [F1_ r_12.1, (eI .i64) r_12.2.2, F3_ ([] : List Int), (eI .i64) 0]) (ls := []) (r := B r_23) (ys := []) [F1_ r_12.1, (eI .i64) r_12.2.2, F1_ ([] : List Int), (eI .i64) 0] (show LeTs [F1_ r_12.1, (eI .i64) r_12.2.2, F1_ ([] : List Int), (eI .i64) 0] [F1_ r_12.1, (eI .i64) r_12.2.2, F3_ ([] : List Int), (eI .i64) 0] from inferInstance)), ob (c0), ob (c0), ob (c0), ob (c1), ob (c1), ob (c2), ob (c2), ob (c2), ob (c3), ob (c3), ob (c3), ob (c3), ob (c3), ob (c3), ob (c3), ob (shM F0_ F0_ ([(Arr2.mk 0 0), (Arr2.mk 0 3), (Arr2.mk 1 1), (Arr2.mk 2 2)])), ob (tabC_at (f := .fn 43 []) (xs := [F6_ r_14.1, F7_ ([(Arr2.mk 0 0), (Arr2.mk 0 3), (Arr2.mk 1 1), (Arr2.mk 2 2)] : List (Arr2 Int))]) (ls := []) (r := B r_24) (ys := []) [F6_ r_14.1, F6_ ([(Arr2.mk 0 0), (Arr2.mk 0 3), (Arr2.mk 1 1), (Arr2.mk 2 2)] : List (Arr2 Int))] (show LeTs [F6_ r_14.1, F6_ ([(Arr2.mk 0 0), (Arr2.mk 0 3), (Arr2.mk 1 1), (Arr2.mk 2 2)] : List (Arr2 Int))] [F6_ r_14.1, F7_ ([(Arr2.mk 0 0), (Arr2.mk 0 3), (Arr2.mk 1 1), (Arr2.mk 2 2)] : List (Arr2 Int))] from inferInstance)), ob (c3), ob (c4), ob (c4), ob (c5), ob (c5), ob (c5), ob (c6), ob (c6), ob (c6), ob (c6), ob (shM (eI .i64) (eI .i64) ([0, 0, 0])), ob (tabC_at (f := .fn 33 []) (xs := [F1_ r_15.1, (eI .i64) r_15.2.2, F3_ ([0, 0, 0] : List Int), (eI .i64) 0]) (ls := []) (r := B r_25) (ys := []) [F1_ r_15.1, (eI .i64) r_15.2.2, F1_ ([0, 0, 0] : List Int), (eI .i64) 0] (show LeTs [F1_ r_15.1, (eI .i64) r_15.2.2, F1_ ([0, 0, 0] : List Int), (eI .i64) 0] [F1_ r_15.1, (eI .i64) r_15.2.2, F3_ ([0, 0, 0] : List Int), (eI .i64) 0] from inferInstance)), ob (c6), ob (c7), ob (c7), ob (c8), ob (c8), ob (c9), ob (c9), ob (c9), ob (c10), ob (c10), ob (c10), ob (Eq.refl false), ob (Eq.refl false), ob (Eq.refl false), ob (Eq.refl false), ob (Eq.refl false), ob (Eq.refl false), ob (Eq.refl false), ob (Eq.refl false), ob (Eq.refl false), ob (Eq.refl false), ob (Eq.refl false), ob (Eq.refl false), ob (Eq.refl false), ob (Eq.refl false), ob (Eq.refl false), ob (Eq.refl false), ob (Eq.refl false), ob (Eq.refl false), ob (Eq.refl false), ob (Eq.refl false), ob (Eq.refl false), ob (Eq.refl false), ob (Eq.refl false)] (by kernel_rfl) (show LeV (B false) (B false) from inferInstance)
                    · obtain rfl := someE hf0
                      exact awpEnd ((xLend (P := Try.prog) TTab [] (lentCall (hasCall hC h_law10_list (x := (r_15.1, r_15.2.2, ([0, 0, 0] : List Int), 0)) h25)) 174).or ((xLend (P := Try.prog) TTab [] (lentCall (hasCall hC h_law10_pairs (x := (r_14.1, ([(Arr2.mk 0 0), (Arr2.mk 0 3), (Arr2.mk 1 1), (Arr2.mk 2 2)] : List (Arr2 Int)))) h24)) 161).or ((xLend (P := Try.prog) TTab [] (lentCall (hasCall hC h_law10_list (x := (r_12.1, r_12.2.2, ([] : List Int), 0)) h23)) 142).or X0))) TTab_ok hC hm hE 4000 (hs := [.b true, .b true, .b true, .b true, .b true, .b true, .b true, .b true, .b true, .b true, .b true, .b true, .b true, .b true, .b true, .l (([(Arr2.mk 0 0), (Arr2.mk 0 3), (Arr2.mk 1 1), (Arr2.mk 2 2)]).map F0_), .b true, .b true, .b true, .b true, .b true, .b true, .b true, .b true, .b true, .b true, .l (([0, 0, 0]).map (eI .i64)), .b true, .b true, .b true, .b true, .b true, .b false, .b false, .b false, .b false, .b false, .b false, .b false, .b false, .b false, .b false, .b false, .b false, .b false, .b false, .b false, .b false, .b false, .b false, .b false, .b false, .b false, .b false, .b false, .b false, .b false, .b false, .b false, .b false, .b false]) (x := (B false)) [ob (tabC_at (f := .fn 33 []) (xs := [F1_ r_12.1, (eI .i64) r_12.2.2, F3_ ([] : List Int), (eI .i64) 0]) (ls := []) (r := B r_23) (ys := []) [F1_ r_12.1, (eI .i64) r_12.2.2, F1_ ([] : List Int), (eI .i64) 0] (show LeTs [F1_ r_12.1, (eI .i64) r_12.2.2, F1_ ([] : List Int), (eI .i64) 0] [F1_ r_12.1, (eI .i64) r_12.2.2, F3_ ([] : List Int), (eI .i64) 0] from inferInstance)), ob (c0), ob (c0), ob (c0), ob (c1), ob (c1), ob (c2), ob (c2), ob (c2), ob (c3), ob (c3), ob (c3), ob (c3), ob (c3), ob (c3), ob (c3), ob (shM F0_ F0_ ([(Arr2.mk 0 0), (Arr2.mk 0 3), (Arr2.mk 1 1), (Arr2.mk 2 2)])), ob (tabC_at (f := .fn 43 []) (xs := [F6_ r_14.1, F7_ ([(Arr2.mk 0 0), (Arr2.mk 0 3), (Arr2.mk 1 1), (Arr2.mk 2 2)] : List (Arr2 Int))]) (ls := []) (r := B r_24) (ys := []) [F6_ r_14.1, F6_ ([(Arr2.mk 0 0), (Arr2.mk 0 3), (Arr2.mk 1 1), (Arr2.mk 2 2)] : List (Arr2 Int))] (show LeTs [F6_ r_14.1, F6_ ([(Arr2.mk 0 0), (Arr2.mk 0 3), (Arr2.mk 1 1), (Arr2.mk 2 2)] : List (Arr2 Int))] [F6_ r_14.1, F7_ ([(Arr2.mk 0 0), (Arr2.mk 0 3), (Arr2.mk 1 1), (Arr2.mk 2 2)] : List (Arr2 Int))] from inferInstance)), ob (c3), ob (c4), ob (c4), ob (c5), ob (c5), ob (c5), ob (c6), ob (c6), ob (c6), ob (c6), ob (shM (eI .i64) (eI .i64) ([0, 0, 0])), ob (tabC_at (f := .fn 33 []) (xs := [F1_ r_15.1, (eI .i64) r_15.2.2, F3_ ([0, 0, 0] : List Int), (eI .i64) 0]) (ls := []) (r := B r_25) (ys := []) [F1_ r_15.1, (eI .i64) r_15.2.2, F1_ ([0, 0, 0] : List Int), (eI .i64) 0] (show LeTs [F1_ r_15.1, (eI .i64) r_15.2.2, F1_ ([0, 0, 0] : List Int), (eI .i64) 0] [F1_ r_15.1, (eI .i64) r_15.2.2, F3_ ([0, 0, 0] : List Int), (eI .i64) 0] from inferInstance)), ob (c6), ob (c7), ob (c7), ob (c8), ob (c8), ob (c9), ob (c9), ob (c9), ob (Eq.refl false), ob (Eq.refl false), ob (Eq.refl false), ob (Eq.refl false), ob (Eq.refl false), ob (Eq.refl false), ob (Eq.refl false), ob (Eq.refl false), ob (Eq.refl false), ob (Eq.refl false), ob (Eq.refl false), ob (Eq.refl false), ob (Eq.refl false), ob (Eq.refl false), ob (Eq.refl false), ob (Eq.refl false), ob (Eq.refl false), ob (Eq.refl false), ob (Eq.refl false), ob (Eq.refl false), ob (Eq.refl false), ob (Eq.refl false), ob (Eq.refl false), ob (Eq.refl false), ob (Eq.refl false), ob (Eq.refl false)] (by kernel_rfl) (show LeV (B false) (B false) from inferInstance)
                  · obtain rfl := someE hf0
                    exact awpEnd ((xLend (P := Try.prog) TTab [] (lentCall (hasCall hC h_law10_list (x := (r_15.1, r_15.2.2, ([0, 0, 0] : List Int), 0)) h25)) 174).or ((xLend (P := Try.prog) TTab [] (lentCall (hasCall hC h_law10_pairs (x := (r_14.1, ([(Arr2.mk 0 0), (Arr2.mk 0 3), (Arr2.mk 1 1), (Arr2.mk 2 2)] : List (Arr2 Int)))) h24)) 161).or ((xLend (P := Try.prog) TTab [] (lentCall (hasCall hC h_law10_list (x := (r_12.1, r_12.2.2, ([] : List Int), 0)) h23)) 142).or X0))) TTab_ok hC hm hE 4000 (hs := [.b true, .b true, .b true, .b true, .b true, .b true, .b true, .b true, .b true, .b true, .b true, .b true, .b true, .b true, .b true, .l (([(Arr2.mk 0 0), (Arr2.mk 0 3), (Arr2.mk 1 1), (Arr2.mk 2 2)]).map F0_), .b true, .b true, .b true, .b true, .b true, .b true, .b true, .b true, .b true, .b true, .l (([0, 0, 0]).map (eI .i64)), .b true, .b true, .b true, .b false, .b false, .b false, .b false, .b false, .b false, .b false, .b false, .b false, .b false, .b false, .b false, .b false, .b false, .b false, .b false, .b false, .b false, .b false, .b false, .b false, .b false, .b false, .b false, .b false, .b false, .b false, .b false, .b false, .b false, .b false]) (x := (B false)) [ob (tabC_at (f := .fn 33 []) (xs := [F1_ r_12.1, (eI .i64) r_12.2.2, F3_ ([] : List Int), (eI .i64) 0]) (ls := []) (r := B r_23) (ys := []) [F1_ r_12.1, (eI .i64) r_12.2.2, F1_ ([] : List Int), (eI .i64) 0] (show LeTs [F1_ r_12.1, (eI .i64) r_12.2.2, F1_ ([] : List Int), (eI .i64) 0] [F1_ r_12.1, (eI .i64) r_12.2.2, F3_ ([] : List Int), (eI .i64) 0] from inferInstance)), ob (c0), ob (c0), ob (c0), ob (c1), ob (c1), ob (c2), ob (c2), ob (c2), ob (c3), ob (c3), ob (c3), ob (c3), ob (c3), ob (c3), ob (c3), ob (shM F0_ F0_ ([(Arr2.mk 0 0), (Arr2.mk 0 3), (Arr2.mk 1 1), (Arr2.mk 2 2)])), ob (tabC_at (f := .fn 43 []) (xs := [F6_ r_14.1, F7_ ([(Arr2.mk 0 0), (Arr2.mk 0 3), (Arr2.mk 1 1), (Arr2.mk 2 2)] : List (Arr2 Int))]) (ls := []) (r := B r_24) (ys := []) [F6_ r_14.1, F6_ ([(Arr2.mk 0 0), (Arr2.mk 0 3), (Arr2.mk 1 1), (Arr2.mk 2 2)] : List (Arr2 Int))] (show LeTs [F6_ r_14.1, F6_ ([(Arr2.mk 0 0), (Arr2.mk 0 3), (Arr2.mk 1 1), (Arr2.mk 2 2)] : List (Arr2 Int))] [F6_ r_14.1, F7_ ([(Arr2.mk 0 0), (Arr2.mk 0 3), (Arr2.mk 1 1), (Arr2.mk 2 2)] : List (Arr2 Int))] from inferInstance)), ob (c3), ob (c4), ob (c4), ob (c5), ob (c5), ob (c5), ob (c6), ob (c6), ob (c6), ob (c6), ob (shM (eI .i64) (eI .i64) ([0, 0, 0])), ob (tabC_at (f := .fn 33 []) (xs := [F1_ r_15.1, (eI .i64) r_15.2.2, F3_ ([0, 0, 0] : List Int), (eI .i64) 0]) (ls := []) (r := B r_25) (ys := []) [F1_ r_15.1, (eI .i64) r_15.2.2, F1_ ([0, 0, 0] : List Int), (eI .i64) 0] (show LeTs [F1_ r_15.1, (eI .i64) r_15.2.2, F1_ ([0, 0, 0] : List Int), (eI .i64) 0] [F1_ r_15.1, (eI .i64) r_15.2.2, F3_ ([0, 0, 0] : List Int), (eI .i64) 0] from inferInstance)), ob (c6), ob (c7), ob (c7), ob (c8), ob (c8), ob (Eq.refl false), ob (Eq.refl false), ob (Eq.refl false), ob (Eq.refl false), ob (Eq.refl false), ob (Eq.refl false), ob (Eq.refl false), ob (Eq.refl false), ob (Eq.refl false), ob (Eq.refl false), ob (Eq.refl false), ob (Eq.refl false), ob (Eq.refl false), ob (Eq.refl false), ob (Eq.refl false), ob (Eq.refl false), ob (Eq.refl false), ob (Eq.refl false), ob (Eq.refl false), ob (Eq.refl false), ob (Eq.refl false), ob (Eq.refl false), ob (Eq.refl false), ob (Eq.refl false), ob (Eq.refl false), ob (Eq.refl false), ob (Eq.refl false), ob (Eq.refl false), ob (Eq.refl false)] (by kernel_rfl) (show LeV (B false) (B false) from inferInstance)
                · obtain rfl := someE hf0
                  exact awpEnd ((xLend (P := Try.prog) TTab [] (lentCall (hasCall hC h_law10_list (x := (r_15.1, r_15.2.2, ([0, 0, 0] : List Int), 0)) h25)) 174).or ((xLend (P := Try.prog) TTab [] (lentCall (hasCall hC h_law10_pairs (x := (r_14.1, ([(Arr2.mk 0 0), (Arr2.mk 0 3), (Arr2.mk 1 1), (Arr2.mk 2 2)] : List (Arr2 Int)))) h24)) 161).or ((xLend (P := Try.prog) TTab [] (lentCall (hasCall hC h_law10_list (x := (r_12.1, r_12.2.2, ([] : List Int), 0)) h23)) 142).or X0))) TTab_ok hC hm hE 4000 (hs := [.b true, .b true, .b true, .b true, .b true, .b true, .b true, .b true, .b true, .b true, .b true, .b true, .b true, .b true, .b true, .l (([(Arr2.mk 0 0), (Arr2.mk 0 3), (Arr2.mk 1 1), (Arr2.mk 2 2)]).map F0_), .b true, .b true, .b true, .b true, .b true, .b true, .b true, .b true, .b true, .b true, .l (([0, 0, 0]).map (eI .i64)), .b true, .b false, .b false, .b false, .b false, .b false, .b false, .b false, .b false, .b false, .b false, .b false, .b false, .b false, .b false, .b false, .b false, .b false, .b false, .b false, .b false, .b false, .b false, .b false, .b false, .b false, .b false, .b false, .b false, .b false, .b false, .b false, .b false, .b false]) (x := (B false)) [ob (tabC_at (f := .fn 33 []) (xs := [F1_ r_12.1, (eI .i64) r_12.2.2, F3_ ([] : List Int), (eI .i64) 0]) (ls := []) (r := B r_23) (ys := []) [F1_ r_12.1, (eI .i64) r_12.2.2, F1_ ([] : List Int), (eI .i64) 0] (show LeTs [F1_ r_12.1, (eI .i64) r_12.2.2, F1_ ([] : List Int), (eI .i64) 0] [F1_ r_12.1, (eI .i64) r_12.2.2, F3_ ([] : List Int), (eI .i64) 0] from inferInstance)), ob (c0), ob (c0), ob (c0), ob (c1), ob (c1), ob (c2), ob (c2), ob (c2), ob (c3), ob (c3), ob (c3), ob (c3), ob (c3), ob (c3), ob (c3), ob (shM F0_ F0_ ([(Arr2.mk 0 0), (Arr2.mk 0 3), (Arr2.mk 1 1), (Arr2.mk 2 2)])), ob (tabC_at (f := .fn 43 []) (xs := [F6_ r_14.1, F7_ ([(Arr2.mk 0 0), (Arr2.mk 0 3), (Arr2.mk 1 1), (Arr2.mk 2 2)] : List (Arr2 Int))]) (ls := []) (r := B r_24) (ys := []) [F6_ r_14.1, F6_ ([(Arr2.mk 0 0), (Arr2.mk 0 3), (Arr2.mk 1 1), (Arr2.mk 2 2)] : List (Arr2 Int))] (show LeTs [F6_ r_14.1, F6_ ([(Arr2.mk 0 0), (Arr2.mk 0 3), (Arr2.mk 1 1), (Arr2.mk 2 2)] : List (Arr2 Int))] [F6_ r_14.1, F7_ ([(Arr2.mk 0 0), (Arr2.mk 0 3), (Arr2.mk 1 1), (Arr2.mk 2 2)] : List (Arr2 Int))] from inferInstance)), ob (c3), ob (c4), ob (c4), ob (c5), ob (c5), ob (c5), ob (c6), ob (c6), ob (c6), ob (c6), ob (shM (eI .i64) (eI .i64) ([0, 0, 0])), ob (tabC_at (f := .fn 33 []) (xs := [F1_ r_15.1, (eI .i64) r_15.2.2, F3_ ([0, 0, 0] : List Int), (eI .i64) 0]) (ls := []) (r := B r_25) (ys := []) [F1_ r_15.1, (eI .i64) r_15.2.2, F1_ ([0, 0, 0] : List Int), (eI .i64) 0] (show LeTs [F1_ r_15.1, (eI .i64) r_15.2.2, F1_ ([0, 0, 0] : List Int), (eI .i64) 0] [F1_ r_15.1, (eI .i64) r_15.2.2, F3_ ([0, 0, 0] : List Int), (eI .i64) 0] from inferInstance)), ob (c6), ob (c7), ob (c7), ob (Eq.refl false), ob (Eq.refl false), ob (Eq.refl false), ob (Eq.refl false), ob (Eq.refl false), ob (Eq.refl false), ob (Eq.refl false), ob (Eq.refl false), ob (Eq.refl false), ob (Eq.refl false), ob (Eq.refl false), ob (Eq.refl false), ob (Eq.refl false), ob (Eq.refl false), ob (Eq.refl false), ob (Eq.refl false), ob (Eq.refl false), ob (Eq.refl false), ob (Eq.refl false), ob (Eq.refl false), ob (Eq.refl false), ob (Eq.refl false), ob (Eq.refl false), ob (Eq.refl false), ob (Eq.refl false), ob (Eq.refl false), ob (Eq.refl false), ob (Eq.refl false), ob (Eq.refl false), ob (Eq.refl false), ob (Eq.refl false)] (by kernel_rfl) (show LeV (B false) (B false) from inferInstance)
              · obtain rfl := someE hf0
                exact awpEnd ((xLend (P := Try.prog) TTab [] (lentCall (hasCall hC h_law10_pairs (x := (r_14.1, ([(Arr2.mk 0 0), (Arr2.mk 0 3), (Arr2.mk 1 1), (Arr2.mk 2 2)] : List (Arr2 Int)))) h24)) 161).or ((xLend (P := Try.prog) TTab [] (lentCall (hasCall hC h_law10_list (x := (r_12.1, r_12.2.2, ([] : List Int), 0)) h23)) 142).or X0)) TTab_ok hC hm hE 4000 (hs := [.b true, .b true, .b true, .b true, .b true, .b true, .b true, .b true, .b true, .b true, .b true, .b true, .b true, .b true, .b true, .l (([(Arr2.mk 0 0), (Arr2.mk 0 3), (Arr2.mk 1 1), (Arr2.mk 2 2)]).map F0_), .b true, .b true, .b true, .b true, .b true, .b true, .b false, .b false, .b false, .b false, .b false, .b false, .b false, .b false, .b false, .b false, .b false, .b false, .b false, .b false, .b false, .b false, .b false, .b false, .b false, .b false, .b false, .b false, .b false, .b false, .b false, .b false, .b false, .b false, .b false, .b false, .b false, .b false, .b false, .b false, .b false, .b false, .b false, .b false]) (x := (B false)) [ob (tabC_at (f := .fn 33 []) (xs := [F1_ r_12.1, (eI .i64) r_12.2.2, F3_ ([] : List Int), (eI .i64) 0]) (ls := []) (r := B r_23) (ys := []) [F1_ r_12.1, (eI .i64) r_12.2.2, F1_ ([] : List Int), (eI .i64) 0] (show LeTs [F1_ r_12.1, (eI .i64) r_12.2.2, F1_ ([] : List Int), (eI .i64) 0] [F1_ r_12.1, (eI .i64) r_12.2.2, F3_ ([] : List Int), (eI .i64) 0] from inferInstance)), ob (c0), ob (c0), ob (c0), ob (c1), ob (c1), ob (c2), ob (c2), ob (c2), ob (c3), ob (c3), ob (c3), ob (c3), ob (c3), ob (c3), ob (c3), ob (shM F0_ F0_ ([(Arr2.mk 0 0), (Arr2.mk 0 3), (Arr2.mk 1 1), (Arr2.mk 2 2)])), ob (tabC_at (f := .fn 43 []) (xs := [F6_ r_14.1, F7_ ([(Arr2.mk 0 0), (Arr2.mk 0 3), (Arr2.mk 1 1), (Arr2.mk 2 2)] : List (Arr2 Int))]) (ls := []) (r := B r_24) (ys := []) [F6_ r_14.1, F6_ ([(Arr2.mk 0 0), (Arr2.mk 0 3), (Arr2.mk 1 1), (Arr2.mk 2 2)] : List (Arr2 Int))] (show LeTs [F6_ r_14.1, F6_ ([(Arr2.mk 0 0), (Arr2.mk 0 3), (Arr2.mk 1 1), (Arr2.mk 2 2)] : List (Arr2 Int))] [F6_ r_14.1, F7_ ([(Arr2.mk 0 0), (Arr2.mk 0 3), (Arr2.mk 1 1), (Arr2.mk 2 2)] : List (Arr2 Int))] from inferInstance)), ob (c3), ob (c4), ob (c4), ob (c5), ob (c5), ob (c5), ob (c6), ob (c6), ob (c6), ob (c6), ob (c6), ob (Eq.refl false), ob (Eq.refl false), ob (Eq.refl false), ob (Eq.refl false), ob (Eq.refl false), ob (Eq.refl false), ob (Eq.refl false), ob (Eq.refl false), ob (Eq.refl false), ob (Eq.refl false), ob (Eq.refl false), ob (Eq.refl false), ob (Eq.refl false), ob (Eq.refl false), ob (Eq.refl false), ob (Eq.refl false), ob (Eq.refl false), ob (Eq.refl false), ob (Eq.refl false), ob (Eq.refl false), ob (Eq.refl false), ob (Eq.refl false), ob (Eq.refl false), ob (Eq.refl false), ob (Eq.refl false), ob (Eq.refl false), ob (Eq.refl false), ob (Eq.refl false), ob (Eq.refl false), ob (Eq.refl false), ob (Eq.refl false), ob (Eq.refl false), ob (Eq.refl false)] (by kernel_rfl) (show LeV (B false) (B false) from inferInstance)
            · obtain rfl := someE hf0
              exact awpEnd ((xLend (P := Try.prog) TTab [] (lentCall (hasCall hC h_law10_pairs (x := (r_14.1, ([(Arr2.mk 0 0), (Arr2.mk 0 3), (Arr2.mk 1 1), (Arr2.mk 2 2)] : List (Arr2 Int)))) h24)) 161).or ((xLend (P := Try.prog) TTab [] (lentCall (hasCall hC h_law10_list (x := (r_12.1, r_12.2.2, ([] : List Int), 0)) h23)) 142).or X0)) TTab_ok hC hm hE 4000 (hs := [.b true, .b true, .b true, .b true, .b true, .b true, .b true, .b true, .b true, .b true, .b true, .b true, .b true, .b true, .b true, .l (([(Arr2.mk 0 0), (Arr2.mk 0 3), (Arr2.mk 1 1), (Arr2.mk 2 2)]).map F0_), .b true, .b true, .b true, .b false, .b false, .b false, .b false, .b false, .b false, .b false, .b false, .b false, .b false, .b false, .b false, .b false, .b false, .b false, .b false, .b false, .b false, .b false, .b false, .b false, .b false, .b false, .b false, .b false, .b false, .b false, .b false, .b false, .b false, .b false, .b false, .b false, .b false, .b false, .b false, .b false, .b false, .b false, .b false, .b false]) (x := (B false)) [ob (tabC_at (f := .fn 33 []) (xs := [F1_ r_12.1, (eI .i64) r_12.2.2, F3_ ([] : List Int), (eI .i64) 0]) (ls := []) (r := B r_23) (ys := []) [F1_ r_12.1, (eI .i64) r_12.2.2, F1_ ([] : List Int), (eI .i64) 0] (show LeTs [F1_ r_12.1, (eI .i64) r_12.2.2, F1_ ([] : List Int), (eI .i64) 0] [F1_ r_12.1, (eI .i64) r_12.2.2, F3_ ([] : List Int), (eI .i64) 0] from inferInstance)), ob (c0), ob (c0), ob (c0), ob (c1), ob (c1), ob (c2), ob (c2), ob (c2), ob (c3), ob (c3), ob (c3), ob (c3), ob (c3), ob (c3), ob (c3), ob (shM F0_ F0_ ([(Arr2.mk 0 0), (Arr2.mk 0 3), (Arr2.mk 1 1), (Arr2.mk 2 2)])), ob (tabC_at (f := .fn 43 []) (xs := [F6_ r_14.1, F7_ ([(Arr2.mk 0 0), (Arr2.mk 0 3), (Arr2.mk 1 1), (Arr2.mk 2 2)] : List (Arr2 Int))]) (ls := []) (r := B r_24) (ys := []) [F6_ r_14.1, F6_ ([(Arr2.mk 0 0), (Arr2.mk 0 3), (Arr2.mk 1 1), (Arr2.mk 2 2)] : List (Arr2 Int))] (show LeTs [F6_ r_14.1, F6_ ([(Arr2.mk 0 0), (Arr2.mk 0 3), (Arr2.mk 1 1), (Arr2.mk 2 2)] : List (Arr2 Int))] [F6_ r_14.1, F7_ ([(Arr2.mk 0 0), (Arr2.mk 0 3), (Arr2.mk 1 1), (Arr2.mk 2 2)] : List (Arr2 Int))] from inferInstance)), ob (c3), ob (c4), ob (c4), ob (c5), ob (c5), ob (c5), ob (Eq.refl false), ob (Eq.refl false), ob (Eq.refl false), ob (Eq.refl false), ob (Eq.refl false), ob (Eq.refl false), ob (Eq.refl false), ob (Eq.refl false), ob (Eq.refl false), ob (Eq.refl false), ob (Eq.refl false), ob (Eq.refl false), ob (Eq.refl false), ob (Eq.refl false), ob (Eq.refl false), ob (Eq.refl false), ob (Eq.refl false), ob (Eq.refl false), ob (Eq.refl false), ob (Eq.refl false), ob (Eq.refl false), ob (Eq.refl false), ob (Eq.refl false), ob (Eq.refl false), ob (Eq.refl false), ob (Eq.refl false), ob (Eq.refl false), ob (Eq.refl false), ob (Eq.refl false), ob (Eq.refl false), ob (Eq.refl false), ob (Eq.refl false), ob (Eq.refl false), ob (Eq.refl false), ob (Eq.refl false), ob (Eq.refl false), ob (Eq.refl false), ob (Eq.refl false)] (by kernel_rfl) (show LeV (B false) (B false) from inferInstance)
          · obtain rfl := someE hf0
            exact awpEnd ((xLend (P := Try.prog) TTab [] (lentCall (hasCall hC h_law10_pairs (x := (r_14.1, ([(Arr2.mk 0 0), (Arr2.mk 0 3), (Arr2.mk 1 1), (Arr2.mk 2 2)] : List (Arr2 Int)))) h24)) 161).or ((xLend (P := Try.prog) TTab [] (lentCall (hasCall hC h_law10_list (x := (r_12.1, r_12.2.2, ([] : List Int), 0)) h23)) 142).or X0)) TTab_ok hC hm hE 4000 (hs := [.b true, .b true, .b true, .b true, .b true, .b true, .b true, .b true, .b true, .b true, .b true, .b true, .b true, .b true, .b true, .l (([(Arr2.mk 0 0), (Arr2.mk 0 3), (Arr2.mk 1 1), (Arr2.mk 2 2)]).map F0_), .b true, .b false, .b false, .b false, .b false, .b false, .b false, .b false, .b false, .b false, .b false, .b false, .b false, .b false, .b false, .b false, .b false, .b false, .b false, .b false, .b false, .b false, .b false, .b false, .b false, .b false, .b false, .b false, .b false, .b false, .b false, .b false, .b false, .b false, .b false, .b false, .b false, .b false, .b false, .b false, .b false, .b false, .b false, .b false]) (x := (B false)) [ob (tabC_at (f := .fn 33 []) (xs := [F1_ r_12.1, (eI .i64) r_12.2.2, F3_ ([] : List Int), (eI .i64) 0]) (ls := []) (r := B r_23) (ys := []) [F1_ r_12.1, (eI .i64) r_12.2.2, F1_ ([] : List Int), (eI .i64) 0] (show LeTs [F1_ r_12.1, (eI .i64) r_12.2.2, F1_ ([] : List Int), (eI .i64) 0] [F1_ r_12.1, (eI .i64) r_12.2.2, F3_ ([] : List Int), (eI .i64) 0] from inferInstance)), ob (c0), ob (c0), ob (c0), ob (c1), ob (c1), ob (c2), ob (c2), ob (c2), ob (c3), ob (c3), ob (c3), ob (c3), ob (c3), ob (c3), ob (c3), ob (shM F0_ F0_ ([(Arr2.mk 0 0), (Arr2.mk 0 3), (Arr2.mk 1 1), (Arr2.mk 2 2)])), ob (tabC_at (f := .fn 43 []) (xs := [F6_ r_14.1, F7_ ([(Arr2.mk 0 0), (Arr2.mk 0 3), (Arr2.mk 1 1), (Arr2.mk 2 2)] : List (Arr2 Int))]) (ls := []) (r := B r_24) (ys := []) [F6_ r_14.1, F6_ ([(Arr2.mk 0 0), (Arr2.mk 0 3), (Arr2.mk 1 1), (Arr2.mk 2 2)] : List (Arr2 Int))] (show LeTs [F6_ r_14.1, F6_ ([(Arr2.mk 0 0), (Arr2.mk 0 3), (Arr2.mk 1 1), (Arr2.mk 2 2)] : List (Arr2 Int))] [F6_ r_14.1, F7_ ([(Arr2.mk 0 0), (Arr2.mk 0 3), (Arr2.mk 1 1), (Arr2.mk 2 2)] : List (Arr2 Int))] from inferInstance)), ob (c3), ob (c4), ob (c4), ob (Eq.refl false), ob (Eq.refl false), ob (Eq.refl false), ob (Eq.refl false), ob (Eq.refl false), ob (Eq.refl false), ob (Eq.refl false), ob (Eq.refl false), ob (Eq.refl false), ob (Eq.refl false), ob (Eq.refl false), ob (Eq.refl false), ob (Eq.refl false), ob (Eq.refl false), ob (Eq.refl false), ob (Eq.refl false), ob (Eq.refl false), ob (Eq.refl false), ob (Eq.refl false), ob (Eq.refl false), ob (Eq.refl false), ob (Eq.refl false), ob (Eq.refl false), ob (Eq.refl false), ob (Eq.refl false), ob (Eq.refl false), ob (Eq.refl false), ob (Eq.refl false), ob (Eq.refl false), ob (Eq.refl false), ob (Eq.refl false), ob (Eq.refl false), ob (Eq.refl false), ob (Eq.refl false), ob (Eq.refl false), ob (Eq.refl false), ob (Eq.refl false), ob (Eq.refl false), ob (Eq.refl false), ob (Eq.refl false), ob (Eq.refl false)] (by kernel_rfl) (show LeV (B false) (B false) from inferInstance)
        · obtain rfl := someE hf0
          exact awpEnd ((xLend (P := Try.prog) TTab [] (lentCall (hasCall hC h_law10_list (x := (r_12.1, r_12.2.2, ([] : List Int), 0)) h23)) 142).or X0) TTab_ok hC hm hE 4000 (hs := [.b true, .b true, .b true, .b true, .b true, .b true, .b true, .b true, .b false, .b false, .b false, .b false, .b false, .b false, .b false, .b false, .b false, .b false, .b false, .b false, .b false, .b false, .b false, .b false, .b false, .b false, .b false, .b false, .b false, .b false, .b false, .b false, .b false, .b false, .b false, .b false, .b false, .b false, .b false, .b false, .b false, .b false, .b false, .b false, .b false, .b false, .b false, .b false, .b false, .b false, .b false, .b false, .b false, .b false, .b false, .b false, .b false, .b false, .b false]) (x := (B false)) [ob (tabC_at (f := .fn 33 []) (xs := [F1_ r_12.1, (eI .i64) r_12.2.2, F3_ ([] : List Int), (eI .i64) 0]) (ls := []) (r := B r_23) (ys := []) [F1_ r_12.1, (eI .i64) r_12.2.2, F1_ ([] : List Int), (eI .i64) 0] (show LeTs [F1_ r_12.1, (eI .i64) r_12.2.2, F1_ ([] : List Int), (eI .i64) 0] [F1_ r_12.1, (eI .i64) r_12.2.2, F3_ ([] : List Int), (eI .i64) 0] from inferInstance)), ob (c0), ob (c0), ob (c0), ob (c1), ob (c1), ob (c2), ob (c2), ob (c2), ob (c3), ob (c3), ob (c3), ob (c3), ob (c3), ob (c3), ob (c3), ob (c3), ob (Eq.refl false), ob (Eq.refl false), ob (Eq.refl false), ob (Eq.refl false), ob (Eq.refl false), ob (Eq.refl false), ob (Eq.refl false), ob (Eq.refl false), ob (Eq.refl false), ob (Eq.refl false), ob (Eq.refl false), ob (Eq.refl false), ob (Eq.refl false), ob (Eq.refl false), ob (Eq.refl false), ob (Eq.refl false), ob (Eq.refl false), ob (Eq.refl false), ob (Eq.refl false), ob (Eq.refl false), ob (Eq.refl false), ob (Eq.refl false), ob (Eq.refl false), ob (Eq.refl false), ob (Eq.refl false), ob (Eq.refl false), ob (Eq.refl false), ob (Eq.refl false), ob (Eq.refl false), ob (Eq.refl false), ob (Eq.refl false), ob (Eq.refl false), ob (Eq.refl false), ob (Eq.refl false), ob (Eq.refl false), ob (Eq.refl false), ob (Eq.refl false), ob (Eq.refl false), ob (Eq.refl false), ob (Eq.refl false), ob (Eq.refl false), ob (Eq.refl false), ob (Eq.refl false)] (by kernel_rfl) (show LeV (B false) (B false) from inferInstance)
      · obtain rfl := someE hf0
        exact awpEnd ((xLend (P := Try.prog) TTab [] (lentCall (hasCall hC h_law10_list (x := (r_12.1, r_12.2.2, ([] : List Int), 0)) h23)) 142).or X0) TTab_ok hC hm hE 4000 (hs := [.b true, .b true, .b true, .b true, .b true, .b false, .b false, .b false, .b false, .b false, .b false, .b false, .b false, .b false, .b false, .b false, .b false, .b false, .b false, .b false, .b false, .b false, .b false, .b false, .b false, .b false, .b false, .b false, .b false, .b false, .b false, .b false, .b false, .b false, .b false, .b false, .b false, .b false, .b false, .b false, .b false, .b false, .b false, .b false, .b false, .b false, .b false, .b false, .b false, .b false, .b false, .b false, .b false, .b false, .b false, .b false, .b false, .b false, .b false]) (x := (B false)) [ob (tabC_at (f := .fn 33 []) (xs := [F1_ r_12.1, (eI .i64) r_12.2.2, F3_ ([] : List Int), (eI .i64) 0]) (ls := []) (r := B r_23) (ys := []) [F1_ r_12.1, (eI .i64) r_12.2.2, F1_ ([] : List Int), (eI .i64) 0] (show LeTs [F1_ r_12.1, (eI .i64) r_12.2.2, F1_ ([] : List Int), (eI .i64) 0] [F1_ r_12.1, (eI .i64) r_12.2.2, F3_ ([] : List Int), (eI .i64) 0] from inferInstance)), ob (c0), ob (c0), ob (c0), ob (c1), ob (c1), ob (c2), ob (c2), ob (c2), ob (Eq.refl false), ob (Eq.refl false), ob (Eq.refl false), ob (Eq.refl false), ob (Eq.refl false), ob (Eq.refl false), ob (Eq.refl false), ob (Eq.refl false), ob (Eq.refl false), ob (Eq.refl false), ob (Eq.refl false), ob (Eq.refl false), ob (Eq.refl false), ob (Eq.refl false), ob (Eq.refl false), ob (Eq.refl false), ob (Eq.refl false), ob (Eq.refl false), ob (Eq.refl false), ob (Eq.refl false), ob (Eq.refl false), ob (Eq.refl false), ob (Eq.refl false), ob (Eq.refl false), ob (Eq.refl false), ob (Eq.refl false), ob (Eq.refl false), ob (Eq.refl false), ob (Eq.refl false), ob (Eq.refl false), ob (Eq.refl false), ob (Eq.refl false), ob (Eq.refl false), ob (Eq.refl false), ob (Eq.refl false), ob (Eq.refl false), ob (Eq.refl false), ob (Eq.refl false), ob (Eq.refl false), ob (Eq.refl false), ob (Eq.refl false), ob (Eq.refl false), ob (Eq.refl false), ob (Eq.refl false), ob (Eq.refl false), ob (Eq.refl false), ob (Eq.refl false), ob (Eq.refl false), ob (Eq.refl false), ob (Eq.refl false), ob (Eq.refl false)] (by kernel_rfl) (show LeV (B false) (B false) from inferInstance)
    · obtain rfl := someE hf0
      exact awpEnd ((xLend (P := Try.prog) TTab [] (lentCall (hasCall hC h_law10_list (x := (r_12.1, r_12.2.2, ([] : List Int), 0)) h23)) 142).or X0) TTab_ok hC hm hE 4000 (hs := [.b true, .b true, .b true, .b false, .b false, .b false, .b false, .b false, .b false, .b false, .b false, .b false, .b false, .b false, .b false, .b false, .b false, .b false, .b false, .b false, .b false, .b false, .b false, .b false, .b false, .b false, .b false, .b false, .b false, .b false, .b false, .b false, .b false, .b false, .b false, .b false, .b false, .b false, .b false, .b false, .b false, .b false, .b false, .b false, .b false, .b false, .b false, .b false, .b false, .b false, .b false, .b false, .b false, .b false, .b false, .b false, .b false, .b false, .b false]) (x := (B false)) [ob (tabC_at (f := .fn 33 []) (xs := [F1_ r_12.1, (eI .i64) r_12.2.2, F3_ ([] : List Int), (eI .i64) 0]) (ls := []) (r := B r_23) (ys := []) [F1_ r_12.1, (eI .i64) r_12.2.2, F1_ ([] : List Int), (eI .i64) 0] (show LeTs [F1_ r_12.1, (eI .i64) r_12.2.2, F1_ ([] : List Int), (eI .i64) 0] [F1_ r_12.1, (eI .i64) r_12.2.2, F3_ ([] : List Int), (eI .i64) 0] from inferInstance)), ob (c0), ob (c0), ob (c0), ob (c1), ob (c1), ob (Eq.refl false), ob (Eq.refl false), ob (Eq.refl false), ob (Eq.refl false), ob (Eq.refl false), ob (Eq.refl false), ob (Eq.refl false), ob (Eq.refl false), ob (Eq.refl false), ob (Eq.refl false), ob (Eq.refl false), ob (Eq.refl false), ob (Eq.refl false), ob (Eq.refl false), ob (Eq.refl false), ob (Eq.refl false), ob (Eq.refl false), ob (Eq.refl false), ob (Eq.refl false), ob (Eq.refl false), ob (Eq.refl false), ob (Eq.refl false), ob (Eq.refl false), ob (Eq.refl false), ob (Eq.refl false), ob (Eq.refl false), ob (Eq.refl false), ob (Eq.refl false), ob (Eq.refl false), ob (Eq.refl false), ob (Eq.refl false), ob (Eq.refl false), ob (Eq.refl false), ob (Eq.refl false), ob (Eq.refl false), ob (Eq.refl false), ob (Eq.refl false), ob (Eq.refl false), ob (Eq.refl false), ob (Eq.refl false), ob (Eq.refl false), ob (Eq.refl false), ob (Eq.refl false), ob (Eq.refl false), ob (Eq.refl false), ob (Eq.refl false), ob (Eq.refl false), ob (Eq.refl false), ob (Eq.refl false), ob (Eq.refl false), ob (Eq.refl false), ob (Eq.refl false), ob (Eq.refl false), ob (Eq.refl false)] (by kernel_rfl) (show LeV (B false) (B false) from inferInstance)
  · obtain rfl := someE hf0
    exact awpEnd ((xLend (P := Try.prog) TTab [] (lentCall (hasCall hC h_law10_list (x := (r_12.1, r_12.2.2, ([] : List Int), 0)) h23)) 142).or X0) TTab_ok hC hm hE 4000 (hs := [.b false, .b false, .b false, .b false, .b false, .b false, .b false, .b false, .b false, .b false, .b false, .b false, .b false, .b false, .b false, .b false, .b false, .b false, .b false, .b false, .b false, .b false, .b false, .b false, .b false, .b false, .b false, .b false, .b false, .b false, .b false, .b false, .b false, .b false, .b false, .b false, .b false, .b false, .b false, .b false, .b false, .b false, .b false, .b false, .b false, .b false, .b false, .b false, .b false, .b false, .b false, .b false, .b false, .b false, .b false, .b false, .b false, .b false, .b false]) (x := (B false)) [ob (tabC_at (f := .fn 33 []) (xs := [F1_ r_12.1, (eI .i64) r_12.2.2, F3_ ([] : List Int), (eI .i64) 0]) (ls := []) (r := B r_23) (ys := []) [F1_ r_12.1, (eI .i64) r_12.2.2, F1_ ([] : List Int), (eI .i64) 0] (show LeTs [F1_ r_12.1, (eI .i64) r_12.2.2, F1_ ([] : List Int), (eI .i64) 0] [F1_ r_12.1, (eI .i64) r_12.2.2, F3_ ([] : List Int), (eI .i64) 0] from inferInstance)), ob (c0), ob (c0), ob (c0), ob (Eq.refl false), ob (Eq.refl false), ob (Eq.refl false), ob (Eq.refl false), ob (Eq.refl false), ob (Eq.refl false), ob (Eq.refl false), ob (Eq.refl false), ob (Eq.refl false), ob (Eq.refl false), ob (Eq.refl false), ob (Eq.refl false), ob (Eq.refl false), ob (Eq.refl false), ob (Eq.refl false), ob (Eq.refl false), ob (Eq.refl false), ob (Eq.refl false), ob (Eq.refl false), ob (Eq.refl false), ob (Eq.refl false), ob (Eq.refl false), ob (Eq.refl false), ob (Eq.refl false), ob (Eq.refl false), ob (Eq.refl false), ob (Eq.refl false), ob (Eq.refl false), ob (Eq.refl false), ob (Eq.refl false), ob (Eq.refl false), ob (Eq.refl false), ob (Eq.refl false), ob (Eq.refl false), ob (Eq.refl false), ob (Eq.refl false), ob (Eq.refl false), ob (Eq.refl false), ob (Eq.refl false), ob (Eq.refl false), ob (Eq.refl false), ob (Eq.refl false), ob (Eq.refl false), ob (Eq.refl false), ob (Eq.refl false), ob (Eq.refl false), ob (Eq.refl false), ob (Eq.refl false), ob (Eq.refl false), ob (Eq.refl false), ob (Eq.refl false), ob (Eq.refl false), ob (Eq.refl false), ob (Eq.refl false), ob (Eq.refl false), ob (Eq.refl false)] (by kernel_rfl) (show LeV (B false) (B false) from inferInstance)
noncomputable def bd_law10_EqualsDiffer : Code := (Try.f5.body).getD .skip
noncomputable def sp_law10_EqualsDiffer : Spec := spF (α := S_law10_D) (ρ := Bool) 5 (fun x => [F24_ x]) (fun r => eB r) (fun x => law10_EqualsDiffer x) [] (by
    rintro a0 b0 h
    simp only [List.cons.injEq, and_true] at h
    have e0 := EncI.inj (f := F24_) _ _ h
    subst e0
    rfl)
abbrev ST_law10_EqualsDiffer_J1 : List (Nat × T) := []
set_option maxRecDepth 100000 in
set_option maxHeartbeats 8000000 in
theorem w_law10_EqualsDiffer {ctr : Ctr} (hC : CtrOk Try.prog ctr) (hm : Try.prog.follows .mixedOrders = true) (h_law10_D_Of : ctr.Has sp_law10_D_Of) (h_equals_Differ : ctr.Has sp_equals_Differ) (h_ref10_Differ : ctr.Has sp_ref10_Differ) (h_law10_list : ctr.Has sp_law10_list) (h_ref04_Run : ctr.Has sp_ref04_Run) (h_ref01_Same : ctr.Has sp_ref01_Same) (h_law10_lives : ctr.Has sp_law10_lives) : sp_law10_EqualsDiffer.Ok Try.prog := by
  refine spF_ok ?_
  rintro x_ r0 hf0
  try unfold law10_EqualsDiffer at hf0
  refine callOk_h (tt := TTab) (keep := true) (rs := [(2, none)]) (n := ⟨101, []⟩) (body := bd_law10_EqualsDiffer) TTab_ok Try.func5 rfl (by kernel_rfl) rfl rfl (by show (1 : Nat) ≤ 101; decide) fun E hE => ?_
  obtain ⟨r_, h0, hf0⟩ := bindE hf0
  obtain ⟨r_1, h1, hf0⟩ := bindE hf0
  obtain ⟨r_2, h2, hf0⟩ := bindE hf0
  obtain ⟨r_3, h3, hf0⟩ := bindE hf0
  obtain ⟨r_4, h4, hf0⟩ := bindE hf0
  rcases bifE hf0 with ⟨c0, hf0⟩ | ⟨c0, hf0⟩
  · obtain rfl := someE hf0
    exact awpEnd ((xLend (P := Try.prog) TTab [] (lentCall (hasCall hC h_law10_list (x := (r_1.1, r_1.2.2, r_3.1, 0)) h4)) 41).or X0) TTab_ok hC hm hE 4000 (hs := [.g [], .a (.tup [.agg [I r_.1.Inputs, I r_.1.Outputs, eSl 1 false F11_ r_.1.Rows], .agg [I r_.2.Inputs, I r_.2.Outputs, eSl 1 false F11_ r_.2.Rows]]), .g [], .a (.tup [eSl 1 true (eI .i64) r_1.1, B r_1.2.1, I r_1.2.2]), .g [], .a (.tup [eSl 1 true (eI .i64) r_2.1, B r_2.2.1, I r_2.2.2]), .g [], .a (.tup [eSl 1 false (eI .i64) r_3.1, B r_3.2]), .b true, .b true, .b true, .b true, .b true, .b true, .b true, .b true, .b true, .b true, .b true, .b true, .b true, .b true, .b true]) (x := (B false)) [ob (hasG h_law10_D_Of), ob (hasF h_law10_D_Of (x := (S_law10_D.mk x_.M x_.X x_.Alike x_.Swap x_.Place x_.To)) h0 (loC F24_ (S_law10_D.mk x_.M x_.X x_.Alike x_.Swap x_.Place x_.To) <| loN)), ob (hasG h_equals_Differ), ob (hasF h_equals_Differ (x := (r_.1, r_.2)) h1 (loC F20_ r_.1 <| loC F20_ r_.2 <| loN)), ob (hasG h_equals_Differ), ob (hasF h_equals_Differ (x := (r_.2, r_.1)) h2 (loC F20_ r_.2 <| loC F20_ r_.1 <| loN)), ob (hasG h_ref10_Differ), ob (hasF h_ref10_Differ (x := (r_.1, r_.2)) h3 (loC F20_ r_.1 <| loC F20_ r_.2 <| loN)), ob (tabC_at (f := .fn 33 []) (xs := [F1_ r_1.1, (eI .i64) r_1.2.2, F3_ r_3.1, (eI .i64) 0]) (ls := []) (r := B r_4) (ys := []) [F1_ r_1.1, (eI .i64) r_1.2.2, F3_ r_3.1, (eI .i64) 0] (show LeTs [F1_ r_1.1, (eI .i64) r_1.2.2, F3_ r_3.1, (eI .i64) 0] [F1_ r_1.1, (eI .i64) r_1.2.2, F3_ r_3.1, (eI .i64) 0] from inferInstance)), ob (c0), ob (c0), ob (c0), ob (c0), ob (c0), ob (c0), ob (Eq.refl true), ob (Eq.refl true), ob (Eq.refl true), ob (Eq.refl true), ob (Eq.refl true), ob (Eq.refl true), ob (Eq.refl true), ob (Eq.refl true), ob (Eq.refl true)] (by kernel_rfl) (show LeV (B false) (B false) from inferInstance)
  · obtain ⟨r_5, h5, hf0⟩ := bindE hf0
    rcases bifE hf0 with ⟨c1, hf0⟩ | ⟨c1, hf0⟩
    · obtain rfl := someE hf0
      exact awpEnd ((xLend (P := Try.prog) TTab [] (lentCall (hasCall hC h_law10_list (x := (r_2.1, r_2.2.2, r_3.1, 0)) h5)) 47).or ((xLend (P := Try.prog) TTab [] (lentCall (hasCall hC h_law10_list (x := (r_1.1, r_1.2.2, r_3.1, 0)) h4)) 41).or X0)) TTab_ok hC hm hE 4000 (hs := [.g [], .a (.tup [.agg [I r_.1.Inputs, I r_.1.Outputs, eSl 1 false F11_ r_.1.Rows], .agg [I r_.2.Inputs, I r_.2.Outputs, eSl 1 false F11_ r_.2.Rows]]), .g [], .a (.tup [eSl 1 true (eI .i64) r_1.1, B r_1.2.1, I r_1.2.2]), .g [], .a (.tup [eSl 1 true (eI .i64) r_2.1, B r_2.2.1, I r_2.2.2]), .g [], .a (.tup [eSl 1 false (eI .i64) r_3.1, B r_3.2]), .b false, .b false, .b false, .b false, .b false, .b false, .b true, .b true, .b true, .b true, .b true, .b true, .b true, .b true, .b true]) (x := (B false)) [ob (hasG h_law10_D_Of), ob (hasF h_law10_D_Of (x := (S_law10_D.mk x_.M x_.X x_.Alike x_.Swap x_.Place x_.To)) h0 (loC F24_ (S_law10_D.mk x_.M x_.X x_.Alike x_.Swap x_.Place x_.To) <| loN)), ob (hasG h_equals_Differ), ob (hasF h_equals_Differ (x := (r_.1, r_.2)) h1 (loC F20_ r_.1 <| loC F20_ r_.2 <| loN)), ob (hasG h_equals_Differ), ob (hasF h_equals_Differ (x := (r_.2, r_.1)) h2 (loC F20_ r_.2 <| loC F20_ r_.1 <| loN)), ob (hasG h_ref10_Differ), ob (hasF h_ref10_Differ (x := (r_.1, r_.2)) h3 (loC F20_ r_.1 <| loC F20_ r_.2 <| loN)), ob (tabC_at (f := .fn 33 []) (xs := [F1_ r_1.1, (eI .i64) r_1.2.2, F3_ r_3.1, (eI .i64) 0]) (ls := []) (r := B r_4) (ys := []) [F1_ r_1.1, (eI .i64) r_1.2.2, F3_ r_3.1, (eI .i64) 0] (show LeTs [F1_ r_1.1, (eI .i64) r_1.2.2, F3_ r_3.1, (eI .i64) 0] [F1_ r_1.1, (eI .i64) r_1.2.2, F3_ r_3.1, (eI .i64) 0] from inferInstance)), ob (c0), ob (c0), ob (c0), ob (c0), ob (tabC_at (f := .fn 33 []) (xs := [F1_ r_2.1, (eI .i64) r_2.2.2, F3_ r_3.1, (eI .i64) 0]) (ls := []) (r := B r_5) (ys := []) [F1_ r_2.1, (eI .i64) r_2.2.2, F3_ r_3.1, (eI .i64) 0] (show LeTs [F1_ r_2.1, (eI .i64) r_2.2.2, F3_ r_3.1, (eI .i64) 0] [F1_ r_2.1, (eI .i64) r_2.2.2, F3_ r_3.1, (eI .i64) 0] from inferInstance)), ob (c0), ob (c0), ob (c1), ob (c1), ob (c1), ob (c1), ob (Eq.refl true), ob (Eq.refl true), ob (Eq.refl true), ob (Eq.refl true), ob (Eq.refl true)] (by kernel_rfl) (show LeV (B false) (B false) from inferInstance)
    · rcases bifE hf0 with ⟨c2, hf0⟩ | ⟨c2, hf0⟩
      · obtain rfl := someE hf0
        exact awpEnd ((xLend (P := Try.prog) TTab [] (lentCall (hasCall hC h_law10_list (x := (r_2.1, r_2.2.2, r_3.1, 0)) h5)) 47).or ((xLend (P := Try.prog) TTab [] (lentCall (hasCall hC h_law10_list (x := (r_1.1, r_1.2.2, r_3.1, 0)) h4)) 41).or X0)) TTab_ok hC hm hE 4000 (hs := [.g [], .a (.tup [.agg [I r_.1.Inputs, I r_.1.Outputs, eSl 1 false F11_ r_.1.Rows], .agg [I r_.2.Inputs, I r_.2.Outputs, eSl 1 false F11_ r_.2.Rows]]), .g [], .a (.tup [eSl 1 true (eI .i64) r_1.1, B r_1.2.1, I r_1.2.2]), .g [], .a (.tup [eSl 1 true (eI .i64) r_2.1, B r_2.2.1, I r_2.2.2]), .g [], .a (.tup [eSl 1 false (eI .i64) r_3.1, B r_3.2]), .b false, .b false, .b false, .b false, .b false, .b false, .b false, .b false, .b false, .b false, .b true, .b true, .b true, .b true, .b true]) (x := (B false)) [ob (hasG h_law10_D_Of), ob (hasF h_law10_D_Of (x := (S_law10_D.mk x_.M x_.X x_.Alike x_.Swap x_.Place x_.To)) h0 (loC F24_ (S_law10_D.mk x_.M x_.X x_.Alike x_.Swap x_.Place x_.To) <| loN)), ob (hasG h_equals_Differ), ob (hasF h_equals_Differ (x := (r_.1, r_.2)) h1 (loC F20_ r_.1 <| loC F20_ r_.2 <| loN)), ob (hasG h_equals_Differ), ob (hasF h_equals_Differ (x := (r_.2, r_.1)) h2 (loC F20_ r_.2 <| loC F20_ r_.1 <| loN)), ob (hasG h_ref10_Differ), ob (hasF h_ref10_Differ (x := (r_.1, r_.2)) h3 (loC F20_ r_.1 <| loC F20_ r_.2 <| loN)), ob (tabC_at (f := .fn 33 []) (xs := [F1_ r_1.1, (eI .i64) r_1.2.2, F3_ r_3.1, (eI .i64) 0]) (ls := []) (r := B r_4) (ys := []) [F1_ r_1.1, (eI .i64) r_1.2.2, F3_ r_3.1, (eI .i64) 0] (show LeTs [F1_ r_1.1, (eI .i64) r_1.2.2, F3_ r_3.1, (eI .i64) 0] [F1_ r_1.1, (eI .i64) r_1.2.2, F3_ r_3.1, (eI .i64) 0] from inferInstance)), ob (c0), ob (c0), ob (c0), ob (c0), ob (tabC_at (f := .fn 33 []) (xs := [F1_ r_2.1, (eI .i64) r_2.2.2, F3_ r_3.1, (eI .i64) 0]) (ls := []) (r := B r_5) (ys := []) [F1_ r_2.1, (eI .i64) r_2.2.2, F3_ r_3.1, (eI .i64) 0] (show LeTs [F1_ r_2.1, (eI .i64) r_2.2.2, F3_ r_3.1, (eI .i64) 0] [F1_ r_2.1, (eI .i64) r_2.2.2, F3_ r_3.1, (eI .i64) 0] from inferInstance)), ob (c0), ob (c0), ob (c1), ob (c1), ob (c1), ob (c1), ob (c2), ob (c2), ob (c2), ob (c2), ob (Eq.refl true)] (by kernel_rfl) (show LeV (B false) (B false) from inferInstance)
      · rcases bifE hf0 with ⟨c3, hf0⟩ | ⟨c3, hf0⟩
        · obtain rfl := someE hf0
          exact awpEnd ((xLend (P := Try.prog) TTab [] (lentCall (hasCall hC h_law10_list (x := (r_2.1, r_2.2.2, r_3.1, 0)) h5)) 47).or ((xLend (P := Try.prog) TTab [] (lentCall (hasCall hC h_law10_list (x := (r_1.1, r_1.2.2, r_3.1, 0)) h4)) 41).or X0)) TTab_ok hC hm hE 4000 (hs := [.g [], .a (.tup [.agg [I r_.1.Inputs, I r_.1.Outputs, eSl 1 false F11_ r_.1.Rows], .agg [I r_.2.Inputs, I r_.2.Outputs, eSl 1 false F11_ r_.2.Rows]]), .g [], .a (.tup [eSl 1 true (eI .i64) r_1.1, B r_1.2.1, I r_1.2.2]), .g [], .a (.tup [eSl 1 true (eI .i64) r_2.1, B r_2.2.1, I r_2.2.2]), .g [], .a (.tup [eSl 1 false (eI .i64) r_3.1, B r_3.2]), .b false, .b false, .b false, .b false, .b false, .b false, .b false, .b false, .b false, .b false, .b false, .b false, .b false, .b false, .b true]) (x := (B false)) [ob (hasG h_law10_D_Of), ob (hasF h_law10_D_Of (x := (S_law10_D.mk x_.M x_.X x_.Alike x_.Swap x_.Place x_.To)) h0 (loC F24_ (S_law10_D.mk x_.M x_.X x_.Alike x_.Swap x_.Place x_.To) <| loN)), ob (hasG h_equals_Differ), ob (hasF h_equals_Differ (x := (r_.1, r_.2)) h1 (loC F20_ r_.1 <| loC F20_ r_.2 <| loN)), ob (hasG h_equals_Differ), ob (hasF h_equals_Differ (x := (r_.2, r_.1)) h2 (loC F20_ r_.2 <| loC F20_ r_.1 <| loN)), ob (hasG h_ref10_Differ), ob (hasF h_ref10_Differ (x := (r_.1, r_.2)) h3 (loC F20_ r_.1 <| loC F20_ r_.2 <| loN)), ob (tabC_at (f := .fn 33 []) (xs := [F1_ r_1.1, (eI .i64) r_1.2.2, F3_ r_3.1, (eI .i64) 0]) (ls := []) (r := B r_4) (ys := []) [F1_ r_1.1, (eI .i64) r_1.2.2, F3_ r_3.1, (eI .i64) 0] (show LeTs [F1_ r_1.1, (eI .i64) r_1.2.2, F3_ r_3.1, (eI .i64) 0] [F1_ r_1.1, (eI .i64) r_1.2.2, F3_ r_3.1, (eI .i64) 0] from inferInstance)), ob (c0), ob (c0), ob (c0), ob (c0), ob (tabC_at (f := .fn 33 []) (xs := [F1_ r_2.1, (eI .i64) r_2.2.2, F3_ r_3.1, (eI .i64) 0]) (ls := []) (r := B r_5) (ys := []) [F1_ r_2.1, (eI .i64) r_2.2.2, F3_ r_3.1, (eI .i64) 0] (show LeTs [F1_ r_2.1, (eI .i64) r_2.2.2, F3_ r_3.1, (eI .i64) 0] [F1_ r_2.1, (eI .i64) r_2.2.2, F3_ r_3.1, (eI .i64) 0] from inferInstance)), ob (c0), ob (c0), ob (c1), ob (c1), ob (c1), ob (c1), ob (c2), ob (c2), ob (c2), ob (c2), ob (c3)] (by kernel_rfl) (show LeV (B false) (B false) from inferInstance)
        · refine awpAt ((xLend (P := Try.prog) TTab [] (lentCall (hasCall hC h_law10_list (x := (r_2.1, r_2.2.2, r_3.1, 0)) h5)) 47).or ((xLend (P := Try.prog) TTab [] (lentCall (hasCall hC h_law10_list (x := (r_1.1, r_1.2.2, r_3.1, 0)) h4)) 41).or X0)) TTab_ok hC hm [3, 4, 5, 6] 4000 [.g [], .a (.tup [.agg [I r_.1.Inputs, I r_.1.Outputs, eSl 1 false F11_ r_.1.Rows], .agg [I r_.2.Inputs, I r_.2.Outputs, eSl 1 false F11_ r_.2.Rows]]), .g [], .a (.tup [eSl 1 true (eI .i64) r_1.1, B r_1.2.1, I r_1.2.2]), .g [], .a (.tup [eSl 1 true (eI .i64) r_2.1, B r_2.2.1, I r_2.2.2]), .g [], .a (.tup [eSl 1 false (eI .i64) r_3.1, B r_3.2]), .b false, .b false, .b false, .b false, .b false, .b false, .b false, .b false, .b false, .b false, .b false, .b false, .b false, .b false, .b false, .cut 0] (sub [1, 1, 1, 1, 1, 1] bd_law10_EqualsDiffer) (frs [1, 1, 1, 1, 1, 1] [] bd_law10_EqualsDiffer []) [(3, .own (.box (.agg [I r_.1.Inputs, I r_.1.Outputs, eSl 1 false F11_ r_.1.Rows]))), (4, .own (.box (.agg [I r_.2.Inputs, I r_.2.Outputs, eSl 1 false F11_ r_.2.Rows]))), (5, .d (eSl 1 true (eI .i64) r_1.1)), (6, .d (B r_1.2.1))] [ob (hasG h_law10_D_Of), ob (hasF h_law10_D_Of (x := (S_law10_D.mk x_.M x_.X x_.Alike x_.Swap x_.Place x_.To)) h0 (loC F24_ (S_law10_D.mk x_.M x_.X x_.Alike x_.Swap x_.Place x_.To) <| loN)), ob (hasG h_equals_Differ), ob (hasF h_equals_Differ (x := (r_.1, r_.2)) h1 (loC F20_ r_.1 <| loC F20_ r_.2 <| loN)), ob (hasG h_equals_Differ), ob (hasF h_equals_Differ (x := (r_.2, r_.1)) h2 (loC F20_ r_.2 <| loC F20_ r_.1 <| loN)), ob (hasG h_ref10_Differ), ob (hasF h_ref10_Differ (x := (r_.1, r_.2)) h3 (loC F20_ r_.1 <| loC F20_ r_.2 <| loN)), ob (tabC_at (f := .fn 33 []) (xs := [F1_ r_1.1, (eI .i64) r_1.2.2, F3_ r_3.1, (eI .i64) 0]) (ls := []) (r := B r_4) (ys := []) [F1_ r_1.1, (eI .i64) r_1.2.2, F3_ r_3.1, (eI .i64) 0] (show LeTs [F1_ r_1.1, (eI .i64) r_1.2.2, F3_ r_3.1, (eI .i64) 0] [F1_ r_1.1, (eI .i64) r_1.2.2, F3_ r_3.1, (eI .i64) 0] from inferInstance)), ob (c0), ob (c0), ob (c0), ob (c0), ob (tabC_at (f := .fn 33 []) (xs := [F1_ r_2.1, (eI .i64) r_2.2.2, F3_ r_3.1, (eI .i64) 0]) (ls := []) (r := B r_5) (ys := []) [F1_ r_2.1, (eI .i64) r_2.2.2, F3_ r_3.1, (eI .i64) 0] (show LeTs [F1_ r_2.1, (eI .i64) r_2.2.2, F3_ r_3.1, (eI .i64) 0] [F1_ r_2.1, (eI .i64) r_2.2.2, F3_ r_3.1, (eI .i64) 0] from inferInstance)), ob (c0), ob (c0), ob (c1), ob (c1), ob (c1), ob (c1), ob (c2), ob (c2), ob (c2), ob (c2), ob (c3)] (by kernel_rfl) fun st0 h0 => ?_
          refine awpJoin' (X := Unit) (x := (sub [1, 1, 1, 1, 1, 1, 2] bd_law10_EqualsDiffer)) (y := (sub [1, 1, 1, 1, 1, 1, 1] bd_law10_EqualsDiffer)) (by kernel_rfl) [] [3, 4, 5, 6] _ h0 (fun z => law10_EqualsDiffer_J1 = some r0) (fun z => ST_law10_EqualsDiffer_J1) ?_ fun J1 hJ1 => ?_
          · rintro ⟨⟩ hf0
            unfold law10_EqualsDiffer_J1 at hf0
            obtain ⟨r_6, h6, hf0⟩ := bindE hf0
            obtain rfl := someE hf0
            exact awpEnd X0 TTab_ok hC hm hE 4000 (hs := [.g [], .a (eB r_6)]) (x := (B r_6)) [ob (hasG h_law10_lives), ob (hasF h_law10_lives (x := ()) h6 (loN))] (by kernel_rfl) (show LeV (B r_6) (B r_6) from inferInstance)
          · rcases bifE hf0 with ⟨c4, hf0⟩ | ⟨c4, hf0⟩
            · obtain ⟨r_7, h7, hf0⟩ := bindE hf0
              obtain ⟨r_8, h8, hf0⟩ := bindE hf0
              obtain ⟨r_9, h9, hf0⟩ := bindE hf0
              rcases bifE hf0 with ⟨c5, hf0⟩ | ⟨c5, hf0⟩
              · obtain rfl := someE hf0
                exact awpEnd X0 TTab_ok hC hm hE 4000 (hs := [.b true, .b true, .b true, .g [], .a (F4_ r_7), .b true, .b true, .b true, .g [], .a (F4_ r_8), .b true, .g [], .l (r_7.map (eI .i64)), .l (r_8.map (eI .i64)), .a (eB r_9), .b true, .b true, .b true, .b true, .b true, .b true, .b true, .b true, .b true, .b true, .b true, .b true, .b true, .b true, .b true, .b true, .b true, .b true, .b true, .b true, .b true, .b true, .b true, .b true, .b true, .b true, .b true, .b true, .b true, .b true, .b true, .b true, .b true, .b true]) (x := (B false)) [ob (c4), ob (c4), ob (c4), ob (hasG h_ref04_Run), ob (hasF h_ref04_Run (x := (r_.1, 0, r_1.1)) h7 (loC F20_ r_.1 <| loC (eI .i64) 0 <| loC F1_ r_1.1 <| loN)), ob (c4), ob (c4), ob (c4), ob (hasG h_ref04_Run), ob (hasF h_ref04_Run (x := (r_.2, 0, r_1.1)) h8 (loC F20_ r_.2 <| loC (eI .i64) 0 <| loC F1_ r_1.1 <| loN)), ob (c4), ob (hasG h_ref01_Same), ob (shM (eI .i64) (eI .i64) r_7), ob (shM (eI .i64) (eI .i64) r_8), ob (hasF h_ref01_Same (x := (r_7, r_8)) h9 (loC F3_ r_7 <| loC F3_ r_8 <| loN)), ob (c4), ob (c5), ob (c5), ob (c5), ob (c5), ob (c5), ob (c5), ob (c5), ob (c5), ob (c5), ob (c5), ob (c5), ob (c5), ob (c5), ob (c5), ob (c5), ob (c5), ob (c4), ob (c5), ob (c4), ob (Eq.refl true), ob (Eq.refl true), ob (Eq.refl true), ob (Eq.refl true), ob (Eq.refl true), ob (Eq.refl true), ob (Eq.refl true), ob (Eq.refl true), ob (Eq.refl true), ob (Eq.refl true), ob (c4), ob (Eq.refl true), ob (c4), ob (Eq.refl true)] (by kernel_rfl) (show LeV (B false) (B false) from inferInstance)
              · obtain ⟨g0, hf0⟩ := gdE hf0
                obtain ⟨r_10, h10, hf0⟩ := bindE hf0
                obtain ⟨g1, hf0⟩ := gdE hf0
                obtain ⟨r_11, h11, hf0⟩ := bindE hf0
                obtain ⟨r_12, h12, hf0⟩ := bindE hf0
                rcases bifE hf0 with ⟨c6, hf0⟩ | ⟨c6, hf0⟩
                · obtain rfl := someE hf0
                  exact awpEnd X0 TTab_ok hC hm hE 4000 (hs := [.b true, .b true, .b true, .g [], .a (F4_ r_7), .b true, .b true, .b true, .g [], .a (F4_ r_8), .b true, .g [], .l (r_7.map (eI .i64)), .l (r_8.map (eI .i64)), .a (eB r_9), .b true, .b false, .b false, .b false, .b false, .a (.atom (.int .i64 ((r_1.1.length : Nat) : Int))), .b false, .b false, .a (eSl 1 (true && (w64 (((r_1.1.length : Nat) : Int) - 1)).toNat == (r_1.1.map (eI .i64)).length) (eI .i64) ((r_1.1.drop 0).take ((w64 (((r_1.1.length : Nat) : Int) - 1)).toNat - 0))), .b false, .g [], .a (F4_ r_10), .b false, .b false, .b false, .b false, .a (.atom (.int .i64 ((r_1.1.length : Nat) : Int))), .b false, .b false, .a (eSl 1 (true && (w64 (((r_1.1.length : Nat) : Int) - 1)).toNat == (r_1.1.map (eI .i64)).length) (eI .i64) ((r_1.1.drop 0).take ((w64 (((r_1.1.length : Nat) : Int) - 1)).toNat - 0))), .b false, .g [], .a (F4_ r_11), .b false, .g [], .l (r_10.map (eI .i64)), .l (r_11.map (eI .i64)), .a (eB r_12), .b false, .b true, .b false, .b true, .b true, .b true, .b true, .b true, .b true, .b true, .b true, .b true, .b true, .b true, .b true, .b true, .b true, .b true]) (x := (B false)) [ob (c4), ob (c4), ob (c4), ob (hasG h_ref04_Run), ob (hasF h_ref04_Run (x := (r_.1, 0, r_1.1)) h7 (loC F20_ r_.1 <| loC (eI .i64) 0 <| loC F1_ r_1.1 <| loN)), ob (c4), ob (c4), ob (c4), ob (hasG h_ref04_Run), ob (hasF h_ref04_Run (x := (r_.2, 0, r_1.1)) h8 (loC F20_ r_.2 <| loC (eI .i64) 0 <| loC F1_ r_1.1 <| loN)), ob (c4), ob (hasG h_ref01_Same), ob (shM (eI .i64) (eI .i64) r_7), ob (shM (eI .i64) (eI .i64) r_8), ob (hasF h_ref01_Same (x := (r_7, r_8)) h9 (loC F3_ r_7 <| loC F3_ r_8 <| loN)), ob (c4), ob (c5), ob (c5), ob (c5), ob (c5), ob (lnM (eI .i64) r_1.1), ob (c5), ob (c5), ob (slB g0), ob (sl010 (eI .i64) g0), ob (slM 1 (true && (w64 (((r_1.1.length : Nat) : Int) - 1)).toNat == (r_1.1.map (eI .i64)).length) (eI .i64) r_1.1 0 (w64 (((r_1.1.length : Nat) : Int) - 1)).toNat), ob (c5), ob (hasG h_ref04_Run), ob (hasF h_ref04_Run (x := (r_.1, 0, ((r_1.1.drop 0).take ((w64 (((r_1.1.length : Nat) : Int) - 1)).toNat - 0)))) h10 (loC F20_ r_.1 <| loC (eI .i64) 0 <| loC (eSl 1 (true && (w64 (((r_1.1.length : Nat) : Int) - 1)).toNat == (r_1.1.map (eI .i64)).length) (eI .i64)) ((r_1.1.drop 0).take ((w64 (((r_1.1.length : Nat) : Int) - 1)).toNat - 0)) <| loN)), ob (c5), ob (c5), ob (c5), ob (c5), ob (lnM (eI .i64) r_1.1), ob (c5), ob (c5), ob (slB g1), ob (sl010 (eI .i64) g1), ob (slM 1 (true && (w64 (((r_1.1.length : Nat) : Int) - 1)).toNat == (r_1.1.map (eI .i64)).length) (eI .i64) r_1.1 0 (w64 (((r_1.1.length : Nat) : Int) - 1)).toNat), ob (c5), ob (hasG h_ref04_Run), ob (hasF h_ref04_Run (x := (r_.2, 0, ((r_1.1.drop 0).take ((w64 (((r_1.1.length : Nat) : Int) - 1)).toNat - 0)))) h11 (loC F20_ r_.2 <| loC (eI .i64) 0 <| loC (eSl 1 (true && (w64 (((r_1.1.length : Nat) : Int) - 1)).toNat == (r_1.1.map (eI .i64)).length) (eI .i64)) ((r_1.1.drop 0).take ((w64 (((r_1.1.length : Nat) : Int) - 1)).toNat - 0)) <| loN)), ob (c5), ob (hasG h_ref01_Same), ob (shM (eI .i64) (eI .i64) r_10), ob (shM (eI .i64) (eI .i64) r_11), ob (hasF h_ref01_Same (x := (r_10, r_11)) h12 (loC F3_ r_10 <| loC F3_ r_11 <| loN)), ob (c5), ob (c4), ob (c5), ob (c4), ob (c6), ob (c6), ob (c6), ob (c6), ob (c6), ob (c6), ob (c6), ob (c6), ob (c6), ob (c6), ob (c4), ob (c6), ob (c4), ob (Eq.refl true)] (by kernel_rfl) (show LeV (B false) (B false) from inferInstance)
                · rcases bifE hf0 with ⟨c7, hf0⟩ | ⟨c7, hf0⟩
                  · obtain rfl := someE hf0
                    exact awpEnd X0 TTab_ok hC hm hE 4000 (hs := [.b true, .b true, .b true, .g [], .a (F4_ r_7), .b true, .b true, .b true, .g [], .a (F4_ r_8), .b true, .g [], .l (r_7.map (eI .i64)), .l (r_8.map (eI .i64)), .a (eB r_9), .b true, .b false, .b false, .b false, .b false, .a (.atom (.int .i64 ((r_1.1.length : Nat) : Int))), .b false, .b false, .a (eSl 1 (true && (w64 (((r_1.1.length : Nat) : Int) - 1)).toNat == (r_1.1.map (eI .i64)).length) (eI .i64) ((r_1.1.drop 0).take ((w64 (((r_1.1.length : Nat) : Int) - 1)).toNat - 0))), .b false, .g [], .a (F4_ r_10), .b false, .b false, .b false, .b false, .a (.atom (.int .i64 ((r_1.1.length : Nat) : Int))), .b false, .b false, .a (eSl 1 (true && (w64 (((r_1.1.length : Nat) : Int) - 1)).toNat == (r_1.1.map (eI .i64)).length) (eI .i64) ((r_1.1.drop 0).take ((w64 (((r_1.1.length : Nat) : Int) - 1)).toNat - 0))), .b false, .g [], .a (F4_ r_11), .b false, .g [], .l (r_10.map (eI .i64)), .l (r_11.map (eI .i64)), .a (eB r_12), .b false, .b true, .b false, .b true, .b false, .b false, .a (.atom (.int .i64 ((r_1.1.length : Nat) : Int))), .b false, .b false, .b false, .a (.atom (.int .i64 ((r_.1.Rows.length : Nat) : Int))), .b false, .b false, .b false, .a (.atom (.int .i64 ((r_.2.Rows.length : Nat) : Int))), .b false, .b false, .b true, .b false, .b true, .b true]) (x := (B false)) [ob (c4), ob (c4), ob (c4), ob (hasG h_ref04_Run), ob (hasF h_ref04_Run (x := (r_.1, 0, r_1.1)) h7 (loC F20_ r_.1 <| loC (eI .i64) 0 <| loC F1_ r_1.1 <| loN)), ob (c4), ob (c4), ob (c4), ob (hasG h_ref04_Run), ob (hasF h_ref04_Run (x := (r_.2, 0, r_1.1)) h8 (loC F20_ r_.2 <| loC (eI .i64) 0 <| loC F1_ r_1.1 <| loN)), ob (c4), ob (hasG h_ref01_Same), ob (shM (eI .i64) (eI .i64) r_7), ob (shM (eI .i64) (eI .i64) r_8), ob (hasF h_ref01_Same (x := (r_7, r_8)) h9 (loC F3_ r_7 <| loC F3_ r_8 <| loN)), ob (c4), ob (c5), ob (c5), ob (c5), ob (c5), ob (lnM (eI .i64) r_1.1), ob (c5), ob (c5), ob (slB g0), ob (sl010 (eI .i64) g0), ob (slM 1 (true && (w64 (((r_1.1.length : Nat) : Int) - 1)).toNat == (r_1.1.map (eI .i64)).length) (eI .i64) r_1.1 0 (w64 (((r_1.1.length : Nat) : Int) - 1)).toNat), ob (c5), ob (hasG h_ref04_Run), ob (hasF h_ref04_Run (x := (r_.1, 0, ((r_1.1.drop 0).take ((w64 (((r_1.1.length : Nat) : Int) - 1)).toNat - 0)))) h10 (loC F20_ r_.1 <| loC (eI .i64) 0 <| loC (eSl 1 (true && (w64 (((r_1.1.length : Nat) : Int) - 1)).toNat == (r_1.1.map (eI .i64)).length) (eI .i64)) ((r_1.1.drop 0).take ((w64 (((r_1.1.length : Nat) : Int) - 1)).toNat - 0)) <| loN)), ob (c5), ob (c5), ob (c5), ob (c5), ob (lnM (eI .i64) r_1.1), ob (c5), ob (c5), ob (slB g1), ob (sl010 (eI .i64) g1), ob (slM 1 (true && (w64 (((r_1.1.length : Nat) : Int) - 1)).toNat == (r_1.1.map (eI .i64)).length) (eI .i64) r_1.1 0 (w64 (((r_1.1.length : Nat) : Int) - 1)).toNat), ob (c5), ob (hasG h_ref04_Run), ob (hasF h_ref04_Run (x := (r_.2, 0, ((r_1.1.drop 0).take ((w64 (((r_1.1.length : Nat) : Int) - 1)).toNat - 0)))) h11 (loC F20_ r_.2 <| loC (eI .i64) 0 <| loC (eSl 1 (true && (w64 (((r_1.1.length : Nat) : Int) - 1)).toNat == (r_1.1.map (eI .i64)).length) (eI .i64)) ((r_1.1.drop 0).take ((w64 (((r_1.1.length : Nat) : Int) - 1)).toNat - 0)) <| loN)), ob (c5), ob (hasG h_ref01_Same), ob (shM (eI .i64) (eI .i64) r_10), ob (shM (eI .i64) (eI .i64) r_11), ob (hasF h_ref01_Same (x := (r_10, r_11)) h12 (loC F3_ r_10 <| loC F3_ r_11 <| loN)), ob (c5), ob (c4), ob (c5), ob (c4), ob (c6), ob (c6), ob (lnM (eI .i64) r_1.1), ob (c6), ob (c6), ob (c6), ob (lnM F11_ r_.1.Rows), ob (c6), ob (c6), ob (c6), ob (lnM F11_ r_.2.Rows), ob (c6), ob (c6), ob (c4), ob (c6), ob (c4), ob (c7)] (by kernel_rfl) (show LeV (B false) (B false) from inferInstance)
                  · exact awpBack X0 TTab_ok hC hm [] 4000 [.b true, .b true, .b true, .g [], .a (F4_ r_7), .b true, .b true, .b true, .g [], .a (F4_ r_8), .b true, .g [], .l (r_7.map (eI .i64)), .l (r_8.map (eI .i64)), .a (eB r_9), .b true, .b false, .b false, .b false, .b false, .a (.atom (.int .i64 ((r_1.1.length : Nat) : Int))), .b false, .b false, .a (eSl 1 (true && (w64 (((r_1.1.length : Nat) : Int) - 1)).toNat == (r_1.1.map (eI .i64)).length) (eI .i64) ((r_1.1.drop 0).take ((w64 (((r_1.1.length : Nat) : Int) - 1)).toNat - 0))), .b false, .g [], .a (F4_ r_10), .b false, .b false, .b false, .b false, .a (.atom (.int .i64 ((r_1.1.length : Nat) : Int))), .b false, .b false, .a (eSl 1 (true && (w64 (((r_1.1.length : Nat) : Int) - 1)).toNat == (r_1.1.map (eI .i64)).length) (eI .i64) ((r_1.1.drop 0).take ((w64 (((r_1.1.length : Nat) : Int) - 1)).toNat - 0))), .b false, .g [], .a (F4_ r_11), .b false, .g [], .l (r_10.map (eI .i64)), .l (r_11.map (eI .i64)), .a (eB r_12), .b false, .b true, .b false, .b true, .b false, .b false, .a (.atom (.int .i64 ((r_1.1.length : Nat) : Int))), .b false, .b false, .b false, .a (.atom (.int .i64 ((r_.1.Rows.length : Nat) : Int))), .b false, .b false, .b false, .a (.atom (.int .i64 ((r_.2.Rows.length : Nat) : Int))), .b false, .b false, .b true, .b false, .b true, .b false] J1 [] [ob (c4), ob (c4), ob (c4), ob (hasG h_ref04_Run), ob (hasF h_ref04_Run (x := (r_.1, 0, r_1.1)) h7 (loC F20_ r_.1 <| loC (eI .i64) 0 <| loC F1_ r_1.1 <| loN)), ob (c4), ob (c4), ob (c4), ob (hasG h_ref04_Run), ob (hasF h_ref04_Run (x := (r_.2, 0, r_1.1)) h8 (loC F20_ r_.2 <| loC (eI .i64) 0 <| loC F1_ r_1.1 <| loN)), ob (c4), ob (hasG h_ref01_Same), ob (shM (eI .i64) (eI .i64) r_7), ob (shM (eI .i64) (eI .i64) r_8), ob (hasF h_ref01_Same (x := (r_7, r_8)) h9 (loC F3_ r_7 <| loC F3_ r_8 <| loN)), ob (c4), ob (c5), ob (c5), ob (c5), ob (c5), ob (lnM (eI .i64) r_1.1), ob (c5), ob (c5), ob (slB g0), ob (sl010 (eI .i64) g0), ob (slM 1 (true && (w64 (((r_1.1.length : Nat) : Int) - 1)).toNat == (r_1.1.map (eI .i64)).length) (eI .i64) r_1.1 0 (w64 (((r_1.1.length : Nat) : Int) - 1)).toNat), ob (c5), ob (hasG h_ref04_Run), ob (hasF h_ref04_Run (x := (r_.1, 0, ((r_1.1.drop 0).take ((w64 (((r_1.1.length : Nat) : Int) - 1)).toNat - 0)))) h10 (loC F20_ r_.1 <| loC (eI .i64) 0 <| loC (eSl 1 (true && (w64 (((r_1.1.length : Nat) : Int) - 1)).toNat == (r_1.1.map (eI .i64)).length) (eI .i64)) ((r_1.1.drop 0).take ((w64 (((r_1.1.length : Nat) : Int) - 1)).toNat - 0)) <| loN)), ob (c5), ob (c5), ob (c5), ob (c5), ob (lnM (eI .i64) r_1.1), ob (c5), ob (c5), ob (slB g1), ob (sl010 (eI .i64) g1), ob (slM 1 (true && (w64 (((r_1.1.length : Nat) : Int) - 1)).toNat == (r_1.1.map (eI .i64)).length) (eI .i64) r_1.1 0 (w64 (((r_1.1.length : Nat) : Int) - 1)).toNat), ob (c5), ob (hasG h_ref04_Run), ob (hasF h_ref04_Run (x := (r_.2, 0, ((r_1.1.drop 0).take ((w64 (((r_1.1.length : Nat) : Int) - 1)).toNat - 0)))) h11 (loC F20_ r_.2 <| loC (eI .i64) 0 <| loC (eSl 1 (true && (w64 (((r_1.1.length : Nat) : Int) - 1)).toNat == (r_1.1.map (eI .i64)).length) (eI .i64)) ((r_1.1.drop 0).take ((w64 (((r_1.1.length : Nat) : Int) - 1)).toNat - 0)) <| loN)), ob (c5), ob (hasG h_ref01_Same), ob (shM (eI .i64) (eI .i64) r_10), ob (shM (eI .i64) (eI .i64) r_11), ob (hasF h_ref01_Same (x := (r_10, r_11)) h12 (loC F3_ r_10 <| loC F3_ r_11 <| loN)), ob (c5), ob (c4), ob (c5), ob (c4), ob (c6), ob (c6), ob (lnM (eI .i64) r_1.1), ob (c6), ob (c6), ob (c6), ob (lnM F11_ r_.1.Rows), ob (c6), ob (c6), ob (c6), ob (lnM F11_ r_.2.Rows), ob (c6), ob (c6), ob (c4), ob (c6), ob (c4), ob (c7)] (by kernel_rfl) fun st0 h0 => hJ1 st0 _ () hf0 h0 inferInstance
            · exact awpBack X0 TTab_ok hC hm [] 4000 [.b false, .b false, .b false, .b false, .b false, .b false, .b false, .b false, .b false, .b false, .b false, .b false, .b false] J1 [] [ob (c4), ob (c4), ob (c4), ob (c4), ob (c4), ob (c4), ob (c4), ob (c4), ob (c4), ob (c4), ob (c4), ob (c4), ob (Eq.refl false)] (by kernel_rfl) fun st0 h0 => hJ1 st0 _ () hf0 h0 inferInstance
end Go.Own

namespace Go.Own
open Go.Proofs
set_option linter.unusedVariables false
theorem ks_ne {l : List Spec} {s : Spec} (h : ((l.map Spec.k).contains s.k) = false) : ∀ t ∈ l, t.k ≠ s.k := by
  intro t ht e
  have : (l.map Spec.k).contains s.k = true := by
    rw [List.contains_iff_mem, ← e]
    exact List.mem_map_of_mem ht
  rw [h] at this
  cases this
theorem has_at {l : List Spec} {c : Ctr} (H : ∀ t ∈ l, c.Has t) (i : Nat) {s : Spec} (h : l[i]? = some s) : c.Has s := H _ (List.mem_of_getElem? h)
theorem orders : Try.prog.follows .mixedOrders = true := by kernel_rfl
noncomputable def L0 : List Spec := sp_law04_M_Of :: []
noncomputable def L1 : List Spec := sp_ref04_Copy :: L0
noncomputable def L2 : List Spec := sp_ref04_Check :: L1
noncomputable def L3 : List Spec := sp_law10_D_Of :: L2
noncomputable def L4 : List Spec := sp_machines_none :: L3
noncomputable def L5 : List Spec := sp_machines_fits :: L4
noncomputable def L6 : List Spec := sp_machines_Check_1 :: L5
noncomputable def L7 : List Spec := sp_slices_IndexFunc_api_Edge_api_Edge :: L6
noncomputable def L8 : List Spec := sp_slices_ContainsFunc_api_Edge_api_Edge :: L7
noncomputable def L9 : List Spec := sp_machines_Check :: L8
noncomputable def L10 : List Spec := sp_cmp_Or_api_Errno :: L9
noncomputable def L11 : List Spec := sp_equals_both :: L10
noncomputable def L12 : List Spec := sp_equals_meets :: L11
noncomputable def L13 : List Spec := sp_slices_Clip_int_int :: L12
noncomputable def L14 : List Spec := sp_equals_word :: L13
noncomputable def L15 : List Spec := sp_slices_Index_2_int_2_int :: L14
noncomputable def L16 : List Spec := sp_slices_Contains_2_int_2_int :: L15
noncomputable def L17 : List Spec := sp_equals_differ :: L16
noncomputable def L18 : List Spec := sp_equals_Differ :: L17
noncomputable def L19 : List Spec := sp_ref10_Beside :: L18
noncomputable def L20 : List Spec := sp_ref07_apart :: L19
noncomputable def L21 : List Spec := sp_ref07_Marked :: L20
noncomputable def L22 : List Spec := sp_ref10_Differ :: L21
noncomputable def L23 : List Spec := sp_ref01_Compare :: L22
noncomputable def L24 : List Spec := sp_ref01_Same :: L23
noncomputable def L25 : List Spec := sp_law10_list :: L24
noncomputable def L26 : List Spec := sp_ref04_Next :: L25
noncomputable def L27 : List Spec := sp_ref04_Run :: L26
noncomputable def L28 : List Spec := sp_law10_edge :: L27
noncomputable def L29 : List Spec := sp_equals_Equal :: L28
noncomputable def L30 : List Spec := sp_cmp_isNaN_int :: L29
noncomputable def L31 : List Spec := sp_cmp_Compare_int :: L30
noncomputable def L32 : List Spec := sp_slices_Compare_int_int :: L31
noncomputable def L33 : List Spec := sp_equals_Relate_1 :: L32
noncomputable def L34 : List Spec := sp_slices_Clip_2_int_2_int :: L33
noncomputable def L35 : List Spec := sp_equals_Relate :: L34
noncomputable def L36 : List Spec := sp_equals_Within :: L35
noncomputable def L37 : List Spec := sp_equals_CheckRelation :: L36
noncomputable def L38 : List Spec := sp_law10_pairs :: L37
noncomputable def L39 : List Spec := sp_law10_lives :: L38
noncomputable def L40 : List Spec := sp_law10_EqualsDiffer :: L39
theorem L0_ok : SpecsOk Try.prog L0 := ⟨fun _ hC H => w_law04_M_Of hC orders, ks_ne (by kernel_rfl), trivial⟩
theorem L1_ok : SpecsOk Try.prog L1 := ⟨fun _ hC H => w_ref04_Copy hC orders, ks_ne (by kernel_rfl), L0_ok⟩
theorem L2_ok : SpecsOk Try.prog L2 := ⟨fun _ hC H => w_ref04_Check hC orders, ks_ne (by kernel_rfl), L1_ok⟩
theorem L3_ok : SpecsOk Try.prog L3 := ⟨fun _ hC H => w_law10_D_Of hC orders (has_at H 2 rfl) (has_at H 1 rfl) (has_at H 0 rfl), ks_ne (by kernel_rfl), L2_ok⟩
theorem L4_ok : SpecsOk Try.prog L4 := ⟨fun _ hC H => w_machines_none hC orders, ks_ne (by kernel_rfl), L3_ok⟩
theorem L5_ok : SpecsOk Try.prog L5 := ⟨fun _ hC H => w_machines_fits hC orders (has_at H 0 rfl), ks_ne (by kernel_rfl), L4_ok⟩
theorem L6_ok : SpecsOk Try.prog L6 := ⟨fun _ hC H => w_machines_Check_1 hC orders (has_at H 0 rfl), ks_ne (by kernel_rfl), L5_ok⟩
theorem L7_ok : SpecsOk Try.prog L7 := ⟨fun _ hC H => w_slices_IndexFunc_api_Edge_api_Edge hC orders (has_at H 0 rfl), ks_ne (by kernel_rfl), L6_ok⟩
theorem L8_ok : SpecsOk Try.prog L8 := ⟨fun _ hC H => w_slices_ContainsFunc_api_Edge_api_Edge hC orders (has_at H 0 rfl), ks_ne (by kernel_rfl), L7_ok⟩
theorem L9_ok : SpecsOk Try.prog L9 := ⟨fun _ hC H => w_machines_Check hC orders (has_at H 0 rfl), ks_ne (by kernel_rfl), L8_ok⟩
theorem L10_ok : SpecsOk Try.prog L10 := ⟨fun _ hC H => w_cmp_Or_api_Errno hC orders, ks_ne (by kernel_rfl), L9_ok⟩
theorem L11_ok : SpecsOk Try.prog L11 := ⟨fun _ hC H => w_equals_both hC orders (has_at H 1 rfl) (has_at H 0 rfl), ks_ne (by kernel_rfl), L10_ok⟩
theorem L12_ok : SpecsOk Try.prog L12 := ⟨fun _ hC H => w_equals_meets hC orders, ks_ne (by kernel_rfl), L11_ok⟩
theorem L13_ok : SpecsOk Try.prog L13 := ⟨fun _ hC H => w_slices_Clip_int_int hC orders, ks_ne (by kernel_rfl), L12_ok⟩
theorem L14_ok : SpecsOk Try.prog L14 := ⟨fun _ hC H => w_equals_word hC orders (has_at H 0 rfl), ks_ne (by kernel_rfl), L13_ok⟩
theorem L15_ok : SpecsOk Try.prog L15 := ⟨fun _ hC H => w_slices_Index_2_int_2_int hC orders, ks_ne (by kernel_rfl), L14_ok⟩
theorem L16_ok : SpecsOk Try.prog L16 := ⟨fun _ hC H => w_slices_Contains_2_int_2_int hC orders (has_at H 0 rfl), ks_ne (by kernel_rfl), L15_ok⟩
theorem L17_ok : SpecsOk Try.prog L17 := ⟨fun _ hC H => w_equals_differ hC orders (has_at H 4 rfl) (has_at H 2 rfl) (has_at H 0 rfl), ks_ne (by kernel_rfl), L16_ok⟩
theorem L18_ok : SpecsOk Try.prog L18 := ⟨fun _ hC H => w_equals_Differ hC orders (has_at H 6 rfl) (has_at H 0 rfl), ks_ne (by kernel_rfl), L17_ok⟩
theorem L19_ok : SpecsOk Try.prog L19 := ⟨fun _ hC H => w_ref10_Beside hC orders, ks_ne (by kernel_rfl), L18_ok⟩
theorem L20_ok : SpecsOk Try.prog L20 := ⟨fun _ hC H => w_ref07_apart hC orders, ks_ne (by kernel_rfl), L19_ok⟩
theorem L21_ok : SpecsOk Try.prog L21 := ⟨fun _ hC H => w_ref07_Marked hC orders (has_at H 0 rfl), ks_ne (by kernel_rfl), L20_ok⟩
theorem L22_ok : SpecsOk Try.prog L22 := ⟨fun _ hC H => w_ref10_Differ hC orders (has_at H 2 rfl) (has_at H 0 rfl), ks_ne (by kernel_rfl), L21_ok⟩
theorem L23_ok : SpecsOk Try.prog L23 := ⟨fun _ hC H => w_ref01_Compare hC orders, ks_ne (by kernel_rfl), L22_ok⟩
theorem L24_ok : SpecsOk Try.prog L24 := ⟨fun _ hC H => w_ref01_Same hC orders (has_at H 0 rfl), ks_ne (by kernel_rfl), L23_ok⟩
theorem L25_ok : SpecsOk Try.prog L25 := ⟨fun _ hC H => w_law10_list hC orders (has_at H 0 rfl), ks_ne (by kernel_rfl), L24_ok⟩
theorem L26_ok : SpecsOk Try.prog L26 := ⟨fun _ hC H => w_ref04_Next hC orders, ks_ne (by kernel_rfl), L25_ok⟩
theorem L27_ok : SpecsOk Try.prog L27 := ⟨fun _ hC H => w_ref04_Run hC orders (has_at H 0 rfl), ks_ne (by kernel_rfl), L26_ok⟩
theorem L28_ok : SpecsOk Try.prog L28 := ⟨fun _ hC H => w_law10_edge hC orders, ks_ne (by kernel_rfl), L27_ok⟩
theorem L29_ok : SpecsOk Try.prog L29 := ⟨fun _ hC H => w_equals_Equal hC orders (has_at H 10 rfl), ks_ne (by kernel_rfl), L28_ok⟩
theorem L30_ok : SpecsOk Try.prog L30 := ⟨fun _ hC H => w_cmp_isNaN_int hC orders, ks_ne (by kernel_rfl), L29_ok⟩
theorem L31_ok : SpecsOk Try.prog L31 := ⟨fun _ hC H => w_cmp_Compare_int hC orders (has_at H 0 rfl), ks_ne (by kernel_rfl), L30_ok⟩
theorem L32_ok : SpecsOk Try.prog L32 := ⟨fun _ hC H => w_slices_Compare_int_int hC orders (has_at H 0 rfl), ks_ne (by kernel_rfl), L31_ok⟩
theorem L33_ok : SpecsOk Try.prog L33 := ⟨fun _ hC H => w_equals_Relate_1 hC orders (has_at H 0 rfl), ks_ne (by kernel_rfl), L32_ok⟩
theorem L34_ok : SpecsOk Try.prog L34 := ⟨fun _ hC H => w_slices_Clip_2_int_2_int hC orders, ks_ne (by kernel_rfl), L33_ok⟩
theorem L35_ok : SpecsOk Try.prog L35 := ⟨fun _ hC H => w_equals_Relate hC orders (has_at H 23 rfl) (has_at H 17 rfl) (has_at H 1 rfl) (has_at H 0 rfl), ks_ne (by kernel_rfl), L34_ok⟩
theorem L36_ok : SpecsOk Try.prog L36 := ⟨fun _ hC H => w_equals_Within hC orders (has_at H 17 rfl), ks_ne (by kernel_rfl), L35_ok⟩
theorem L37_ok : SpecsOk Try.prog L37 := ⟨fun _ hC H => w_equals_CheckRelation hC orders (has_at H 25 rfl), ks_ne (by kernel_rfl), L36_ok⟩
theorem L38_ok : SpecsOk Try.prog L38 := ⟨fun _ hC H => w_law10_pairs hC orders, ks_ne (by kernel_rfl), L37_ok⟩
theorem L39_ok : SpecsOk Try.prog L39 := ⟨fun _ hC H => w_law10_lives hC orders (has_at H 10 rfl) (has_at H 20 rfl) (has_at H 9 rfl) (has_at H 3 rfl) (has_at H 2 rfl) (has_at H 1 rfl) (has_at H 13 rfl) (has_at H 0 rfl), ks_ne (by kernel_rfl), L38_ok⟩
theorem L40_ok : SpecsOk Try.prog L40 := ⟨fun _ hC H => w_law10_EqualsDiffer hC orders (has_at H 36 rfl) (has_at H 21 rfl) (has_at H 17 rfl) (has_at H 14 rfl) (has_at H 12 rfl) (has_at H 15 rfl) (has_at H 0 rfl), ks_ne (by kernel_rfl), L39_ok⟩
end Go.Own

namespace Go.Own
set_option linter.unusedVariables false
theorem w64_in {x : Int} (h1 : -9223372036854775808 ≤ x) (h2 : x ≤ 9223372036854775807) : w64 x = x := by
  simp only [w64, IntKind.wrap, IntKind.bits, IntKind.signed]
  simp
  omega
section
variable {α β σ τ ρ : Type}
/-- x gives something, of which Q holds. -/
def Ret (x : Option α) (Q : α → Prop) : Prop := ∃ a, x = some a ∧ Q a
theorem Ret.mono {x : Option α} {Q R : α → Prop} (h : Ret x Q) (q : ∀ a, Q a → R a) : Ret x R := by
  obtain ⟨a, e, h⟩ := h
  exact ⟨a, e, q a h⟩
theorem Ret.eq {x : Option α} {a : α} (h : Ret x fun b => b = a) : x = some a := by
  obtain ⟨b, e, rfl⟩ := h
  exact e
theorem ret_some {a : α} {Q : α → Prop} : Ret (some a) Q ↔ Q a := ⟨fun ⟨b, e, q⟩ => by cases e; exact q, fun q => ⟨a, rfl, q⟩⟩
theorem ret_bind {x : Option α} {f : α → Option β} {Q : β → Prop} : Ret (Option.bind x f) Q ↔ Ret x fun a => Ret (f a) Q := by
  cases x with
  | none => exact ⟨fun ⟨b, e, _⟩ => (by cases e), fun ⟨b, e, _⟩ => (by cases e)⟩
  | some a => exact ⟨fun h => ⟨a, rfl, h⟩, fun ⟨b, e, h⟩ => by cases e; exact h⟩
theorem ret_gd {p : Prop} [Decidable p] {x : Option α} {Q : α → Prop} : Ret (gd p x) Q ↔ p ∧ Ret x Q := by
  unfold gd
  by_cases h : p
  · rw [if_pos h]; exact ⟨fun q => ⟨h, q⟩, fun q => q.2⟩
  · rw [if_neg h]; exact ⟨fun ⟨b, e, _⟩ => by (cases e), fun q => (h q.1).elim⟩
theorem ret_bif {c : Bool} {x y : Option α} {Q : α → Prop} : Ret (bif c then x else y) Q ↔ (c = true → Ret x Q) ∧ (c = false → Ret y Q) := by
  cases c <;> simp
theorem ret_idx {l : List α} {i : Int} {Q : α → Prop} : Ret (idx l i) Q ↔ 0 ≤ i ∧ ∃ x, l[i.toNat]? = some x ∧ Q x := by
  cases i with
  | ofNat n =>
    show (∃ a, l[n]? = some a ∧ Q a) ↔ _
    simp
  | negSucc n => exact ⟨fun ⟨b, e, _⟩ => by (cases e), fun ⟨h, _⟩ => by omega⟩
theorem idx_nat (l : List α) (i : Nat) : idx l (i : Int) = l[i]? := rfl
theorem gdT {p : Prop} [Decidable p] {x : Option α} (h : p) : gd p x = x := by unfold gd; rw [if_pos h]
theorem bdT {x : Option α} {u : α} {f : α → Option ρ} (h : x = some u) : Option.bind x f = f u := by rw [h]; rfl
theorem loopN_succ (step : σ → Option (LR σ τ)) (n : Nat) (s : σ) : loopN step (n + 1) s = (match step s with | none => none | some (.next s') => loopN step n s' | some (.done t) => some t) := rfl
/-- What a round gives: the rounds that follow, or the end. -/
def LRP (N : σ → Prop) (D : τ → Prop) : LR σ τ → Prop
  | .next s => N s
  | .done t => D t
theorem ret_loop {step : σ → Option (LR σ τ)} (I : σ → Prop) (m : σ → Nat) {R : τ → Prop} {s : σ} (hs : I s) (hm : m s < 18446744073709551616)
    (h : ∀ s, I s → Ret (step s) (LRP (fun s' => I s' ∧ m s' < m s) R)) : Ret (loop step s) R := by
  have gen : ∀ (n : Nat) (s : σ), I s → m s < n → Ret (loopN step n s) R := by
    intro n
    induction n with
    | zero => intro s _ h; omega
    | succ n ih =>
      intro s hs hm
      obtain ⟨a, e, q⟩ := h s hs
      rw [loopN_succ, e]
      cases a with
      | next s' => exact ih s' q.1 (by have := q.2; omega)
      | done t => exact ⟨t, rfl, q⟩
  exact gen fuel s hs hm
/-- A loop whose states are known one after the other. -/
theorem loop_seq {step : σ → Option (LR σ τ)} (st : Nat → σ) (n : Nat) {t : τ} (hn : n < 9223372036854775808) (h : ∀ i, i < n → step (st i) = some (.next (st (i + 1)))) (hd : step (st n) = some (.done t)) : loop step (st 0) = some t := by
  have gen : ∀ (k : Nat) (i : Nat), i ≤ n → n - i < k → loopN step k (st i) = some t := by
    intro k
    induction k with
    | zero => intro i _ h; omega
    | succ k ih =>
      intro i hi hk
      rw [loopN_succ]
      rcases Nat.lt_or_ge i n with q | q
      · rw [h i q]
        exact ih (i + 1) q (by omega)
      · have : i = n := by omega
        subst this
        rw [hd]
  exact gen fuel 0 (Nat.zero_le _) (by show n - 0 < 18446744073709551616; omega)
/-- The first element at which f gives something. -/
def firstS (f : Nat → α → Option ρ) : List α → Nat → Option ρ
  | [], _ => none
  | x :: l, i => match f i x with | some r => some r | none => firstS f l (i + 1)
theorem firstS_none {f : Nat → α → Option ρ} : ∀ {l : List α} {k : Nat}, (∀ i x, l[i]? = some x → f (k + i) x = none) → firstS f l k = none
  | [], _, _ => rfl
  | x :: l, k, h => by
    have h0 := h 0 x rfl
    simp only [Nat.add_zero] at h0
    simp only [firstS, h0]
    exact firstS_none fun i y hy => by have := h (i + 1) y (by simpa using hy); rwa [show k + 1 + i = k + (i + 1) by omega]
theorem firstS_some {f : Nat → α → Option ρ} {r : ρ} : ∀ {l : List α} {k : Nat}, firstS f l k = some r → ∃ i x, l[i]? = some x ∧ f (k + i) x = some r
  | [], _, h => by cases h
  | x :: l, k, h => by
    simp only [firstS] at h
    cases hf : f k x with
    | some r' => rw [hf] at h; exact ⟨0, x, rfl, by rw [Nat.add_zero, hf]; exact h⟩
    | none =>
      rw [hf] at h
      obtain ⟨i, y, h1, h2⟩ := firstS_some h
      exact ⟨i + 1, y, by simpa using h1, by rw [← h2]; congr 1; omega⟩
theorem firstS_isNone {f : Nat → α → Option ρ} {l : List α} {k : Nat} (h : firstS f l k = none) : ∀ i x, l[i]? = some x → f (k + i) x = none := by
  induction l generalizing k with
  | nil => intro i x h; simp at h
  | cons y l ih =>
    intro i x hx
    simp only [firstS] at h
    cases hf : f k y with
    | some r' => rw [hf] at h; cases h
    | none =>
      rw [hf] at h
      cases i with
      | zero => simp at hx; subst hx; simpa using hf
      | succ i => have := ih h i x (by simpa using hx); rwa [show k + (i + 1) = k + 1 + i by omega]
def oS : Option ρ → Unit ⊕ ρ
  | some r => .inr r
  | none => .inl ()
def nS (i : Nat) : Option ρ → LR Int (Unit ⊕ ρ)
  | some r => .done (.inr r)
  | none => .next (w64 ((i : Int) + 1))
/-- A loop over a list's places, that may be left. -/
theorem loop_list (l : List α) (hl : l.length < 4611686018427387904) {step : Int → Option (LR Int (Unit ⊕ ρ))} (f : Nat → α → Option ρ)
    (h : ∀ (i : Nat) (x : α), l[i]? = some x → step (i : Int) = some (nS i (f i x))) (h2 : step (l.length : Int) = some (.done (.inl ()))) :
    loop step 0 = some (oS (firstS f l 0)) := by
  have gen : ∀ (n : Nat) (k : Nat), k ≤ l.length → l.length - k < n → loopN step n (k : Int) = some (oS (firstS f (l.drop k) k)) := by
    intro n
    induction n with
    | zero => intro k _ h; omega
    | succ n ih =>
      intro k hk hn
      rw [loopN_succ]
      rcases Nat.lt_or_ge k l.length with hlt | hge
      · have hx : l[k]? = some l[k] := List.getElem?_eq_getElem hlt
        rw [h k _ hx, List.drop_eq_getElem_cons hlt]
        simp only [firstS]
        cases hf : f k l[k] with
        | some r => rfl
        | none =>
          simp only [nS]
          rw [w64_in (by omega) (by omega)]
          exact ih (k + 1) hlt (by omega)
      · have : k = l.length := by omega
        subst this
        rw [h2, List.drop_length]
        rfl
  exact gen fuel 0 (Nat.zero_le _) (by show l.length - 0 < 18446744073709551616; omega)
end
end Go.Own

namespace Go.Own
set_option linter.unusedVariables false
def fitB (m : S_api_Machine) (x : S_api_Edge) : Bool := (x.To == -1 && x.Out == -1) || (decide (0 ≤ x.To) && decide (x.To < (m.Rows.length : Int)) && decide (0 ≤ x.Out) && decide (x.Out < m.Outputs))
def rowB (m : S_api_Machine) (r : List S_api_Edge) : Bool := decide ((r.length : Int) = m.Inputs) && r.all (fitB m)
def chk (m : S_api_Machine) : Int :=
  if m.Inputs > 16 ∨ m.Outputs > 16 ∨ (m.Rows.length : Int) > 64 then 3 else if m.Inputs < 1 ∨ m.Outputs < 1 ∨ m.Rows.length = 0 then 1 else if m.Rows.all (rowB m) = true then 0 else 1
theorem fits_eq (m : S_api_Machine) (x : S_api_Edge) : machines_fits m x = some (fitB m x) := by
  unfold machines_fits machines_none
  simp only [Option.bind_some, Bool.and_true]
  rcases Bool.eq_false_or_eq_true (x.To == (-1) && x.Out == (-1)) with h | h
  · simp [fitB, h]
  · rw [h]
    simp only [fitB, h, Bool.false_or, cond_false]
    by_cases h1 : (0 : Int) ≤ x.To
    · by_cases h2 : x.To < (m.Rows.length : Int)
      · by_cases h3 : (0 : Int) ≤ x.Out
        · simp [Bool.cond_eq_ite, h1, h2, h3]
        · simp [Bool.cond_eq_ite, h1, h2, h3]
      · simp [Bool.cond_eq_ite, h1, h2]
    · simp [h1]
theorem contains_eq (m : S_api_Machine) (r : List S_api_Edge) (hl : r.length < 4611686018427387904) : slices_ContainsFunc_api_Edge_api_Edge r m = some (!r.all (fitB m)) := by
  have hloop : loop (fun s => slices_IndexFunc_api_Edge_api_Edge_L2 r m s) 0 = some (oS (firstS (fun i x => if fitB m x = true then none else some (i : Int)) r 0)) := by
    refine loop_list r hl _ ?_ ?_
    · intro i x hx
      have hi := (List.getElem?_eq_some_iff.1 hx).1
      unfold slices_IndexFunc_api_Edge_api_Edge_L2
      have hd : decide ((i : Int) < ((r.length : Nat) : Int)) = true := by simpa using hi
      rw [hd, cond_true, idx_nat, bdT hx]
      unfold machines_Check_1
      simp only [fits_eq, Option.bind_some]
      cases fitB m x <;> rfl
    · unfold slices_IndexFunc_api_Edge_api_Edge_L2
      simp
  unfold slices_ContainsFunc_api_Edge_api_Edge slices_IndexFunc_api_Edge_api_Edge
  rw [hloop]
  simp only [Option.bind_some]
  cases hf : firstS (fun i x => if fitB m x = true then none else some (i : Int)) r 0 with
  | some q =>
    obtain ⟨i, x, h1, h2⟩ := firstS_some hf
    have hx : fitB m x ≠ true := by
      intro h; rw [if_pos h] at h2; cases h2
    rw [if_neg hx] at h2
    simp only [Option.some.injEq] at h2
    have : r.all (fitB m) = false := by
      rw [List.all_eq_false]
      exact ⟨x, List.mem_of_getElem? h1, hx⟩
    rw [this]
    have : (q : Int) ≥ 0 := by rw [← h2]; omega
    show some (decide (q ≥ 0)) = _
    simp [this]
  | none =>
    have : r.all (fitB m) = true := by
      rw [List.all_eq_true]
      intro x hx
      obtain ⟨i, hi⟩ := List.getElem?_of_mem hx
      have := firstS_isNone hf i x hi
      by_cases h : fitB m x = true
      · exact h
      · rw [if_neg h] at this; cases this
    rw [this]
    rfl
theorem check_rows {m : S_api_Machine} (h0 : (m.Rows.length : Int) ≤ 64) (h1 : m.Inputs ≤ 16) : loop (fun s => machines_Check_L2 m s) 0 = some (oS (firstS (fun _ r => if rowB m r = true then none else some (1 : Int)) m.Rows 0)) := by
  refine loop_list m.Rows (by omega) _ ?_ ?_
  · intro i r hr
    have hi := (List.getElem?_eq_some_iff.1 hr).1
    unfold machines_Check_L2
    have hd : decide ((i : Int) < ((m.Rows.length : Nat) : Int)) = true := by simpa using hi
    rw [hd, cond_true, idx_nat, bdT hr]
    by_cases hlen : (r.length : Int) = m.Inputs
    · have hne : (((r.length : Nat) : Int) != m.Inputs) = false := by simpa using hlen
      rw [hne, cond_false, bdT (contains_eq m r (by omega))]
      have : rowB m r = r.all (fitB m) := by simp [rowB, hlen]
      rw [this]
      cases r.all (fitB m) <;> rfl
    · have hne : (((r.length : Nat) : Int) != m.Inputs) = true := by simpa using hlen
      rw [hne, cond_true]
      have : rowB m r = false := by simp [rowB, hlen]
      rw [this]; rfl
  · unfold machines_Check_L2
    simp
theorem rows_first (m : S_api_Machine) : firstS (fun _ r => if rowB m r = true then none else some (1 : Int)) m.Rows 0 = if m.Rows.all (rowB m) = true then none else some 1 := by
  by_cases h : m.Rows.all (rowB m) = true
  · rw [if_pos h]
    refine firstS_none fun i r hr => ?_
    rw [if_pos (List.all_eq_true.1 h r (List.mem_of_getElem? hr))]
  · rw [if_neg h]
    cases hf : firstS (fun _ r => if rowB m r = true then none else some (1 : Int)) m.Rows 0 with
    | some q =>
      obtain ⟨i, x, h1, h2⟩ := firstS_some hf
      split at h2
      · cases h2
      · exact h2.symm ▸ rfl
    | none =>
      exfalso
      apply h
      rw [List.all_eq_true]
      intro x hx
      obtain ⟨i, hi⟩ := List.getElem?_of_mem hx
      have := firstS_isNone hf i x hi
      by_cases h : rowB m x = true
      · exact h
      · rw [if_neg h] at this; cases this
theorem check_eq (m : S_api_Machine) : machines_Check m = some (chk m) := by
  unfold machines_Check chk
  by_cases h1 : m.Inputs > 16
  · simp [h1]
  by_cases h2 : m.Outputs > 16
  · simp [Bool.cond_eq_ite, h1, h2]
  by_cases h3 : (m.Rows.length : Int) > 64
  · simp [Bool.cond_eq_ite, h1, h2, h3]
  rw [if_neg (by simp [Bool.cond_eq_ite, h1, h2, h3])]
  by_cases h4 : m.Inputs < 1
  · simp [Bool.cond_eq_ite, h1, h2, h3, h4]
  by_cases h5 : m.Outputs < 1
  · simp [Bool.cond_eq_ite, h1, h2, h3, h4, h5]
  by_cases h6 : m.Rows.length = 0
  · simp [Bool.cond_eq_ite, h1, h2, h4, h5, h6]
  rw [if_neg (by simp [h4, h5, h6])]
  have h6' : decide (((m.Rows.length : Nat) : Int) < 1) = false := by simp; omega
  have e1 : decide (m.Inputs > 16) = false := by simpa using h1
  have e2 : decide (m.Outputs > 16) = false := by simpa using h2
  have e3 : decide (((m.Rows.length : Nat) : Int) > 64) = false := by simpa using h3
  have e4 : decide (m.Inputs < 1) = false := by simpa using h4
  have e5 : decide (m.Outputs < 1) = false := by simpa using h5
  simp only [e1, e2, e3, e4, e5, h6', cond_false]
  rw [bdT (check_rows (by omega) (by omega)), rows_first]
  by_cases h : m.Rows.all (rowB m) = true
  · rw [if_pos h, if_pos h]; rfl
  · rw [if_neg h, if_neg h]; rfl
theorem ref_edges {m : S_api_Machine} {s : Nat} {r : List S_api_Edge} (hr : m.Rows[s]? = some r) (hlen : (r.length : Int) = m.Inputs) (h1 : m.Inputs ≤ 16) : loop (fun q => ref04_Check_L4 m (s : Int) q) 0 = some (if r.all (fitB m) = true then .inl () else .inr 1) := by
  have hl : loop (fun q => ref04_Check_L4 m (s : Int) q) 0 = some (oS (firstS (fun _ x => if fitB m x = true then none else some (1 : Int)) r 0)) := by
    refine loop_list r (by omega) _ ?_ ?_
    · intro i x hx
      have hi := (List.getElem?_eq_some_iff.1 hx).1
      unfold ref04_Check_L4
      have hd : decide ((i : Int) < m.Inputs) = true := by rw [← hlen]; simpa using hi
      rw [hd, cond_true, idx_nat, bdT hr, idx_nat, bdT hx]
      unfold ref04_Check_J6 ref04_Check_J5 fitB
      by_cases a1 : x.To = -1
      · by_cases a2 : x.Out = -1
        · simp [nS, Bool.cond_eq_ite, a1, a2]
        · simp [nS, Bool.cond_eq_ite, a1, a2]
      · by_cases a2 : x.To < 0
        · have : ¬ 0 ≤ x.To := by omega
          simp [nS, Bool.cond_eq_ite, a1, a2, this]
        · by_cases a3 : (m.Rows.length : Int) ≤ x.To
          · have : ¬ x.To < (m.Rows.length : Int) := by omega
            simp [nS, Bool.cond_eq_ite, a1, a2, a3, this]
          · by_cases a4 : x.Out < 0
            · have : ¬ 0 ≤ x.Out := by omega
              simp [nS, Bool.cond_eq_ite, a1, a2, a3, a4, this]
            · by_cases a5 : m.Outputs ≤ x.Out
              · have : ¬ x.Out < m.Outputs := by omega
                simp [nS, Bool.cond_eq_ite, a1, a2, a3, a4, a5, this]
              · have b1 : 0 ≤ x.To := by omega
                have b2 : x.To < (m.Rows.length : Int) := by omega
                have b3 : 0 ≤ x.Out := by omega
                have b4 : x.Out < m.Outputs := by omega
                simp [nS, Bool.cond_eq_ite, a1, a2, a3, a4, a5, b1, b2, b3, b4]
    · unfold ref04_Check_L4
      simp [hlen]
  rw [hl]
  by_cases h : r.all (fitB m) = true
  · rw [if_pos h]
    rw [firstS_none fun i x hx => by rw [if_pos (List.all_eq_true.1 h x (List.mem_of_getElem? hx))]]
    rfl
  · rw [if_neg h]
    cases hf : firstS (fun _ x => if fitB m x = true then none else some (1 : Int)) r 0 with
    | some q =>
      obtain ⟨i, x, h1, h2⟩ := firstS_some hf
      split at h2
      · cases h2
      · simp only [Option.some.injEq] at h2; rw [← h2]; rfl
    | none =>
      exfalso
      apply h
      rw [List.all_eq_true]
      intro x hx
      obtain ⟨i, hi⟩ := List.getElem?_of_mem hx
      have := firstS_isNone hf i x hi
      by_cases h : fitB m x = true
      · exact h
      · rw [if_neg h] at this; cases this
theorem ref_check (m : S_api_Machine) : ref04_Check m = some (chk m) := by
  unfold ref04_Check chk
  by_cases h1 : m.Inputs > 16
  · simp [h1]
  by_cases h2 : m.Outputs > 16
  · simp [Bool.cond_eq_ite, h1, h2]
  by_cases h3 : (m.Rows.length : Int) > 64
  · simp [Bool.cond_eq_ite, h1, h2, h3]
  rw [if_neg (by simp [Bool.cond_eq_ite, h1, h2, h3])]
  by_cases h4 : m.Inputs < 1
  · simp [Bool.cond_eq_ite, h1, h2, h3, h4]
  by_cases h5 : m.Outputs < 1
  · simp [Bool.cond_eq_ite, h1, h2, h3, h4, h5]
  by_cases h6 : m.Rows.length = 0
  · simp [Bool.cond_eq_ite, h1, h2, h4, h5, h6]
  rw [if_neg (by simp [h4, h5, h6])]
  have e1 : decide (m.Inputs > 16) = false := by simpa using h1
  have e2 : decide (m.Outputs > 16) = false := by simpa using h2
  have e3 : decide (((m.Rows.length : Nat) : Int) > 64) = false := by simpa using h3
  have e4 : decide (m.Inputs < 1) = false := by simpa using h4
  have e5 : decide (m.Outputs < 1) = false := by simpa using h5
  have e6 : (((m.Rows.length : Nat) : Int) == 0) = false := by simp; intro h; rw [h] at h6; exact h6 rfl
  simp only [e1, e2, e3, e4, e5, e6, cond_false]
  have hl : loop (fun s => ref04_Check_L2 m s) 0 = some (oS (firstS (fun _ r => if rowB m r = true then none else some (1 : Int)) m.Rows 0)) := by
    refine loop_list m.Rows (by omega) _ ?_ ?_
    · intro i r hr
      have hi := (List.getElem?_eq_some_iff.1 hr).1
      unfold ref04_Check_L2
      have hd : decide ((i : Int) < ((m.Rows.length : Nat) : Int)) = true := by simpa using hi
      rw [hd, cond_true, idx_nat, bdT hr]
      by_cases hlen : (r.length : Int) = m.Inputs
      · have hne : (((r.length : Nat) : Int) != m.Inputs) = false := by simpa using hlen
        rw [hne, cond_false, bdT (ref_edges hr hlen (by omega))]
        have : rowB m r = r.all (fitB m) := by simp [rowB, hlen]
        rw [this]
        cases r.all (fitB m) <;> rfl
      · have hne : (((r.length : Nat) : Int) != m.Inputs) = true := by simpa using hlen
        rw [hne, cond_true]
        have : rowB m r = false := by simp [rowB, hlen]
        rw [this]; rfl
    · unfold ref04_Check_L2
      simp
  rw [bdT hl, rows_first]
  by_cases h : m.Rows.all (rowB m) = true
  · rw [if_pos h, if_pos h]; rfl
  · rw [if_neg h, if_neg h]; rfl
end Go.Own

namespace Go.Own
set_option linter.unusedVariables false
structure VM (m : S_api_Machine) : Prop where
  in1 : 1 ≤ m.Inputs
  in16 : m.Inputs ≤ 16
  out1 : 1 ≤ m.Outputs
  out16 : m.Outputs ≤ 16
  len1 : 1 ≤ m.Rows.length
  len64 : m.Rows.length ≤ 64
  row : ∀ r ∈ m.Rows, (r.length : Int) = m.Inputs
  edge : ∀ r ∈ m.Rows, ∀ x ∈ r, (x.To = -1 ∧ x.Out = -1) ∨ (0 ≤ x.To ∧ x.To < (m.Rows.length : Int) ∧ 0 ≤ x.Out ∧ x.Out < m.Outputs)
theorem vm_of {m : S_api_Machine} (h : chk m = 0) : VM m := by
  unfold chk at h
  split at h
  · cases h
  split at h
  · cases h
  split at h
  · rename_i h1 h2 h3
    rw [List.all_eq_true] at h3
    refine ⟨by omega, by omega, by omega, by omega, by omega, by omega, fun r hr => ?_, fun r hr x hx => ?_⟩
    · have := h3 r hr
      simp only [rowB, Bool.and_eq_true, decide_eq_true_eq] at this
      exact this.1
    · have := h3 r hr
      simp only [rowB, Bool.and_eq_true, decide_eq_true_eq, List.all_eq_true] at this
      have := this.2 x hx
      simp only [fitB, Bool.or_eq_true, Bool.and_eq_true, beq_iff_eq, decide_eq_true_eq] at this
      rcases this with ⟨a, b⟩ | ⟨⟨⟨a, b⟩, c⟩, d⟩
      · exact .inl ⟨a, b⟩
      · exact .inr ⟨a, b, c, d⟩
  · cases h
theorem chk_of {m : S_api_Machine} (h : VM m) : chk m = 0 := by
  unfold chk
  have := h.in1; have := h.in16; have := h.out1; have := h.out16; have := h.len1; have := h.len64
  rw [if_neg (by omega), if_neg (by omega), if_pos]
  rw [List.all_eq_true]
  intro r hr
  simp only [rowB, Bool.and_eq_true, decide_eq_true_eq, List.all_eq_true]
  refine ⟨h.row r hr, fun x hx => ?_⟩
  simp only [fitB, Bool.or_eq_true, Bool.and_eq_true, beq_iff_eq, decide_eq_true_eq]
  rcases h.edge r hr x hx with ⟨a, b⟩ | ⟨a, b, c, d⟩
  · exact .inl ⟨a, b⟩
  · exact .inr ⟨⟨⟨a, b⟩, c⟩, d⟩
/-- The number of inputs. -/
def kk (m : S_api_Machine) : Nat := m.Inputs.toNat
/-- The edge of a state for an input. -/
def E (m : S_api_Machine) (s i : Nat) : S_api_Edge := ((m.Rows[s]?.getD [])[i]?).getD ⟨-1, -1⟩
section
variable {m : S_api_Machine} (h : VM m)
include h
theorem VM.kk_eq : ((kk m : Nat) : Int) = m.Inputs := by have := h.in1; unfold kk; omega
theorem VM.kk_le : kk m ≤ 16 := by have := h.in16; unfold kk; omega
theorem VM.rowAt {s : Nat} (hs : s < m.Rows.length) : ∃ r, m.Rows[s]? = some r ∧ r.length = kk m ∧ ∀ i, i < kk m → r[i]? = some (E m s i) := by
  have hr := List.getElem?_eq_getElem hs
  have hl := h.row _ (List.getElem_mem hs)
  have hl' : m.Rows[s].length = kk m := by unfold kk; omega
  refine ⟨_, hr, hl', fun i hi => ?_⟩
  have hi' : i < m.Rows[s].length := by omega
  unfold E
  rw [hr]
  simp only [Option.getD_some]
  rw [List.getElem?_eq_getElem hi']
  rfl
theorem VM.edgeAt {s i : Nat} (hs : s < m.Rows.length) (hi : i < kk m) : ((E m s i).To = -1 ∧ (E m s i).Out = -1) ∨ (0 ≤ (E m s i).To ∧ (E m s i).To < (m.Rows.length : Int) ∧ 0 ≤ (E m s i).Out ∧ (E m s i).Out < m.Outputs) := by
  obtain ⟨r, h1, _, h2⟩ := h.rowAt hs
  exact h.edge r (List.mem_of_getElem? h1) _ (List.mem_of_getElem? (h2 i hi))
theorem VM.edge_eq {s i : Nat} (hs : s < m.Rows.length) (hi : i < kk m) {β : Type} {f : S_api_Edge → Option β} :
    (Option.bind (idx m.Rows (s : Int)) fun r => Option.bind (idx r (i : Int)) f) = f (E m s i) := by
  obtain ⟨r, h1, _, h2⟩ := h.rowAt hs
  rw [idx_nat, h1, Option.bind_some, idx_nat, h2 i hi, Option.bind_some]
end
section
variable {K V : Type} [BEq K] [LawfulBEq K]
theorem mget_set (l : List (K × V)) (x y : K) (v : V) : mget (mset l x v) y = if (x == y) = true then some v else mget l y := by
  induction l with
  | nil => simp only [mset, mget]
  | cons p l ih =>
    simp only [mset]
    by_cases h : p.1 = x
    · rw [if_pos (by simpa using h)]
      simp only [mget]
      by_cases q : x = y
      · rw [if_pos (by simpa using q), if_pos (by simpa using q)]
      · rw [if_neg (by simpa using q), if_neg (by simpa using q), if_neg (by rw [h]; simpa using q)]
    · rw [if_neg (by simpa using h)]
      simp only [mget, ih]
      by_cases q : p.1 = y
      · have q' : ¬ x = y := by rintro rfl; exact h q
        have e1 : (p.1 == y) = true := by simpa using q
        have e2 : (x == y) = false := by simpa using q'
        simp [e1, e2]
      · have e1 : (p.1 == y) = false := by simpa using q
        simp [e1]
end
instance : LawfulBEq (Arr2 Int) := {
  eq_of_beq := by
    intro a b h
    obtain ⟨a0, a1⟩ := a
    obtain ⟨b0, b1⟩ := b
    simp only [BEq.beq, Bool.and_eq_true, decide_eq_true_eq] at h
    rw [h.1, h.2]
  rfl := by
    intro a
    obtain ⟨a0, a1⟩ := a
    simp [BEq.beq] }
end Go.Own

namespace Go.Own
set_option linter.unusedVariables false
section
variable {S : Type}
/-- The number of a word that is written from its end. -/
def rv (k : Nat) : List Nat → Nat
  | [] => 0
  | i :: u => rv k u * k + i + 1
/-- From p0 a word, written from its end, leads to q without telling. -/
def PathR (k : Nat) (bad : S → Nat → Bool) (nx : S → Nat → Option S) (p0 : S) : List Nat → S → Prop
  | [], q => q = p0
  | i :: u, q => ∃ p, PathR k bad nx p0 u p ∧ i < k ∧ bad p i = false ∧ nx p i = some q
/-- A word, written from its end, tells at its last symbol. -/
def TellR (k : Nat) (bad : S → Nat → Bool) (nx : S → Nat → Option S) (p0 : S) : List Nat → Prop
  | [] => False
  | i :: u => ∃ p, PathR k bad nx p0 u p ∧ i < k ∧ bad p i = true
/-- The same of a word written from its beginning. -/
def TellF (k : Nat) (bad : S → Nat → Bool) (nx : S → Nat → Option S) : S → List Nat → Prop
  | _, [] => False
  | p, [i] => i < k ∧ bad p i = true
  | p, i :: w => i < k ∧ bad p i = false ∧ ∃ q, nx p i = some q ∧ TellF k bad nx q w
structure Bfs (k : Nat) (bad : S → Nat → Bool) (nx : S → Nat → Option S) (p0 : S) (L : List (S × List Nat)) (at_ i : Nat) : Prop where
  first : L[0]? = some (p0, [])
  mono : ∀ (j j' : Nat) (a b : S × List Nat), j < j' → L[j]? = some a → L[j']? = some b → rv k a.2 < rv k b.2
  path : ∀ a ∈ L, PathR k bad nx p0 a.2 a.1
  ahead : ∀ a c, L[at_]? = some c → a ∈ L → rv k a.2 < rv k c.2 * k + i + 1
  pos : i ≤ k
  lies : at_ ≤ L.length
  fin : at_ = L.length → i = 0
  seen : ∀ (j x : Nat) (a : S × List Nat), L[j]? = some a → x < k → (j < at_ ∨ j = at_ ∧ x < i) → bad a.1 x = false ∧ ∀ q, nx a.1 x = some q → ∃ b ∈ L, b.1 = q ∧ rv k b.2 ≤ rv k a.2 * k + x + 1
variable {k : Nat} {bad : S → Nat → Bool} {nx : S → Nat → Option S} {p0 : S}
theorem Bfs.start : Bfs k bad nx p0 [(p0, [])] 0 0 := {
  first := rfl
  mono := by
    intro j j' a b h h1 h2
    have := (List.getElem?_eq_some_iff.1 h2).1
    simp at this
    omega
  path := by intro a ha; simp at ha; subst ha; rfl
  ahead := by intro a c _ ha; simp at ha; subst ha; simp [rv]
  pos := Nat.zero_le _
  lies := by simp
  fin := by intro; rfl
  seen := by rintro j x a h _ (q | ⟨_, q⟩) <;> omega }
/-- An input that tells nothing and leads nowhere new. -/
theorem Bfs.old {L : List (S × List Nat)} {a i : Nat} (h : Bfs k bad nx p0 L a i) {c : S × List Nat} (hc : L[a]? = some c) (hi : i < k) (hb : bad c.1 i = false)
    (hn : ∀ q, nx c.1 i = some q → ∃ b ∈ L, b.1 = q) : Bfs k bad nx p0 L a (i + 1) := {
  first := h.first
  mono := h.mono
  path := h.path
  ahead := fun x y hy hx => by have := h.ahead x y hy hx; omega
  pos := hi
  lies := h.lies
  fin := fun e => by have := (List.getElem?_eq_some_iff.1 hc).1; omega
  seen := by
    intro j x y hy hx q
    by_cases e : j = a ∧ x = i
    · obtain ⟨rfl, rfl⟩ := e
      rw [hc] at hy
      cases hy
      refine ⟨hb, fun q hq => ?_⟩
      obtain ⟨b, h1, h2⟩ := hn q hq
      exact ⟨b, h1, h2, by have := h.ahead b c hc h1; omega⟩
    · exact h.seen j x y hy hx (by omega) }
theorem Bfs.new {L : List (S × List Nat)} {a i : Nat} (h : Bfs k bad nx p0 L a i) {c : S × List Nat} (hc : L[a]? = some c) (hi : i < k) (hb : bad c.1 i = false) {q : S}
    (hn : nx c.1 i = some q) : Bfs k bad nx p0 (L ++ [(q, i :: c.2)]) a (i + 1) := by
  have hlt := (List.getElem?_eq_some_iff.1 hc).1
  refine ⟨?_, ?_, ?_, ?_, hi, by simp; omega, fun e => by simp at e; omega, ?_⟩
  · rw [List.getElem?_append_left (by omega)]; exact h.first
  · intro j j' x y hj h1 h2
    have hl := (List.getElem?_eq_some_iff.1 h2).1
    simp at hl
    rw [List.getElem?_append_left (by omega)] at h1
    rcases Nat.lt_or_ge j' L.length with g | g
    · rw [List.getElem?_append_left g] at h2
      exact h.mono j j' x y hj h1 h2
    · have : j' = L.length := by omega
      subst this
      simp at h2
      subst h2
      exact h.ahead x c hc (List.mem_of_getElem? h1)
  · intro x hx
    rcases List.mem_append.1 hx with g | g
    · exact h.path x g
    · simp at g
      subst g
      exact ⟨c.1, h.path c (List.mem_of_getElem? hc), hi, hb, hn⟩
  · intro x y hy hx
    rw [List.getElem?_append_left hlt] at hy
    rcases List.mem_append.1 hx with g | g
    · have := h.ahead x y hy g; omega
    · simp at g
      subst g
      rw [hc] at hy
      cases hy
      simp [rv]
  · intro j x y hy hx g
    rw [List.getElem?_append_left (by omega)] at hy
    by_cases e : j = a ∧ x = i
    · obtain ⟨rfl, rfl⟩ := e
      rw [hc] at hy
      cases hy
      refine ⟨hb, fun q' hq => ?_⟩
      rw [hn] at hq
      cases hq
      exact ⟨(q, x :: c.2), by simp, rfl, Nat.le_refl _⟩
    · obtain ⟨h1, h2⟩ := h.seen j x y hy hx (by omega)
      refine ⟨h1, fun q' hq => ?_⟩
      obtain ⟨b, g1, g2⟩ := h2 q' hq
      exact ⟨b, List.mem_append_left _ g1, g2⟩
theorem Bfs.step {L : List (S × List Nat)} {a : Nat} (h : Bfs k bad nx p0 L a k) (ha : a < L.length) : Bfs k bad nx p0 L (a + 1) 0 := {
  first := h.first
  mono := h.mono
  path := h.path
  ahead := by
    intro x c hc hx
    have h1 := h.ahead x _ (List.getElem?_eq_getElem ha) hx
    have h2 := h.mono a (a + 1) _ _ (by omega) (List.getElem?_eq_getElem ha) hc
    have h3 : (rv k L[a].2 + 1) * k ≤ rv k c.2 * k := Nat.mul_le_mul_right _ h2
    rw [Nat.succ_mul] at h3
    omega
  pos := Nat.zero_le _
  lies := ha
  fin := fun _ => rfl
  seen := fun j x b hb hx g => h.seen j x b hb hx (by rcases g with g | ⟨_, g⟩ <;> omega) }
/-- What is reached by lesser words stands in the list. -/
theorem Bfs.reach {L : List (S × List Nat)} {a i : Nat} (h : Bfs k bad nx p0 L a i) : ∀ (u : List Nat) (q : S), PathR k bad nx p0 u q → (∀ c, L[a]? = some c → rv k u < rv k c.2 * k + i + 1) → ∃ (j : Nat) (b : S × List Nat), L[j]? = some b ∧ b.1 = q ∧ rv k b.2 ≤ rv k u
  | [], q, hp, _ => ⟨0, _, h.first, hp.symm, Nat.zero_le _⟩
  | x :: u, q, ⟨p, hp, hx, hb, hn⟩, hlt => by
    have hk : rv k u ≤ rv k u * k := Nat.le_mul_of_pos_right _ (by omega)
    obtain ⟨j, b, hj, rfl, hr⟩ := h.reach u p hp fun c hc => by have := hlt c hc; simp only [rv] at this; omega
    have hmul : rv k b.2 * k ≤ rv k u * k := Nat.mul_le_mul_right _ hr
    have hjl := (List.getElem?_eq_some_iff.1 hj).1
    have hpos : j < a ∨ j = a ∧ x < i := by
      rcases Nat.lt_trichotomy j a with g | g | g
      · exact .inl g
      · subst g
        refine .inr ⟨rfl, ?_⟩
        have := hlt b hj
        simp only [rv] at this
        omega
      · exfalso
        have hal : a < L.length := by omega
        have h1 := hlt _ (List.getElem?_eq_getElem hal)
        have h2 := h.mono a j _ _ g (List.getElem?_eq_getElem hal) hj
        have h3 : (rv k L[a].2 + 1) * k ≤ rv k b.2 * k := Nat.mul_le_mul_right _ h2
        rw [Nat.succ_mul] at h3
        have := h.pos
        simp only [rv] at h1
        omega
    obtain ⟨_, h2⟩ := h.seen j x b hj hx hpos
    obtain ⟨c, g1, g2, g3⟩ := h2 q hn
    obtain ⟨j', g4⟩ := List.getElem?_of_mem g1
    exact ⟨j', c, g4, g2, by simp only [rv]; omega⟩
/-- No lesser word tells. -/
theorem Bfs.least {L : List (S × List Nat)} {a i : Nat} (h : Bfs k bad nx p0 L a i) {w : List Nat} (hw : TellR k bad nx p0 w) (hlt : ∀ c, L[a]? = some c → rv k w < rv k c.2 * k + i + 1) : False := by
  cases w with
  | nil => exact hw
  | cons x u =>
    obtain ⟨p, hp, hx, hb⟩ := hw
    have hk : rv k u ≤ rv k u * k := Nat.le_mul_of_pos_right _ (by omega)
    obtain ⟨j, b, hj, rfl, hr⟩ := h.reach u p hp fun c hc => by have := hlt c hc; simp only [rv] at this; omega
    have hmul : rv k b.2 * k ≤ rv k u * k := Nat.mul_le_mul_right _ hr
    have hjl := (List.getElem?_eq_some_iff.1 hj).1
    have hpos : j < a ∨ j = a ∧ x < i := by
      rcases Nat.lt_trichotomy j a with g | g | g
      · exact .inl g
      · subst g
        refine .inr ⟨rfl, ?_⟩
        have := hlt b hj
        simp only [rv] at this
        omega
      · exfalso
        have hal : a < L.length := by omega
        have h1 := hlt _ (List.getElem?_eq_getElem hal)
        have h2 := h.mono a j _ _ g (List.getElem?_eq_getElem hal) hj
        have h3 : (rv k L[a].2 + 1) * k ≤ rv k b.2 * k := Nat.mul_le_mul_right _ h2
        rw [Nat.succ_mul] at h3
        have := h.pos
        simp only [rv] at h1
        omega
    have := (h.seen j x b hj hx hpos).1
    rw [this] at hb
    cases hb
theorem path_cons {i : Nat} {q : S} (hi : i < k) (hb : bad p0 i = false) (hn : nx p0 i = some q) : ∀ {u : List Nat} {r : S}, PathR k bad nx q u r → PathR k bad nx p0 (u ++ [i]) r
  | [], r, h => ⟨p0, rfl, hi, hb, by rw [hn]; exact congrArg some h.symm⟩
  | x :: u, r, ⟨p, hp, h⟩ => ⟨p, path_cons hi hb hn hp, h⟩
theorem tell_rev : ∀ {w : List Nat} {p : S}, TellF k bad nx p w → TellR k bad nx p w.reverse
  | [], _, h => h.elim
  | [i], p, h => ⟨p, rfl, h⟩
  | i :: j :: w, p, ⟨hi, hb, q, hn, h⟩ => by
    have := tell_rev h
    rw [List.reverse_cons]
    cases hr : (j :: w).reverse with
    | nil => simp at hr
    | cons x u =>
      rw [hr] at this
      obtain ⟨r, h1, h2⟩ := this
      exact ⟨r, path_cons hi hb hn h1, h2⟩
theorem path_snoc : ∀ {u : List Nat} {q : S} {i : Nat} {w : List Nat}, PathR k bad nx p0 u q → TellF k bad nx q (i :: w) → TellF k bad nx p0 (u.reverse ++ i :: w)
  | [], q, i, w, h, t => by
    simp only [PathR] at h
    subst h
    exact t
  | x :: u, q, i, w, ⟨p, hp, hx, hb, hn⟩, t => by
    have := path_snoc (i := x) (w := i :: w) hp ⟨hx, hb, q, hn, t⟩
    simpa using this
theorem tell_fwd {w : List Nat} (h : TellR k bad nx p0 w) : TellF k bad nx p0 w.reverse := by
  cases w with
  | nil => exact h
  | cons i u =>
    obtain ⟨p, h1, h2⟩ := h
    have := path_snoc (i := i) (w := []) h1 h2
    simpa using this
def fv (k : Nat) : Nat → List Nat → Nat
  | n, [] => n
  | n, i :: w => fv k (n * k + i + 1) w
theorem fv_rv : ∀ (w u : List Nat), fv k (rv k u) w = rv k (w.reverse ++ u)
  | [], u => rfl
  | i :: w, u => by
    have := fv_rv w (i :: u)
    simp only [rv] at this
    simp only [fv, List.reverse_cons, List.append_assoc, List.singleton_append]
    exact this
theorem fv_lt : ∀ {w v : List Nat} {n m : Nat}, n < m → w.length = v.length → (∀ x ∈ w, x < k) → fv k n w < fv k m v
  | [], [], n, m, h, _, _ => h
  | i :: w, j :: v, n, m, h, hl, hw => by
    simp only [fv]
    refine fv_lt ?_ (by simpa using hl) fun x hx => hw x (by simp [hx])
    have h1 : (n + 1) * k ≤ m * k := Nat.mul_le_mul_right _ h
    rw [Nat.succ_mul] at h1
    have := hw i (by simp)
    omega
theorem rv_len : ∀ {u v : List Nat}, u.length < v.length → (∀ x ∈ u, x < k) → rv k u < rv k v
  | [], j :: v, _, _ => by simp [rv]
  | i :: u, j :: v, h, hu => by
    have := rv_len (u := u) (v := v) (by simpa using h) fun x hx => hu x (by simp [hx])
    have h1 : (rv k u + 1) * k ≤ rv k v * k := Nat.mul_le_mul_right _ this
    rw [Nat.succ_mul] at h1
    have := hu i (by simp)
    simp only [rv]
    omega
/-- The order of words of one length. -/
def LexLE : List Nat → List Nat → Prop
  | [], _ => True
  | i :: u, j :: v => i < j ∨ i = j ∧ LexLE u v
  | _ :: _, [] => False
theorem fv_lex : ∀ {w v : List Nat} {n : Nat}, LexLE w v → w.length = v.length → (∀ x ∈ w, x < k) → w = v ∨ fv k n w < fv k n v
  | [], [], n, _, _, _ => .inl rfl
  | i :: w, j :: v, n, h, hl, hw => by
    rcases h with h | ⟨rfl, h⟩
    · refine .inr ?_
      show fv k (n * k + i + 1) w < fv k (n * k + j + 1) v
      exact fv_lt (by omega) (by simpa using hl) fun x hx => hw x (by simp [hx])
    · rcases fv_lex (n := n * k + i + 1) h (by simpa using hl) fun x hx => hw x (by simp [hx]) with rfl | h
      · exact .inl rfl
      · exact .inr h
theorem tell_lt : ∀ {w : List Nat} {p : S}, TellF k bad nx p w → ∀ x ∈ w, x < k
  | [], _, h => h.elim
  | [i], _, h => by simpa using h.1
  | i :: j :: w, _, ⟨hi, _, q, _, h⟩ => by
    intro x hx
    rcases List.mem_cons.1 hx with rfl | hx
    · exact hi
    · exact tell_lt h x hx
/-- Least in both ways: the same word. -/
theorem least_same {u v : List Nat} (hu : TellR k bad nx p0 u) (h1 : ∀ w, TellR k bad nx p0 w → rv k u ≤ rv k w) (hv : TellF k bad nx p0 v) (h2 : ∀ w, TellF k bad nx p0 w → v.length ≤ w.length ∧ (v.length = w.length → LexLE v w)) : u.reverse = v := by
  have hu' := tell_fwd hu
  have hv' := tell_rev hv
  have l1 := (h2 _ hu').1
  have hlt := tell_lt hu'
  have g := h1 _ hv'
  have hl : v.length = u.reverse.length := by
    rcases Nat.lt_or_ge v.length u.reverse.length with q | q
    · have := rv_len (k := k) (u := v.reverse) (v := u) (by simpa using q) (fun x hx => tell_lt hv x (by simpa using hx))
      omega
    · omega
  have l2 := (h2 _ hu').2 hl
  rcases fv_lex (k := k) (n := 0) l2 hl (tell_lt hv) with e | e
  · exact e.symm
  · have e1 := fv_rv (k := k) v []
    have e2 := fv_rv (k := k) u.reverse []
    simp only [rv, List.append_nil, List.reverse_reverse] at e1 e2
    omega
/-- Told apart by at most n symbols. -/
def Mk (k : Nat) (bad : S → Nat → Bool) (nx : S → Nat → Option S) : Nat → S → Prop
  | 0, _ => False
  | n + 1, p => Mk k bad nx n p ∨ ∃ i, i < k ∧ (bad p i = true ∨ ∃ q, nx p i = some q ∧ Mk k bad nx n q)
theorem Mk.mono {n m : Nat} {p : S} (h : Mk k bad nx n p) (hm : n ≤ m) : Mk k bad nx m p := by
  induction hm with
  | refl => exact h
  | step _ ih => exact .inl ih
theorem Mk.tell : ∀ {n : Nat} {p : S}, Mk k bad nx n p → ∃ w, TellF k bad nx p w ∧ w.length ≤ n
  | 0, _, h => h.elim
  | n + 1, p, .inl h => by
    obtain ⟨w, h1, h2⟩ := Mk.tell h
    exact ⟨w, h1, by omega⟩
  | n + 1, p, .inr ⟨i, hi, h⟩ => by
    by_cases hb : bad p i = true
    · exact ⟨[i], ⟨hi, hb⟩, by simp⟩
    · rcases h with h | ⟨q, hq, h⟩
      · exact (hb h).elim
      · obtain ⟨w, h1, h2⟩ := Mk.tell h
        refine ⟨i :: w, ?_, by simp; omega⟩
        cases w with
        | nil => exact h1.elim
        | cons j w => exact ⟨hi, by simpa using hb, q, hq, h1⟩
theorem tell_mk : ∀ {w : List Nat} {p : S}, TellF k bad nx p w → Mk k bad nx w.length p
  | [], _, h => h.elim
  | [i], p, h => .inr ⟨i, h.1, .inl h.2⟩
  | i :: j :: w, p, ⟨hi, hb, q, hn, h⟩ => .inr ⟨i, hi, .inr ⟨q, hn, tell_mk h⟩⟩
/-- The word that is found by taking the least input at each step. -/
def Greedy (k : Nat) (bad : S → Nat → Bool) (nx : S → Nat → Option S) : Nat → S → List Nat → Prop
  | 0, _, w => w = []
  | n + 1, p, w => ∃ i u, w = i :: u ∧ i < k ∧ (bad p i = true ∨ ∃ q, nx p i = some q ∧ Mk k bad nx n q) ∧ (∀ j, j < i → ¬ (bad p j = true ∨ ∃ q, nx p j = some q ∧ Mk k bad nx n q)) ∧ (0 < n → ∃ q, nx p i = some q ∧ Greedy k bad nx n q u) ∧ (n = 0 → u = [])
theorem greedy_least : ∀ {n : Nat} {p : S} {w : List Nat}, Mk k bad nx (n + 1) p → ¬ Mk k bad nx n p → Greedy k bad nx (n + 1) p w → TellF k bad nx p w ∧ w.length = n + 1 ∧ ∀ v, TellF k bad nx p v → w.length ≤ v.length ∧ (w.length = v.length → LexLE w v)
  | 0, p, w, h, _, ⟨i, u, ew, hi, hb, hl, _, hu⟩ => by
    subst ew
    have hu := hu rfl
    subst hu
    have hb : bad p i = true := by
      rcases hb with hb | ⟨q, _, h⟩
      · exact hb
      · exact h.elim
    refine ⟨⟨hi, hb⟩, rfl, fun v hv => ?_⟩
    cases v with
    | nil => exact hv.elim
    | cons j v =>
      refine ⟨by simp, fun e => ?_⟩
      have : v = [] := by simpa using e.symm
      subst this
      rcases Nat.lt_trichotomy i j with q | q | q
      · exact .inl q
      · exact .inr ⟨q, trivial⟩
      · exact (hl j q (.inl hv.2)).elim
  | n + 1, p, w, h, hn, ⟨i, u, ew, hi, hb, hl, hq, _⟩ => by
    subst ew
    obtain ⟨q, hq1, hq2⟩ := hq (by omega)
    have nb : ∀ j, j < k → bad p j = false := by
      intro j hj
      cases hc : bad p j with
      | false => rfl
      | true => exact (hn ((Mk.mono (n := 1) (.inr ⟨j, hj, .inl hc⟩) (by omega)))).elim
    have hm : Mk k bad nx (n + 1) q := by
      rcases hb with hb | ⟨q', e, h⟩
      · rw [nb i hi] at hb; cases hb
      · rw [hq1] at e; cases e; exact h
    have hm' : ¬ Mk k bad nx n q := fun g => hn (.inr ⟨i, hi, .inr ⟨q, hq1, g⟩⟩)
    obtain ⟨t, tl, tm⟩ := greedy_least hm hm' hq2
    refine ⟨?_, by simp [tl], fun v hv => ?_⟩
    · cases u with
      | nil => exact t.elim
      | cons j u => exact ⟨hi, nb i hi, q, hq1, t⟩
    · have hlen : n + 2 ≤ v.length := by
        rcases Nat.lt_or_ge v.length (n + 2) with g | g
        · exact (hn (Mk.mono (tell_mk hv) (by omega))).elim
        · exact g
      refine ⟨by simp [tl]; omega, fun e => ?_⟩
      match v, hv with
      | [], hv => exact hv.elim
      | [j], hv => simp [tl] at e
      | j :: x :: v, ⟨hj, hjb, r, hr, hv⟩ =>
        have hmj : Mk k bad nx (n + 1) r := Mk.mono (tell_mk hv) (by simp at e ⊢; omega)
        rcases Nat.lt_trichotomy i j with g | rfl | g
        · exact .inl g
        · rw [hq1] at hr
          cases hr
          exact .inr ⟨rfl, (tm _ hv).2 (by simpa using e)⟩
        · exact (hl j g (.inr ⟨r, hr, hmj⟩)).elim
/-- The search and the marking find the same word. -/
theorem search_mark {n : Nat} {u w : List Nat} (hu : TellR k bad nx p0 u) (h1 : ∀ w, TellR k bad nx p0 w → rv k u ≤ rv k w) (hm : Mk k bad nx (n + 1) p0) (hm' : ¬ Mk k bad nx n p0) (hw : Greedy k bad nx (n + 1) p0 w) : u.reverse = w := by
  obtain ⟨a, b, c⟩ := greedy_least hm hm' hw
  exact least_same hu h1 a c
end
end Go.Own
