/- Walks, further. -/
import Derived.Test.YtlejgipmepemjaaPartF
import Derived.Test.YtlejgipmepemjaaPartC
import Derived.Test.YtlejgipmepemjaaPartE
set_option linter.unusedVariables false
set_option linter.unusedSimpArgs false
namespace Go.Own
open Go.Proofs
set_option linter.unusedVariables false
set_option maxRecDepth 100000
set_option maxHeartbeats 8000000
noncomputable def bd_ref12_Reduce : Code := (Try.f23.body).getD .skip
noncomputable def sp_ref12_Reduce : Spec := spF (α := List (List Int)) (ρ := List (List Int)) 23 (fun x => [F10_ x]) (fun r => F9_ r) (fun x => ref12_Reduce x) [] (by
 rintro a0 b0 h
 have e0 := EncI.inj (f := F10_) _ _ (List.cons.inj h).1
 subst e0
 rfl)
abbrev ST_ref12_Reduce_J1 (out : List (List Int)) : List (Nat × T) := [(3, .own (eOs 1 false F4_ out))]
abbrev ST_ref12_Reduce_J3 (l_ : List (List Int)) (i_ : Int) (out2 : List (List Int)) : List (Nat × T) := [(0, .d (eSl 1 false F4_ l_)), (3, .own (eOs 1 false F4_ out2)), (4, .d (I i_))]
abbrev ST_ref12_Reduce_J4 (l_ : List (List Int)) (out1 : List (List Int)) (i_ : Int) (proper : Bool) : List (Nat × T) := [(0, .d (eSl 1 false F4_ l_)), (3, .own (eOs 1 false F4_ out1)), (4, .d (I i_)), (5, .d (B proper))]
abbrev ST_ref12_Reduce_L5 (l_ : List (List Int)) (out1 : List (List Int)) (i_ : Int) (proper1 : Bool) (k_ : Int) : List (Nat × T) := [(0, .d (eSl 1 false F4_ l_)), (3, .own (eOs 1 false F4_ out1)), (4, .d (I i_)), (5, .d (B proper1)), (6, .d (I k_))]
abbrev ST_ref12_Reduce_L2 (l_ : List (List Int)) (out1 : List (List Int)) (i_ : Int) : List (Nat × T) := [(0, .d (eSl 1 false F4_ l_)), (3, .own (eOs 1 false F4_ out1)), (4, .d (I i_))]
theorem w_ref12_Reduce {ctr : Ctr} (hC : CtrOk Try.prog ctr) (hm : Try.prog.follows .mixedOrders = true) (h_ref12_prefix : ctr.Has sp_ref12_prefix) : sp_ref12_Reduce.Ok Try.prog := by
 refine spF_ok ?_
 rintro l_ r0 hf0
 try unfold ref12_Reduce at hf0
 refine callOk_h (tt := TTab) (keep := true) (rs := [(2, none)]) (n := ⟨41, []⟩) (body := bd_ref12_Reduce) TTab_ok Try.func23 rfl (by kernel_rfl) rfl rfl (by show (1 : Nat) ≤ 41; decide) fun E hE => ?_
 refine awpAt X0 TTab_ok hC hm [0,3] 4000 [.cut 2] (sub [1,1] bd_ref12_Reduce) (frs [1,1] [] bd_ref12_Reduce []) [(0, .d (eSl 1 false F4_ l_)), (3, .own (eOs 1 true F4_ []))] [] (by kernel_rfl) fun st0 h0 => ?_
 refine awpJoin' (X := List (List Int)) (x := (sub [1,1,2] bd_ref12_Reduce)) (y := (sub [1,1,1] bd_ref12_Reduce)) (by kernel_rfl) [3] [0,3] _ h0 (fun z => ref12_Reduce_J1 z = some r0) (fun z => ST_ref12_Reduce_J1 z) ?_ fun J1 hJ1 => ?_
 ·rintro out hf0
  unfold ref12_Reduce_J1 at hf0
  obtain rfl := someE hf0
  exact awpEnd X0 TTab_ok hC hm hE 4000 (hs := []) (x := (eOs 1 false F4_ out)) [] (by kernel_rfl) (LeV.refl _)
 ·obtain ⟨t2, ht2, hf0⟩ := bindE hf0
  refine awpAt X0 TTab_ok hC hm [0,3,4] 4000 [] (sub [1,1,2,1,0] bd_ref12_Reduce) (frs [1,1,2,1,0] [J1] bd_ref12_Reduce []) [(0, .d (eSl 1 false F4_ l_)), (3, .own (eOs 1 true F4_ [])), (4, .d (I 0))] [] (by kernel_rfl) fun st0 h0 => ?_
  refine awpLoop' (X := (List (List Int) × Int) × Nat) (c' := (sub [1,1,2,1,0,0] bd_ref12_Reduce)) (by kernel_rfl) [0,3,4] (fun x => loopN (fun s => ref12_Reduce_L2 l_ s.1 s.2) x.2 x.1 = some t2) (fun x => x.2) (fun x => ST_ref12_Reduce_L2 l_ x.1.1 x.1.2) ((([] : List (List Int)), 0), fuel) _ h0 inferInstance ht2 ?_
  rintro ⟨⟨out1, i_⟩, n2⟩ hn2 J2 hJ2
  obtain ⟨m2, lr1, rfl, hf1, hl1⟩ := loopE hn2
  try unfold ref12_Reduce_L2 at hf1
  rcases bifE hf1 with ⟨c0, hf1⟩ | ⟨c0, hf1⟩
  ·refine awpAt X0 TTab_ok hC hm [0,3,4] 4000 [aLn l_.length, bT, .cut 0] (sub [1,1,2,1,0,0,1] bd_ref12_Reduce) (frs [1,1,2,1,0,0,1] [J1, J2] bd_ref12_Reduce []) [(0, .d (eSl 1 false F4_ l_)), (3, .own (eOs 1 false F4_ out1)), (4, .d (I i_))] [ob (lnM F4_ l_), ob c0] (by kernel_rfl) fun st0 h0 => ?_
   refine awpJoin' (X := List (List Int)) (x := (sub [1,1,2,1,0,0,1,2] bd_ref12_Reduce)) (y := (sub [1,1,2,1,0,0,1,1] bd_ref12_Reduce)) (by kernel_rfl) [0,3,4] [0,3,4] _ h0 (fun z => ref12_Reduce_J3 i_ z = some lr1) (fun z => ST_ref12_Reduce_J3 l_ i_ z) ?_ fun J3 hJ3 => ?_
   ·rintro out2 hf1
    unfold ref12_Reduce_J3 at hf1
    obtain rfl := someE hf1
    exact awpBack X0 TTab_ok hC hm [0,3,4] 4000 [] J2 [(0, .d (eSl 1 false F4_ l_)), (3, .own (eOs 1 false F4_ out2)), (4, .d (I (w64 (i_ + 1))))] [] (by kernel_rfl) fun st0 h0 => hJ2 st0 _ ((out2, w64 (i_ + 1)), m2) hl1 (Nat.lt_succ_self m2) h0 inferInstance
   ·refine awpAt X0 TTab_ok hC hm [0,3,4,5] 4000 [.cut 1] (sub [1,1,2,1,0,0,1,2,0,1] bd_ref12_Reduce) (frs [1,1,2,1,0,0,1,2,0,1] [J1, J2, J3] bd_ref12_Reduce []) [(0, .d (eSl 1 false F4_ l_)), (3, .own (eOs 1 false F4_ out1)), (4, .d (I i_)), (5, .d (B false))] [] (by kernel_rfl) fun st0 h0 => ?_
    refine awpJoin' (X := Bool) (x := (sub [1,1,2,1,0,0,1,2,0,1,2] bd_ref12_Reduce)) (y := (sub [1,1,2,1,0,0,1,2,0,1,1] bd_ref12_Reduce)) (by kernel_rfl) [0,3,4,5] [0,3,4,5] _ h0 (fun z => ref12_Reduce_J4 l_ out1 i_ z = some lr1) (fun z => ST_ref12_Reduce_J4 l_ out1 i_ z) ?_ fun J4 hJ4 => ?_
    ·rintro proper hf1
     unfold ref12_Reduce_J4 at hf1
     rcases bifE hf1 with ⟨c1, hf1⟩ | ⟨c1, hf1⟩
     ·obtain ⟨l__e, h0, hf1⟩ := bindE hf1
      have o0 := dM F4_ ([l__e] : List (List Int))
      have o1 := dM F4_ ([l__e] : List (List Int))
      obtain ⟨g0, hf1⟩ := gdE hf1
      have o2 := aL F4_ F4_ g0
      have o3 := aM F4_ out1 ([l__e] : List (List Int))
      exact awpBack X0 TTab_ok hC hm [0,3,4] 4000 [bT, .a (F4_ l__e), bT, .l ((out1 ++ ([l__e] : List (List Int))).map F4_)] J3 [(0, .d (eSl 1 false F4_ l_)), (3, .own (eOs 1 false F4_ (out1 ++ ([l__e] : List (List Int))))), (4, .d (I i_))] [ob c1, ob (i0 h0), ob (iM F4_ h0), ob o0, ob o1, ob o2, ob o3] (by kernel_rfl) fun st0 h0 => hJ3 st0 _ (out1 ++ ([l__e] : List (List Int))) hf1 h0 inferInstance
     ·exact awpBack X0 TTab_ok hC hm [0,3,4] 4000 [bF] J3 [(0, .d (eSl 1 false F4_ l_)), (3, .own (eOs 1 false F4_ out1)), (4, .d (I i_))] [ob c1] (by kernel_rfl) fun st0 h0 => hJ3 st0 _ out1 hf1 h0 inferInstance
    ·obtain ⟨t5, ht5, hf1⟩ := bindE hf1
     refine awpAt X0 TTab_ok hC hm [0,3,4,5,6] 4000 [] (sub [1,1,2,1,0,0,1,2,0,1,2,1,0] bd_ref12_Reduce) (frs [1,1,2,1,0,0,1,2,0,1,2,1,0] [J1, J2, J3, J4] bd_ref12_Reduce []) [(0, .d (eSl 1 false F4_ l_)), (3, .own (eOs 1 false F4_ out1)), (4, .d (I i_)), (5, .d (B false)), (6, .d (I 0))] [] (by kernel_rfl) fun st0 h0 => ?_
     refine awpLoop' (X := (Bool × Int) × Nat) (c' := (sub [1,1,2,1,0,0,1,2,0,1,2,1,0,0] bd_ref12_Reduce)) (by kernel_rfl) [0,3,4,5,6] (fun x => loopN (fun s => ref12_Reduce_L5 l_ i_ s.1 s.2) x.2 x.1 = some t5) (fun x => x.2) (fun x => ST_ref12_Reduce_L5 l_ out1 i_ x.1.1 x.1.2) ((false, 0), fuel) _ h0 inferInstance ht5 ?_
     rintro ⟨⟨proper1, k_⟩, n5⟩ hn5 J5 hJ5
     obtain ⟨m5, lr2, rfl, hf2, hl2⟩ := loopE hn5
     try unfold ref12_Reduce_L5 at hf2
     rcases bifE hf2 with ⟨c2, hf2⟩ | ⟨c2, hf2⟩
     ·rcases bifE hf2 with ⟨c3, hf2⟩ | ⟨c3, hf2⟩
      ·obtain rfl := someE hf2
       exact awpBack X0 TTab_ok hC hm [0,3,4,5,6] 4000 (aLn l_.length :: (rpN 11 bT [])) J5 [(0, .d (eSl 1 false F4_ l_)), (3, .own (eOs 1 false F4_ out1)), (4, .d (I i_)), (5, .d (B true)), (6, .d (I (w64 (k_ + 1))))] (ob (lnM F4_ l_) :: ob c2 :: (rpN 10 (ob c3) [])) (by kernel_rfl) fun st0 h0 => hJ5 st0 _ ((true, w64 (k_ + 1)), m5) hl2 (Nat.lt_succ_self m5) h0 inferInstance
      ·obtain ⟨l__e1, h1, hf2⟩ := bindE hf2
       obtain ⟨l__e2, h2, hf2⟩ := bindE hf2
       obtain ⟨r_, h3, hf2⟩ := bindE hf2
       have o4 := hasF h_ref12_prefix (x := (l__e1, l__e2)) h3 (loC F4_ l__e1 <| loC F4_ l__e2 <| loN)
       obtain rfl := someE hf2
       exact awpBack X0 TTab_ok hC hm [0,3,4,5,6] 4000 (aLn l_.length :: bT :: bF :: bF :: bF :: .a (F4_ l__e1) :: (rpN 4 bF [.a (F4_ l__e2), bF, bF, .g [], .a (eB r_), bF])) J5 [(0, .d (eSl 1 false F4_ l_)), (3, .own (eOs 1 false F4_ out1)), (4, .d (I i_)), (5, .d (B r_)), (6, .d (I (w64 (k_ + 1))))] (ob (lnM F4_ l_) :: ob c2 :: ob c3 :: ob c3 :: ob c3 :: ob (i0 h1) :: ob (iM F4_ h1) :: (rpN 4 (ob c3) [ob (i0 h2), ob (iM F4_ h2), ob c3, ob c3, ob (hasG h_ref12_prefix), ob o4, ob c3])) (by kernel_rfl) fun st0 h0 => hJ5 st0 _ ((r_, w64 (k_ + 1)), m5) hl2 (Nat.lt_succ_self m5) h0 inferInstance
     ·obtain rfl := someE hf2
      obtain rfl := hl2
      exact awpBack X0 TTab_ok hC hm [0,3,4,5] 4000 [aLn l_.length, bF] J4 [(0, .d (eSl 1 false F4_ l_)), (3, .own (eOs 1 false F4_ out1)), (4, .d (I i_)), (5, .d (B proper1))] [ob (lnM F4_ l_), ob c2] (by kernel_rfl) fun st0 h0 => hJ4 st0 _ proper1 hf1 h0 inferInstance
  ·obtain rfl := someE hf1
   obtain rfl := hl1
   exact awpBack X0 TTab_ok hC hm [3] 4000 [aLn l_.length, bF] J1 [(3, .own (eOs 1 false F4_ out1))] [ob (lnM F4_ l_), ob c0] (by kernel_rfl) fun st0 h0 => hJ1 st0 _ out1 hf0 h0 inferInstance
noncomputable def bd_law12_list : Code := (Try.f37.body).getD .skip
noncomputable def sp_law12_list : Spec := spF (α := List (List Int)) (ρ := List (List Int)) 37 (fun x => [F10_ x]) (fun r => F10_ r) (fun x => law12_list x) [] (by
 rintro a0 b0 h
 have e0 := EncI.inj (f := F10_) _ _ (List.cons.inj h).1
 subst e0
 rfl)
theorem w_law12_list {ctr : Ctr} (hC : CtrOk Try.prog ctr) (hm : Try.prog.follows .mixedOrders = true) : sp_law12_list.Ok Try.prog := by
 refine spF_ok ?_
 rintro l_ r0 hf0
 try unfold law12_list at hf0
 refine callOk_h (tt := TTab) (keep := true) (rs := [(2, none)]) (n := ⟨4, []⟩) (body := bd_law12_list) TTab_ok Try.func37 rfl (by kernel_rfl) rfl rfl (by show (1 : Nat) ≤ 4; decide) fun E hE => ?_
 obtain rfl := someE hf0
 exact awpEnd X0 TTab_ok hC hm hE 4000 (hs := []) (x := (eSl 1 false F4_ l_)) [] (by kernel_rfl) (LeV.refl _)
noncomputable def bd_slices_CloneW_int_int : Code := (Try.f71.body).getD .skip
noncomputable def sp_slices_CloneW_int_int : Spec := spF (α := List (List Int)) (ρ := List (List Int)) 71 (fun x => [F10_ x]) (fun r => F9_ r) (fun x => slices_CloneW_int_int x) [] (by
 rintro a0 b0 h
 have e0 := EncI.inj (f := F10_) _ _ (List.cons.inj h).1
 subst e0
 rfl)
theorem w_slices_CloneW_int_int {ctr : Ctr} (hC : CtrOk Try.prog ctr) (hm : Try.prog.follows .mixedOrders = true) : sp_slices_CloneW_int_int.Ok Try.prog := by
 refine spF_ok ?_
 rintro s_ r0 hf0
 try unfold slices_CloneW_int_int at hf0
 refine callOk_h (tt := TTab) (keep := true) (rs := [(2, none)]) (n := ⟨8, []⟩) (body := bd_slices_CloneW_int_int) TTab_ok Try.func71 rfl (by kernel_rfl) rfl rfl (by show (1 : Nat) ≤ 8; decide) fun E hE => ?_
 refine awpPinD rfl 0 (sz := 1) (t := false) (es := s_.map F4_) (by kernel_rfl) fun pv0 hv0 hn => ?_
 rcases hn with ⟨hn0, he0⟩ | hn0
 ·obtain ⟨_, hf0⟩ := gdE hf0
  rw [show s_ = [] from List.map_eq_nil_iff.1 he0] at hf0
  obtain rfl := someE hf0
  exact awpEnd ((xNil TTab_ok 4 22 (by kernel_rfl) hn0).or ((xMv Try.prog 3 0 pv0 hv0).or X0)) TTab_ok hC hm hE 4000 (hs := [bT]) (x := (eOs 1 true F4_ [])) [ob ((rfl : some pv0 = some pv0)), ob ((⟨rfl, rfl⟩ : T.d (.atom pv0) = T.d (.atom pv0) ∧ T.d (.atom (.slice none 0 0)) = T.d (.atom (.slice none 0 0)))), oT] (by kernel_rfl) (show LeV (eOs 1 true F4_ []) (eOs 1 false F4_ ([] : List (List Int))) from inferInstance)
 ·obtain ⟨g0, hf0⟩ := gdE hf0
  have o0 := aL F4_ F4_ g0
  obtain rfl := someE hf0
  exact awpEnd ((xNil TTab_ok 4 22 (by kernel_rfl) hn0).or ((xMv Try.prog 3 0 pv0 hv0).or X0)) TTab_ok hC hm hE 4000 (hs := [bF, .l (s_.map F4_)]) (x := (eOs 1 false F4_ s_)) [ob ((rfl : some pv0 = some pv0)), ob ((⟨rfl, rfl⟩ : T.d (.atom pv0) = T.d (.atom pv0) ∧ T.d (.atom (.slice none 0 0)) = T.d (.atom (.slice none 0 0)))), oF, ob (dM F4_ s_), ob o0, ob (aM0 F4_ s_)] (by kernel_rfl) (LeV.refl _)
noncomputable def bd_tries_sorted_1 : Code := (Try.f80.body).getD .skip
noncomputable def sp_tries_sorted_1 : Spec := spF (α := List Int × List Int) (ρ := Bool) 80 (fun x => [F4_ x.1, F4_ x.2]) (fun r => eB r) (fun x => tries_sorted_1 x.1 x.2) [] (by
 rintro ⟨a0, a1⟩ ⟨b0, b1⟩ h
 have e0 := EncI.inj (f := F4_) _ _ (List.cons.inj h).1
 replace h := (List.cons.inj h).2
 have e1 := EncI.inj (f := F4_) _ _ (List.cons.inj h).1
 subst e0 e1
 rfl)
theorem w_tries_sorted_1 {ctr : Ctr} (hC : CtrOk Try.prog ctr) (hm : Try.prog.follows .mixedOrders = true) (h_words_Compare : ctr.Has sp_words_Compare) : sp_tries_sorted_1.Ok Try.prog := by
 refine spF_ok ?_
 rintro ⟨a_, b_⟩ r0 hf0
 try unfold tries_sorted_1 at hf0
 refine callOk_h (tt := TTab) (keep := true) (rs := [(4, none)]) (n := ⟨9, []⟩) (body := bd_tries_sorted_1) TTab_ok Try.func80 rfl (by kernel_rfl) rfl rfl (by show (2 : Nat) ≤ 9; decide) fun E hE => ?_
 obtain ⟨r_, h0, hf0⟩ := bindE hf0
 have o0 := hasF h_words_Compare (x := (a_, b_)) h0 (loC F4_ a_ <| loC F4_ b_ <| loN)
 obtain rfl := someE hf0
 exact awpEnd X0 TTab_ok hC hm hE 4000 (hs := [.g [], .a ((eI .i64) r_)]) (x := (B (r_ == 0))) [ob (hasG h_words_Compare), ob o0] (by kernel_rfl) (LeV.refl _)
noncomputable def bd_slices_CompactFuncW_int_int : Code := (Try.f79.body).getD .skip
noncomputable def sp_slices_CompactFuncW_int_int : Spec := spF (α := List (List Int) × Unit) (ρ := List (List Int)) 79 (fun x => [F9_ x.1, (eFn0 80) x.2]) (fun r => F9_ r) (fun x => slices_CompactFuncW_int_int x.1 x.2) [true, false] (by
 rintro ⟨a0, a1⟩ ⟨b0, b1⟩ h
 have e0 := EncI.inj (f := F9_) _ _ (List.cons.inj h).1
 replace h := (List.cons.inj h).2
 have e1 := EncI.inj (f := (eFn0 80)) _ _ (List.cons.inj h).1
 subst e0 e1
 rfl)
abbrev ST_slices_CompactFuncW_int_int_J1 (s_ : List (List Int)) : List (Nat × T) := [(0, .own (eOs 1 false F4_ s_))]
abbrev ST_slices_CompactFuncW_int_int_J3 (s_ : List (List Int)) (k_ : Int) : List (Nat × T) := [(0, .own (eOs 1 false F4_ s_)), (1, .d (.fn 80 [])), (5, .d (I k_))]
abbrev ST_slices_CompactFuncW_int_int_J4 (s_1 : List (List Int)) (k_1 : Int) : List (Nat × T) := [(0, .own (eOs 1 false F4_ s_1)), (5, .d (I k_1))]
abbrev ST_slices_CompactFuncW_int_int_J6 (pv0 : Value) (k_ : Int) (k2 : Int) (s_3 : List (List Int)) (k_3 : Int) : List (Nat × T) := [(0, .own (eOs 1 false F4_ s_3)), (1, .d (.fn 80 [])), (5, .d (I k_3)), (6, .d (.atom (cutV 1 pv0 k_))), (7, .d (I k2))]
abbrev ST_slices_CompactFuncW_int_int_L5 (pv0 : Value) (k_ : Int) (s_2 : List (List Int)) (k_2 : Int) (k2 : Int) : List (Nat × T) := [(0, .own (eOs 1 false F4_ s_2)), (1, .d (.fn 80 [])), (5, .d (I k_2)), (6, .d (.atom (cutV 1 pv0 k_))), (7, .d (I k2))]
abbrev ST_slices_CompactFuncW_int_int_L2 (s_ : List (List Int)) (k_ : Int) : List (Nat × T) := [(0, .own (eOs 1 false F4_ s_)), (1, .d (.fn 80 [])), (5, .d (I k_))]
theorem w_slices_CompactFuncW_int_int {ctr : Ctr} (hC : CtrOk Try.prog ctr) (hm : Try.prog.follows .mixedOrders = true) (h_tries_sorted_1 : ctr.Has sp_tries_sorted_1) : sp_slices_CompactFuncW_int_int.Ok Try.prog := by
 refine spF_ok ?_
 rintro ⟨s_, eq⟩ r0 hf0
 try unfold slices_CompactFuncW_int_int at hf0
 refine callOk_h (tt := TTab) (keep := true) (rs := [(4, none)]) (n := ⟨66, []⟩) (body := bd_slices_CompactFuncW_int_int) TTab_ok Try.func79 rfl (by kernel_rfl) rfl rfl (by show (2 : Nat) ≤ 66; decide) fun E hE => ?_
 refine awpPin1 (y := eOs 1 false F4_ s_) rfl 0 (by kernel_rfl) (by kernel_rfl) fun pv0 hv0 => ?_
 rcases bifE hf0 with ⟨c0, hf0⟩ | ⟨c0, hf0⟩
 ·obtain rfl := someE hf0
  exact awpEnd ((xCut TTab_ok 64).or X0) TTab_ok hC hm hE 4000 (hs := [aLn s_.length, bT]) (x := (eOs 1 false F4_ s_)) [ob (lnM F4_ s_), ob c0] (by kernel_rfl) (LeV.refl _)
 ·refine awpAt ((xCut TTab_ok 64).or X0) TTab_ok hC hm [0,1] 4000 [aLn s_.length, bF, .cut 0] (sub [1,1] bd_slices_CompactFuncW_int_int) (frs [1,1] [] bd_slices_CompactFuncW_int_int []) [(0, .own (eOs 1 false F4_ s_)), (1, .d (.fn 80 []))] [ob (lnM F4_ s_), ob c0] (by kernel_rfl) fun st0 h0 => ?_
  refine awpJoin' (X := Unit) (x := (sub [1,1,2] bd_slices_CompactFuncW_int_int)) (y := (sub [1,1,1] bd_slices_CompactFuncW_int_int)) (by kernel_rfl) [0] [0,1] _ h0 (fun z => slices_CompactFuncW_int_int_J1 s_ = some r0) (fun z => ST_slices_CompactFuncW_int_int_J1 s_) ?_ fun J1 hJ1 => ?_
  ·rintro ⟨⟩ hf0
   unfold slices_CompactFuncW_int_int_J1 at hf0
   obtain rfl := someE hf0
   exact awpEnd ((xCut TTab_ok 64).or X0) TTab_ok hC hm hE 4000 (hs := []) (x := (eOs 1 false F4_ s_)) [] (by kernel_rfl) (LeV.refl _)
  ·obtain ⟨t2, ht2, hf0⟩ := bindE hf0
   refine awpAt ((xCut TTab_ok 64).or X0) TTab_ok hC hm [0,1,5] 4000 [] (sub [1,1,2,1,0] bd_slices_CompactFuncW_int_int) (frs [1,1,2,1,0] [J1] bd_slices_CompactFuncW_int_int []) [(0, .own (eOs 1 false F4_ s_)), (1, .d (.fn 80 [])), (5, .d (I 1))] [] (by kernel_rfl) fun st0 h0 => ?_
   refine awpLoop' (X := Int × Nat) (c' := (sub [1,1,2,1,0,0] bd_slices_CompactFuncW_int_int)) (by kernel_rfl) [0,1,5] (fun x => loopN (fun s => slices_CompactFuncW_int_int_L2 s_ s) x.2 x.1 = some t2) (fun x => x.2) (fun x => ST_slices_CompactFuncW_int_int_L2 s_ x.1) (1, fuel) _ h0 inferInstance ht2 ?_
   rintro ⟨k_, n2⟩ hn2 J2 hJ2
   obtain ⟨m2, lr1, rfl, hf1, hl1⟩ := loopE hn2
   try unfold slices_CompactFuncW_int_int_L2 at hf1
   rcases bifE hf1 with ⟨c1, hf1⟩ | ⟨c1, hf1⟩
   ·refine awpAt ((xCut TTab_ok 64).or X0) TTab_ok hC hm [0,1,5] 4000 [aLn s_.length, bT, .cut 0] (sub [1,1,2,1,0,0,1] bd_slices_CompactFuncW_int_int) (frs [1,1,2,1,0,0,1] [J1, J2] bd_slices_CompactFuncW_int_int []) [(0, .own (eOs 1 false F4_ s_)), (1, .d (.fn 80 [])), (5, .d (I k_))] [ob (lnM F4_ s_), ob c1] (by kernel_rfl) fun st0 h0 => ?_
    refine awpJoin' (X := Unit) (x := (sub [1,1,2,1,0,0,1,2] bd_slices_CompactFuncW_int_int)) (y := (sub [1,1,2,1,0,0,1,1] bd_slices_CompactFuncW_int_int)) (by kernel_rfl) [0,1,5] [0,1,5] _ h0 (fun z => slices_CompactFuncW_int_int_J3 k_ = some lr1) (fun z => ST_slices_CompactFuncW_int_int_J3 s_ k_) ?_ fun J3 hJ3 => ?_
    ·rintro ⟨⟩ hf1
     unfold slices_CompactFuncW_int_int_J3 at hf1
     obtain rfl := someE hf1
     exact awpBack ((xCut TTab_ok 64).or X0) TTab_ok hC hm [0,1,5] 4000 [] J2 [(0, .own (eOs 1 false F4_ s_)), (1, .d (.fn 80 [])), (5, .d (I (w64 (k_ + 1))))] [] (by kernel_rfl) fun st0 h0 => hJ2 st0 _ (w64 (k_ + 1), m2) hl1 (Nat.lt_succ_self m2) h0 inferInstance
    ·obtain ⟨s__e, h0, hf1⟩ := bindE hf1
     obtain ⟨s__e1, h1, hf1⟩ := bindE hf1
     obtain ⟨r_, h2, hf1⟩ := bindE hf1
     have o0 := hasF h_tries_sorted_1 (x := (s__e, s__e1)) h2 (loC F4_ s__e <| loC F4_ s__e1 <| loN)
     rcases bifE hf1 with ⟨c2, hf1⟩ | ⟨c2, hf1⟩
     ·obtain ⟨g0, hf1⟩ := gdE hf1
      have o1 := (⟨g0.1, cuB F4_ g0⟩ : (0 : Int) ≤ k_ ∧ k_.toNat ≤ (s_.map F4_).length)
      refine awpAt ((xAs Try.prog 6 (cutV 1 pv0 k_)).or ((xVw TTab_ok 31 0 pv0).or ((xCut TTab_ok 64).or X0))) TTab_ok hC hm [0,1,5,6] 4000 [.a (F4_ s__e), .a (F4_ s__e1), .g [], .a (eB r_), bT, .cut 1] (sub [1,1,2,1,0,0,1,2,0,1,0,1] bd_slices_CompactFuncW_int_int) (frs [1,1,2,1,0,0,1,2,0,1,0,1] [J1, J2, J3] bd_slices_CompactFuncW_int_int []) [(0, .own (eOs 1 false F4_ s_)), (1, .d (.fn 80 [])), (5, .d (I k_)), (6, .d (.atom (cutV 1 pv0 k_)))] [ob (iL F4_ h0), ob (iM F4_ h0), ob (iL F4_ h1), ob (iM F4_ h1), ob (hasG h_tries_sorted_1), ob o0, ob c2, ob ((⟨.inl rfl, rfl⟩ : (T.als 0 [] 0 0 = T.als 0 [] 0 0 ∨ T.als 0 [] 0 0 = T.d (.atom pv0)) ∧ some pv0 = some pv0)), ob o1, ob ((rfl : T.d (.atom (cutV 1 pv0 k_)) = T.d (.atom (cutV 1 pv0 k_))))] (by kernel_rfl) fun st0 h0 => ?_
      refine awpJoin' (X := List (List Int) × Int) (x := (sub [1,1,2,1,0,0,1,2,0,1,0,1,2] bd_slices_CompactFuncW_int_int)) (y := (sub [1,1,2,1,0,0,1,2,0,1,0,1,1] bd_slices_CompactFuncW_int_int)) (by kernel_rfl) [0,5] [0,1,5,6] _ h0 (fun z => slices_CompactFuncW_int_int_J4 z.1 z.2 = some lr1) (fun z => ST_slices_CompactFuncW_int_int_J4 z.1 z.2) ?_ fun J4 hJ4 => ?_
      ·rintro ⟨s_1, k_1⟩ hf1
       unfold slices_CompactFuncW_int_int_J4 at hf1
       obtain ⟨g1, hf1⟩ := gdE hf1
       have o2 := (⟨g1.1, cuB F4_ g1⟩ : (0 : Int) ≤ k_1 ∧ k_1.toNat ≤ (s_1.map F4_).length)
       obtain ⟨g2, hf1⟩ := gdE hf1
       have o3 := (⟨g2.1, cuB F4_ g2, dM F4_ s_1⟩ : (0 : Int) ≤ k_1 ∧ k_1.toNat ≤ (s_1.map F4_).length ∧ A.areD (s_1.map F4_) = true)
       have o4 := vcM F4_ s_1 k_1.toNat ([] : List Int)
       obtain ⟨g3, hf1⟩ := gdE hf1
       have o5 := cuM F4_ (s_1.take k_1.toNat ++ List.replicate (s_1.length - k_1.toNat) []) k_1
       obtain rfl := someE hf1
       obtain rfl := hl1
       obtain rfl := someE hf0
       exact awpEnd ((xVc TTab_ok 61 1 0 pv0 k_1).or ((xVw TTab_ok 61 0 pv0).or ((xCut TTab_ok 64).or X0))) TTab_ok hC hm hE 4000 (hs := [.l ((s_1.take k_1.toNat ++ List.replicate (s_1.length - k_1.toNat) []).map F4_), .l (((s_1.take k_1.toNat ++ List.replicate (s_1.length - k_1.toNat) []).take k_1.toNat).map F4_)]) (x := (eOs 1 false F4_ ((s_1.take k_1.toNat ++ List.replicate (s_1.length - k_1.toNat) []).take k_1.toNat))) [ob ((⟨.inl rfl, rfl⟩ : (T.als 0 [] 0 0 = T.als 0 [] 0 0 ∨ T.als 0 [] 0 0 = T.d (.atom pv0)) ∧ some pv0 = some pv0)), ob o2, ob ((⟨rfl, rfl⟩ : T.d (.atom (cutV 1 pv0 k_1)) = T.d (.atom (cutV 1 pv0 k_1)) ∧ some pv0 = some pv0)), ob o3, ob o4, ob (g3.1), ob (cuB F4_ g3), ob o5] (by kernel_rfl) (LeV.refl _)
      ·obtain ⟨t5, ht5, hf1⟩ := bindE hf1
       refine awpAt ((xCut TTab_ok 64).or X0) TTab_ok hC hm [0,1,5,6,7] 4000 [] (sub [1,1,2,1,0,0,1,2,0,1,0,1,2,1,0] bd_slices_CompactFuncW_int_int) (frs [1,1,2,1,0,0,1,2,0,1,0,1,2,1,0] [J1, J2, J3, J4] bd_slices_CompactFuncW_int_int []) [(0, .own (eOs 1 false F4_ s_)), (1, .d (.fn 80 [])), (5, .d (I k_)), (6, .d (.atom (cutV 1 pv0 k_))), (7, .d (I 1))] [] (by kernel_rfl) fun st0 h0 => ?_
       refine awpLoop' (X := (List (List Int) × Int × Int) × Nat) (c' := (sub [1,1,2,1,0,0,1,2,0,1,0,1,2,1,0,0] bd_slices_CompactFuncW_int_int)) (by kernel_rfl) [0,1,5,6,7] (fun x => loopN (fun s => slices_CompactFuncW_int_int_L5 k_ s.1 s.2.1 s.2.2) x.2 x.1 = some t5) (fun x => x.2) (fun x => ST_slices_CompactFuncW_int_int_L5 pv0 k_ x.1.1 x.1.2.1 x.1.2.2) ((s_, k_, 1), fuel) _ h0 inferInstance ht5 ?_
       rintro ⟨⟨s_2, k_2, k2⟩, n5⟩ hn5 J5 hJ5
       obtain ⟨m5, lr2, rfl, hf2, hl2⟩ := loopE hn5
       try unfold slices_CompactFuncW_int_int_L5 at hf2
       have o6 := vlM F4_ s_2 k_.toNat
       rcases bifE hf2 with ⟨c3, hf2⟩ | ⟨c3, hf2⟩
       ·refine awpAt ((xVl TTab_ok 34 22 1 0 pv0 k_ (by kernel_rfl)).or ((xCut TTab_ok 64).or X0)) TTab_ok hC hm [0,1,5,6,7] 4000 [.a (.atom (.int .i64 ((s_2.length - k_.toNat : Nat) : Int))), bT, .cut 0] (sub [1,1,2,1,0,0,1,2,0,1,0,1,2,1,0,0,1] bd_slices_CompactFuncW_int_int) (frs [1,1,2,1,0,0,1,2,0,1,0,1,2,1,0,0,1] [J1, J2, J3, J4, J5] bd_slices_CompactFuncW_int_int []) [(0, .own (eOs 1 false F4_ s_2)), (1, .d (.fn 80 [])), (5, .d (I k_2)), (6, .d (.atom (cutV 1 pv0 k_))), (7, .d (I k2))] [ob ((⟨rfl, rfl⟩ : T.d (.atom (cutV 1 pv0 k_)) = T.d (.atom (cutV 1 pv0 k_)) ∧ some pv0 = some pv0)), ob o6, ob c3] (by kernel_rfl) fun st0 h0 => ?_
        refine awpJoin' (X := List (List Int) × Int) (x := (sub [1,1,2,1,0,0,1,2,0,1,0,1,2,1,0,0,1,2] bd_slices_CompactFuncW_int_int)) (y := (sub [1,1,2,1,0,0,1,2,0,1,0,1,2,1,0,0,1,1] bd_slices_CompactFuncW_int_int)) (by kernel_rfl) [0,1,5,6,7] [0,1,5,6,7] _ h0 (fun z => slices_CompactFuncW_int_int_J6 k2 z.1 z.2 = some lr2) (fun z => ST_slices_CompactFuncW_int_int_J6 pv0 k_ k2 z.1 z.2) ?_ fun J6 hJ6 => ?_
        ·rintro ⟨s_3, k_3⟩ hf2
         unfold slices_CompactFuncW_int_int_J6 at hf2
         obtain rfl := someE hf2
         exact awpBack ((xCut TTab_ok 64).or X0) TTab_ok hC hm [0,1,5,6,7] 4000 [] J5 [(0, .own (eOs 1 false F4_ s_3)), (1, .d (.fn 80 [])), (5, .d (I k_3)), (6, .d (.atom (cutV 1 pv0 k_))), (7, .d (I (w64 (k2 + 1))))] [] (by kernel_rfl) fun st0 h0 => hJ5 st0 _ ((s_3, k_3, w64 (k2 + 1)), m5) hl2 (Nat.lt_succ_self m5) h0 inferInstance
        ·obtain ⟨g4, hf2⟩ := gdE hf2
         obtain ⟨s__e2, h3, hf2⟩ := bindE hf2
         have o7 := (⟨g4.1, g4.2, (iL F4_ h3).2⟩ : (0 : Int) ≤ k_ ∧ (0 : Int) ≤ k2 ∧ (k_ + k2).toNat < (s_2.map F4_).length)
         obtain ⟨g5, hf2⟩ := gdE hf2
         obtain ⟨s__e3, h4, hf2⟩ := bindE hf2
         have o8 := (⟨g5.1, g5.2, (iL F4_ h4).2⟩ : (0 : Int) ≤ k_ ∧ (0 : Int) ≤ w64 (k2 - 1) ∧ (k_ + (w64 (k2 - 1))).toNat < (s_2.map F4_).length)
         obtain ⟨r_1, h5, hf2⟩ := bindE hf2
         have o9 := hasF h_tries_sorted_1 (x := (s__e2, s__e3)) h5 (loC F4_ s__e2 <| loC F4_ s__e3 <| loN)
         rcases bifE hf2 with ⟨c4, hf2⟩ | ⟨c4, hf2⟩
         ·obtain ⟨g6, hf2⟩ := gdE hf2
          obtain ⟨s__e4, h6, hf2⟩ := bindE hf2
          have o10 := (⟨g6.1, g6.2, (iL F4_ h6).2⟩ : (0 : Int) ≤ k_ ∧ (0 : Int) ≤ k2 ∧ (k_ + k2).toNat < (s_2.map F4_).length)
          obtain ⟨s__e5, h7, hf2⟩ := bindE hf2
          have o11 := sM F4_ s_2 k_2 s__e4
          exact awpBack ((xVi TTab_ok 54 1 0 pv0 k_).or ((xVi TTab_ok 46 1 0 pv0 k_).or ((xVi TTab_ok 41 1 0 pv0 k_).or ((xCut TTab_ok 64).or X0)))) TTab_ok hC hm [0,1,5,6,7] 4000 [.a (F4_ s__e2), .a (F4_ s__e3), .g [], .a (eB r_1), bT, .a (F4_ s__e4), .a (F4_ s__e5), .a (F4_ s__e5), .l ((s_2.set k_2.toNat s__e4).map F4_)] J6 [(0, .own (eOs 1 false F4_ (s_2.set k_2.toNat s__e4))), (1, .d (.fn 80 [])), (5, .d (I (w64 (k_2 + 1)))), (6, .d (.atom (cutV 1 pv0 k_))), (7, .d (I k2))] [ob ((⟨rfl, rfl⟩ : T.d (.atom (cutV 1 pv0 k_)) = T.d (.atom (cutV 1 pv0 k_)) ∧ some pv0 = some pv0)), ob o7, ob (iM F4_ h3), ob ((⟨rfl, rfl⟩ : T.d (.atom (cutV 1 pv0 k_)) = T.d (.atom (cutV 1 pv0 k_)) ∧ some pv0 = some pv0)), ob o8, ob (iM F4_ h4), ob (hasG h_tries_sorted_1), ob o9, ob c4, ob ((⟨rfl, rfl⟩ : T.d (.atom (cutV 1 pv0 k_)) = T.d (.atom (cutV 1 pv0 k_)) ∧ some pv0 = some pv0)), ob o10, ob (iM F4_ h6), ob (iL F4_ h7), ob (iM F4_ h7), ob (iM F4_ h7), ob o11] (by kernel_rfl) fun st0 h0 => hJ6 st0 _ ((s_2.set k_2.toNat s__e4), w64 (k_2 + 1)) hf2 h0 inferInstance
         ·exact awpBack ((xVi TTab_ok 46 1 0 pv0 k_).or ((xVi TTab_ok 41 1 0 pv0 k_).or ((xCut TTab_ok 64).or X0))) TTab_ok hC hm [0,1,5,6,7] 4000 [.a (F4_ s__e2), .a (F4_ s__e3), .g [], .a (eB r_1), bF] J6 [(0, .own (eOs 1 false F4_ s_2)), (1, .d (.fn 80 [])), (5, .d (I k_2)), (6, .d (.atom (cutV 1 pv0 k_))), (7, .d (I k2))] [ob ((⟨rfl, rfl⟩ : T.d (.atom (cutV 1 pv0 k_)) = T.d (.atom (cutV 1 pv0 k_)) ∧ some pv0 = some pv0)), ob o7, ob (iM F4_ h3), ob ((⟨rfl, rfl⟩ : T.d (.atom (cutV 1 pv0 k_)) = T.d (.atom (cutV 1 pv0 k_)) ∧ some pv0 = some pv0)), ob o8, ob (iM F4_ h4), ob (hasG h_tries_sorted_1), ob o9, ob c4] (by kernel_rfl) fun st0 h0 => hJ6 st0 _ (s_2, k_2) hf2 h0 inferInstance
       ·obtain rfl := someE hf2
        obtain rfl := hl2
        exact awpBack ((xVl TTab_ok 34 22 1 0 pv0 k_ (by kernel_rfl)).or ((xCut TTab_ok 64).or X0)) TTab_ok hC hm [0,5] 4000 [.a (.atom (.int .i64 ((s_2.length - k_.toNat : Nat) : Int))), bF] J4 [(0, .own (eOs 1 false F4_ s_2)), (5, .d (I k_2))] [ob ((⟨rfl, rfl⟩ : T.d (.atom (cutV 1 pv0 k_)) = T.d (.atom (cutV 1 pv0 k_)) ∧ some pv0 = some pv0)), ob o6, ob c3] (by kernel_rfl) fun st0 h0 => hJ4 st0 _ (s_2, k_2) hf1 h0 inferInstance
     ·exact awpBack ((xCut TTab_ok 64).or X0) TTab_ok hC hm [0,1,5] 4000 [.a (F4_ s__e), .a (F4_ s__e1), .g [], .a (eB r_), bF] J3 [(0, .own (eOs 1 false F4_ s_)), (1, .d (.fn 80 [])), (5, .d (I k_))] [ob (iL F4_ h0), ob (iM F4_ h0), ob (iL F4_ h1), ob (iM F4_ h1), ob (hasG h_tries_sorted_1), ob o0, ob c2] (by kernel_rfl) fun st0 h0 => hJ3 st0 _ () hf1 h0 inferInstance
   ·obtain rfl := someE hf1
    obtain rfl := hl1
    exact awpBack ((xCut TTab_ok 64).or X0) TTab_ok hC hm [0] 4000 [aLn s_.length, bF] J1 [(0, .own (eOs 1 false F4_ s_))] [ob (lnM F4_ s_), ob c1] (by kernel_rfl) fun st0 h0 => hJ1 st0 _ () hf0 h0 inferInstance
noncomputable def bd_slices_ClipW_int_int_v1 : Code := (Try.f69.body).getD .skip
noncomputable def sp_slices_ClipW_int_int_v1 : Spec := spR (α := List (List Int)) (ρ := List (List Int)) 69 (fun x => [F9_ x]) (fun r => F8_ r) (fun x => slices_ClipW_int_int_v1 x) [true] (by
 rintro a0 b0 h
 have e0 := EncI.inj (f := F9_) _ _ (List.cons.inj h).1
 subst e0
 rfl)
theorem hs_slices_ClipW_int_int_v1 : ∀ x r, (fun x => slices_ClipW_int_int_v1 x) x = some r → (ctr0.add sp_slices_ClipW_int_int_v1).run 69 ((ctr0.add sp_slices_ClipW_int_int_v1).norm 69 ((fun x => [F9_ x]) x)) = some ((fun r => F8_ r) r) := fun x r h => hasR h rfl
theorem hg_slices_ClipW_int_int_v1 : (ctr0.add sp_slices_ClipW_int_int_v1).lend 69 = none ∧ (ctr0.add sp_slices_ClipW_int_int_v1).gives 69 = [true] := hasRG
theorem w_slices_ClipW_int_int_v1 {ctr : Ctr} (hC : CtrOk Try.prog ctr) (hm : Try.prog.follows .mixedOrders = true) : sp_slices_ClipW_int_int_v1.Ok Try.prog := by
 refine spR_ok ?_
 rintro s_ r0 hf0
 try unfold slices_ClipW_int_int_v1 at hf0
 refine callOk_h (tt := TTab) (keep := true) (rs := [(2, none)]) (n := ⟨9, []⟩) (body := bd_slices_ClipW_int_int_v1) TTab_ok Try.func69 rfl (by kernel_rfl) rfl rfl (by show (1 : Nat) ≤ 9; decide) fun E hE => ?_
 have o0 := (Int.natCast_nonneg _ : (0 : Int) ≤ ((s_.length : Nat) : Int))
 have o1 := (Int.natCast_nonneg _ : (0 : Int) ≤ ((s_.length : Nat) : Int))
 obtain rfl := someE hf0
 exact awpEnd ((xCl TTab_ok 8).or X0) TTab_ok hC hm hE 4000 (hs := [aLn s_.length, aLn s_.length, .a (eOs 1 true F4_ s_)]) (x := (eOs 1 true F4_ s_)) [ob (lnM F4_ s_), ob (lnM F4_ s_), ob o0, ob o1, ob (clB F4_ s_), ob (clE 1 F4_ s_)] (by kernel_rfl) (LeV.refl _)
noncomputable def bd_tries_sorted : Code := (Try.f51.body).getD .skip
noncomputable def sp_tries_sorted : Spec := spF (α := List (List Int)) (ρ := List (List Int) × Int) 51 (fun x => [F10_ x]) (fun r => .tup [F5_ r.1, (eI .i64) r.2]) (fun x => tries_sorted x) [] (by
 rintro a0 b0 h
 have e0 := EncI.inj (f := F10_) _ _ (List.cons.inj h).1
 subst e0
 rfl)
abbrev ST_tries_sorted_J1 (out : List (List Int × Bool)) : List (Nat × T) := [(4, .own (eOs 1 true (eFl 1 (eI .i64)) out))]
abbrev ST_tries_sorted_L2 (pv4 : Value) (r_2 : List (List Int)) (out2 : List (List Int × Bool)) (x24 : Int) : List (Nat × T) := [(4, .own (eOs 1 true (eFl 1 (eI .i64)) out2)), (22, .d (.atom (cutV 1 pv4 (0 : Int)))), (23, .d (I ((r_2.length - (0 : Int).toNat : Nat) : Int))), (24, .d (I x24))]
theorem w_tries_sorted {ctr : Ctr} (hC : CtrOk Try.prog ctr) (hm : Try.prog.follows .mixedOrders = true) (h_slices_CloneW_int_int : ctr.Has sp_slices_CloneW_int_int) (h_words_Compare : ctr.Has sp_words_Compare) (h_slices_CompactFuncW_int_int : ctr.Has sp_slices_CompactFuncW_int_int) (h_tries_steps : ctr.Has sp_tries_steps) (h_slices_Clone_int_int : ctr.Has sp_slices_Clone_int_int) (h_slices_Clip_int_int : ctr.Has sp_slices_Clip_int_int) : sp_tries_sorted.Ok Try.prog := by
 refine spF_ok ?_
 rintro l_ r0 hf0
 try unfold tries_sorted at hf0
 refine callOk_h (tt := TTab) (keep := false) (rs := [(2, none), (3, none)]) (n := ⟨37, []⟩) (body := bd_tries_sorted) TTab_ok Try.func51 rfl (by kernel_rfl) rfl rfl (by show (1 : Nat) ≤ 37; decide) fun E hE => ?_
 obtain ⟨r_, h0, hf0⟩ := bindE hf0
 have o0 := hasF h_slices_CloneW_int_int (x := l_) h0 (loC F10_ l_ <| loN)
 refine awpAt X0 TTab_ok hC hm [4] 4000 [.g [], .a (F9_ r_), .cut 0] (sub [1,1] bd_tries_sorted) (frs [1,1] [] bd_tries_sorted []) [(4, .own (eOs 1 false F4_ r_))] [ob (hasG h_slices_CloneW_int_int), ob o0] (by kernel_rfl) fun st0 h0 => awpOf h0 ?_
 obtain ⟨sorted, h1, hf0⟩ := bindE hf0
 refine awpPinSeq (by kernel_rfl) (x := (sub [1,1,0] bd_tries_sorted)) (y := (sub [1,1,1] bd_tries_sorted)) 4 (fun st1 => Own.canon [4] st1 = ofL [(4, .own (eOs 1 false F4_ sorted))]) (fun pv4 => awpFin ((xLend (P := Try.prog) TTab [4] (sort_lent so_77 (f := F4_) (t := false) (v := pv4) (fun _ => rfl) (fun _ => rfl) (fun x y c h => hasCall hC h_words_Compare (x := (x, y)) h) h1) 10).or X0) TTab_ok hC hm [4] 4000 [] .normal [(4, .own (eOs 1 false F4_ sorted))] [ob (tabC_at (f := .fn 77 []) (xs := [.atom pv4, .fn 78 []]) (ls := [(pv4, eOs 1 false F4_ r_)]) (r := .tup []) (ys := [eOs 1 false F4_ sorted]) [.atom pv4, .fn 78 []] (show LeTs [.atom pv4, .fn 78 []] [.atom pv4, .fn 78 []] from inferInstance))] (by kernel_rfl) fun st0 h0 => ⟨rfl, h0⟩) fun st1 h1 => awpOf h1 ?_
 obtain ⟨r_1, h2, hf0⟩ := bindE hf0
 have o1 := hasF h_slices_CompactFuncW_int_int (x := (sorted, ())) h2 (loC F9_ sorted <| loC (eFn0 80) () <| loN)
 obtain ⟨r_2, h3, hf0⟩ := bindE hf0
 have o2 := hs_slices_ClipW_int_int_v1 r_1 _ h3
 rcases bifE hf0 with ⟨c0, hf0⟩ | ⟨c0, hf0⟩
 ·have o3 := shM F4_ F4_ []
  obtain rfl := someE hf0
  exact awpEnd ((xSpec TTab_ok (w_slices_ClipW_int_int_v1 hC hm) 13).or X0) TTab_ok hC hm hE 4000 (hs := (.g [true, false] :: .a (F9_ r_1) :: .g [true] :: .a (F8_ r_2) :: aLn r_2.length :: (rpN 5 bT [.l ([].map F4_)]))) (x := (.tup [eSl 1 true F1_ [], I 3])) (ob (hasG h_slices_CompactFuncW_int_int) :: ob o1 :: ob hg_slices_ClipW_int_int_v1 :: ob o2 :: ob (lnM F4_ r_2) :: (rpN 4 (ob c0) [oT, ob o3])) (by kernel_rfl) (show LeV (.tup [eSl 1 true F1_ [], I 3]) (.tup [eSl 1 true F1_ ([] : List (List Int)), I 3]) from inferInstance)
 ·have o4 := shM F4_ F4_ r_2
  obtain ⟨r_3, h4, hf0⟩ := bindE hf0
  have o5 := hasF h_tries_steps (x := r_2) h4 (loC (eSl 1 true F4_) r_2 <| loN)
  rcases bifE hf0 with ⟨c1, hf0⟩ | ⟨c1, hf0⟩
  ·have o6 := shM F4_ F4_ []
   obtain rfl := someE hf0
   exact awpEnd ((xSpec TTab_ok (w_slices_ClipW_int_int_v1 hC hm) 13).or X0) TTab_ok hC hm hE 4000 (hs := [.g [true, false], .a (F9_ r_1), .g [true], .a (F8_ r_2), aLn r_2.length, bF, bF, .g [], .l (r_2.map F4_), .a ((eI .i64) r_3), bF, bF, bT, .l ([].map F4_)]) (x := (.tup [eSl 1 true F1_ [], I 3])) [ob (hasG h_slices_CompactFuncW_int_int), ob o1, ob hg_slices_ClipW_int_int_v1, ob o2, ob (lnM F4_ r_2), ob c0, ob c0, ob (hasG h_tries_steps), ob o4, ob o5, ob c0, ob c0, ob c1, ob o6] (by kernel_rfl) (show LeV (.tup [eSl 1 true F1_ [], I 3]) (.tup [eSl 1 true F1_ ([] : List (List Int)), I 3]) from inferInstance)
  ·refine awpAt ((xSpec TTab_ok (w_slices_ClipW_int_int_v1 hC hm) 13).or X0) TTab_ok hC hm [4] 4000 [.g [true, false], .a (F9_ r_1), .g [true], .a (F8_ r_2), aLn r_2.length, bF, bF, .g [], .l (r_2.map F4_), .a ((eI .i64) r_3), bF, bF, bF, .cut 0] (sub [1,1,1,1,1] bd_tries_sorted) (frs [1,1,1,1,1] [] bd_tries_sorted []) [(4, .own (eOs 1 true F4_ r_2))] [ob (hasG h_slices_CompactFuncW_int_int), ob o1, ob hg_slices_ClipW_int_int_v1, ob o2, ob (lnM F4_ r_2), ob c0, ob c0, ob (hasG h_tries_steps), ob o4, ob o5, ob c0, ob c0, ob c1] (by kernel_rfl) fun st0 h0 => awpOf h0 ?_
   refine awpPin1 (y := eOs 1 true F4_ r_2) (by kernel_rfl) 4 (by kernel_rfl) (by kernel_rfl) fun pv4 hv4 => ?_
   refine awpAt X0 TTab_ok hC hm [4] 4000 [.cut 0] (sub [1,1,1,1,1] bd_tries_sorted) (frs [1,1,1,1,1] [] bd_tries_sorted []) [(4, .own (eOs 1 true F4_ r_2))] [] (by kernel_rfl) fun st0 h0 => ?_
   refine awpJoin' (X := List (List Int × Bool)) (x := (sub [1,1,1,1,1,2] bd_tries_sorted)) (y := (sub [1,1,1,1,1,1] bd_tries_sorted)) (by kernel_rfl) [4] [4] _ h0 (fun z => tries_sorted_J1 z = some r0) (fun z => ST_tries_sorted_J1 z) ?_ fun J1 hJ1 => ?_
   ·rintro out hf0
    unfold tries_sorted_J1 at hf0
    have o7 := shM (eFl 1 (eI .i64)) (eFl 1 (eI .i64)) out
    obtain ⟨hfl0, hf0⟩ := gdE hf0
    obtain rfl := someE hf0
    exact awpEnd X0 TTab_ok hC hm hE 4000 (hs := [.l (out.map (eFl 1 (eI .i64)))]) (x := (.tup [eSl 1 true (eFl 1 (eI .i64)) out, I 0])) [ob o7] (by kernel_rfl) (haveI := flA (s := 1) (t := 1) (b := true) (f := (eI .i64)) hfl0; show LeV (.tup [eSl 1 true (eFl 1 (eI .i64)) out, I 0]) (.tup [eSl 1 true F1_ (out.map (·.1)), I 0]) from inferInstance)
   ·have o8 := vlM F4_ r_2 (0 : Int).toNat
    obtain ⟨t2, ht2, hf0⟩ := bindE hf0
    refine awpAt ((xVl TTab_ok 23 22 1 4 pv4 (0 : Int) (by kernel_rfl)).or ((xMw Try.prog 22 4 1 pv4).or X0)) TTab_ok hC hm [4,22,23,24] 4000 [.a (.atom (.int .i64 ((r_2.length - (0 : Int).toNat : Nat) : Int)))] (sub [1,1,1,1,1,2,1,0] bd_tries_sorted) (frs [1,1,1,1,1,2,1,0] [J1] bd_tries_sorted []) [(4, .own (eOs 1 true F4_ r_2)), (22, .d (.atom (cutV 1 pv4 (0 : Int)))), (23, .d (I ((r_2.length - (0 : Int).toNat : Nat) : Int))), (24, .d (I 0))] [ob ((rfl : some pv4 = some pv4)), ob ((⟨rfl, rfl⟩ : T.d (.atom (cutV 1 pv4 (0 : Int))) = T.d (.atom (cutV 1 pv4 (0 : Int))) ∧ some pv4 = some pv4)), ob o8] (by kernel_rfl) fun st0 h0 => ?_
    refine awpLoop' (X := ((List (List Int × Bool)) × Int) × Nat) (c' := (sub [1,1,1,1,1,2,1,0,0] bd_tries_sorted)) (by kernel_rfl) [4,22,23,24] (fun x => loopN (fun s => tries_sorted_L2 r_2 s.1 s.2) x.2 x.1 = some t2) (fun x => x.2) (fun x => ST_tries_sorted_L2 pv4 r_2 x.1.1 x.1.2) (((r_2.map fun q => (q, false)), 0), fuel) _ h0 inferInstance ht2 ?_
    rintro ⟨⟨out2, x24⟩, n2⟩ hn2 J2 hJ2
    obtain ⟨m2, lr1, rfl, hf1, hl1⟩ := loopE hn2
    try unfold tries_sorted_L2 at hf1
    rcases bifE hf1 with ⟨c2, hf1⟩ | ⟨c2, hf1⟩
    ·obtain ⟨g0, hf1⟩ := gdE hf1
     obtain ⟨out_e, h5, hf1⟩ := bindE hf1
     have o9 := (⟨g0.1, g0.2, (iL (eFl 1 (eI .i64)) h5).2⟩ : (0 : Int) ≤ 0 ∧ (0 : Int) ≤ x24 ∧ (0 + x24).toNat < (out2.map (eFl 1 (eI .i64))).length)
     obtain ⟨r_4, h6, hf1⟩ := bindE hf1
     have o10 := hasF h_slices_Clone_int_int (x := out_e.1) h6 (loC (eSl 1 out_e.2 (eI .i64)) out_e.1 <| loN)
     obtain ⟨r_5, h7, hf1⟩ := bindE hf1
     have o11 := hasF h_slices_Clip_int_int (x := r_4) h7 (loC F4_ r_4 <| loN)
     obtain ⟨out_e1, h8, hf1⟩ := bindE hf1
     have o12 := sM (eFl 1 (eI .i64)) out2 x24 (r_5, true)
     obtain rfl := someE hf1
     exact awpBack ((xVi TTab_ok 27 1 4 pv4 (0 : Int)).or X0) TTab_ok hC hm [4,22,23,24] 4000 [bT, .a ((eFl 1 (eI .i64)) out_e), .g [], .a (F3_ r_4), .g [], .l (r_4.map (eI .i64)), .a (F1_ r_5), .l (r_4.map (eI .i64)), .a ((eFl 1 (eI .i64)) out_e1), .a ((eFl 1 (eI .i64)) out_e1), .l ((out2.set x24.toNat (r_5, true)).map (eFl 1 (eI .i64)))] J2 [(4, .own (eOs 1 true (eFl 1 (eI .i64)) (out2.set x24.toNat (r_5, true)))), (22, .d (.atom (cutV 1 pv4 (0 : Int)))), (23, .d (I ((r_2.length - (0 : Int).toNat : Nat) : Int))), (24, .d (I (w64 (x24 + 1))))] [ob c2, ob ((⟨rfl, rfl⟩ : T.d (.atom (cutV 1 pv4 (0 : Int))) = T.d (.atom (cutV 1 pv4 (0 : Int))) ∧ some pv4 = some pv4)), ob o9, ob (iM (eFl 1 (eI .i64)) h5), ob (hasG h_slices_Clone_int_int), ob o10, ob (hasG h_slices_Clip_int_int), ob (shM (eI .i64) (eI .i64) r_4), ob o11, ob (shM (eI .i64) (eI .i64) r_4), ob (iL (eFl 1 (eI .i64)) h8), ob (iM (eFl 1 (eI .i64)) h8), ob (iM (eFl 1 (eI .i64)) h8), ob o12] (by kernel_rfl) fun st0 h0 => hJ2 st0 _ (((out2.set x24.toNat (r_5, true)), w64 (x24 + 1)), m2) hl1 (Nat.lt_succ_self m2) h0 inferInstance
    ·obtain rfl := someE hf1
     obtain rfl := hl1
     exact awpBack X0 TTab_ok hC hm [4] 4000 [bF] J1 [(4, .own (eOs 1 true (eFl 1 (eI .i64)) out2))] [ob c2] (by kernel_rfl) fun st0 h0 => hJ1 st0 _ out2 hf0 h0 inferInstance
noncomputable def bd_tries_Sort : Code := (Try.f14.body).getD .skip
noncomputable def sp_tries_Sort : Spec := spF (α := List (List Int) × Int) (ρ := List (List Int) × Int) 14 (fun x => [F10_ x.1, (eI .i64) x.2]) (fun r => .tup [F5_ r.1, (eI .i64) r.2]) (fun x => tries_Sort x.1 x.2) [] (by
 rintro ⟨a0, a1⟩ ⟨b0, b1⟩ h
 have e0 := EncI.inj (f := F10_) _ _ (List.cons.inj h).1
 replace h := (List.cons.inj h).2
 have e1 := EncI.inj (f := (eI .i64)) _ _ (List.cons.inj h).1
 subst e0 e1
 rfl)
theorem w_tries_Sort {ctr : Ctr} (hC : CtrOk Try.prog ctr) (hm : Try.prog.follows .mixedOrders = true) (h_tries_loose : ctr.Has sp_tries_loose) (h_tries_sorted : ctr.Has sp_tries_sorted) : sp_tries_Sort.Ok Try.prog := by
 refine spF_ok ?_
 rintro ⟨l_, inputs⟩ r0 hf0
 try unfold tries_Sort at hf0
 refine callOk_h (tt := TTab) (keep := false) (rs := [(4, none), (5, none)]) (n := ⟨17, []⟩) (body := bd_tries_Sort) TTab_ok Try.func14 rfl (by kernel_rfl) rfl rfl (by show (2 : Nat) ≤ 17; decide) fun E hE => ?_
 obtain ⟨r_, h0, hf0⟩ := bindE hf0
 have o0 := hasF h_tries_loose (x := (l_, inputs)) h0 (loC F10_ l_ <| loC (eI .i64) inputs <| loN)
 rcases bifE hf0 with ⟨c0, hf0⟩ | ⟨c0, hf0⟩
 ·have o1 := shM F4_ F4_ []
  obtain rfl := someE hf0
  exact awpEnd X0 TTab_ok hC hm hE 4000 (hs := [.g [], .a ((eI .i64) r_), bT, .l ([].map F4_)]) (x := (.tup [eSl 1 true F1_ [], I r_])) [ob (hasG h_tries_loose), ob o0, ob c0, ob o1] (by kernel_rfl) (show LeV (.tup [eSl 1 true F1_ [], I r_]) (.tup [eSl 1 true F1_ ([] : List (List Int)), I r_]) from inferInstance)
 ·obtain ⟨r_1, h1, hf0⟩ := bindE hf0
  have o2 := hasF h_tries_sorted (x := l_) h1 (loC F10_ l_ <| loN)
  obtain rfl := someE hf0
  exact awpEnd X0 TTab_ok hC hm hE 4000 (hs := [.g [], .a ((eI .i64) r_), bF, .g [], .a (.tup [eSl 1 true F1_ r_1.1, I r_1.2])]) (x := (.tup [eSl 1 true F1_ r_1.1, I r_1.2])) [ob (hasG h_tries_loose), ob o0, ob c0, ob (hasG h_tries_sorted), ob o2] (by kernel_rfl) (LeV.refl _)
noncomputable def bd_tries_collect : Code := (Try.f56.body).getD .skip
noncomputable def sp_tries_collect : Spec := spF (α := List S_tries_Node × Unit) (ρ := List (List Int)) 56 (fun x => [F19_ x.1, (eFn0 58) x.2]) (fun r => F5_ r) (fun x => tries_collect x.1 x.2) [] (by
 rintro ⟨a0, a1⟩ ⟨b0, b1⟩ h
 have e0 := EncI.inj (f := F19_) _ _ (List.cons.inj h).1
 replace h := (List.cons.inj h).2
 have e1 := EncI.inj (f := (eFn0 58)) _ _ (List.cons.inj h).1
 subst e0 e1
 rfl)
abbrev ST_tries_collect_J1 (out : List (List Int)) : List (Nat × T) := [(4, .own (.box (eOs 1 false F1_ out)))]
abbrev ST_tries_collect_I2 (nodes : List S_tries_Node) (r_1 : List S_tries_Node) (out1 : List (List Int)) : List (Nat × T) := [(2, .own (.box (eSl 2 false F13_ nodes))), (3, .own (.box (.fn 58 []))), (4, .own (.box (eOs 1 false F1_ out1))), (7, .d (.fn 85 [.sptr (eSl 2 false F13_ r_1)]))]
theorem w_tries_collect {ctr : Ctr} (hC : CtrOk Try.prog ctr) (hm : Try.prog.follows .mixedOrders = true) (h_tries_walk : ctr.Has sp_tries_walk) (h_slices_Clip_int_int : ctr.Has sp_slices_Clip_int_int) (h_tries_leaf : ctr.Has sp_tries_leaf) (h_slices_Clone_int_int : ctr.Has sp_slices_Clone_int_int) : sp_tries_collect.Ok Try.prog := by
 refine spF_ok ?_
 rintro ⟨nodes, is⟩ r0 hf0
 try unfold tries_collect at hf0
 refine callOk_h (tt := TTab) (keep := false) (rs := [(4, some 22)]) (n := ⟨25, []⟩) (body := bd_tries_collect) TTab_ok Try.func56 rfl (by kernel_rfl) rfl rfl (by show (2 : Nat) ≤ 25; decide) fun E hE => ?_
 refine awpAt X0 TTab_ok hC hm [2,3,4] 4000 [.cut 1] (sub [1] bd_tries_collect) (frs [1] [] bd_tries_collect []) [(2, .own (.box (eSl 2 false F13_ nodes))), (3, .own (.box (.fn 58 []))), (4, .own (.box (eOs 1 true F4_ [])))] [] (by kernel_rfl) fun st0 h0 => ?_
 refine awpJoin' (X := List (List Int)) (x := (sub [1,2] bd_tries_collect)) (y := (sub [1,1] bd_tries_collect)) (by kernel_rfl) [4] [2,3,4] _ h0 (fun z => tries_collect_J1 z = some r0) (fun z => ST_tries_collect_J1 z) ?_ fun J1 hJ1 => ?_
 ·rintro out hf0
  unfold tries_collect_J1 at hf0
  have o0 := shM F1_ F1_ out
  have o1 := shM F1_ F1_ out
  obtain ⟨r_, h0, hf0⟩ := bindE hf0
  have o2 := hs_slices_ClipW_int_int_v4 out _ h0
  have o3 := shM F1_ F1_ out
  obtain rfl := someE hf0
  exact awpEnd ((xSpec TTab_ok (w_slices_ClipW_int_int_v4 hC hm) 24).or X0) TTab_ok hC hm hE 4000 (hs := [.g [], .l (out.map F1_), .a (F5_ r_), .l (out.map F1_)]) (x := (eSl 1 true F1_ r_)) [ob hg_slices_ClipW_int_int_v4, ob o1, ob o2, ob o3] (by kernel_rfl) (LeV.refl _)
 ·obtain ⟨r_1, h1, hf0⟩ := bindE hf0
  have o4 := hasF h_tries_walk (x := nodes) h1 (loC F19_ nodes <| loN)
  obtain ⟨t2, ht2, hf0⟩ := bindE hf0
  refine awpAt X0 TTab_ok hC hm [2,3,4,7] 4000 [.g [], .a ((eFn1 85 F22_) r_1)] (sub [1,2,1,0] bd_tries_collect) (frs [1,2,1,0] [J1] bd_tries_collect []) [(2, .own (.box (eSl 2 false F13_ nodes))), (3, .own (.box (.fn 58 []))), (4, .own (.box (eOs 1 true F1_ []))), (7, .d (.fn 85 [.sptr (eSl 2 false F13_ r_1)]))] [ob (hasG h_tries_walk), ob o4] (by kernel_rfl) fun st0 h0 => ?_
  refine awpIter (g := .tmp 7) (ps := [8]) (assign := (sub [1,2,1,0,0] bd_tries_collect)) (body := (sub [1,2,1,0,1] bd_tries_collect)) (K := 85) (caps := [.sptr (eSl 2 false F13_ r_1)]) (by kernel_rfl) [2,3,4,7] (fun s => ST_tries_collect_I2 nodes r_1 s) (fun z => nomatch z) (fun z => nomatch z) ((fun (x : S_tries_place) (_ : Bool) (_ : Value) => [F16_ x])) (F := @tries_walk_1 r_1) (fun s x => tries_collect_I2 nodes s x) ([] : List (List Int)) t2 _ h0 inferInstance (by kernel_rfl) (by decide) (fun _ => rfl) (by rintro ⟨⟩) (by kernel_rfl) (fun _ _ _ => rfl) (w_tries_walk_1 hC hm h_slices_Clip_int_int r_1) ht2 ?_ ?_
  ·rintro tv2 out1 x8 vr lr1 hf1
   replace hf1 : tries_collect_I2 nodes out1 x8 = some lr1 := hf1
   unfold tries_collect_I2 at hf1
   refine awpFin X0 TTab_ok hC hm [2,3,4,5,7] 4000 [] .normal [(2, .own (.box (eSl 2 false F13_ nodes))), (3, .own (.box (.fn 58 []))), (4, .own (.box (eOs 1 false F1_ out1))), (5, .own (.box (F16_ x8))), (7, .d (.fn 85 [.sptr (eSl 2 false F13_ r_1)]))] [] (by kernel_rfl) fun st0 h0 => ⟨rfl, awpOf h0 ?_⟩
   obtain ⟨node_e, h2, hf1⟩ := bindE hf1
   have o5 := iM F13_ h2
   obtain ⟨r_2, h3, hf1⟩ := bindE hf1
   have o6 := hasF h_tries_leaf (x := node_e) h3 (loC F13_ node_e <| loN)
   rcases bifE hf1 with ⟨c0, hf1⟩ | ⟨c0, hf1⟩
   ·obtain ⟨r_3, h4, hf1⟩ := bindE hf1
    have o7 := hasF h_slices_Clone_int_int (x := x8.w_) h4 (loC F4_ x8.w_ <| loN)
    obtain ⟨r_4, h5, hf1⟩ := bindE hf1
    have o8 := hasF h_slices_Clip_int_int (x := r_3) h5 (loC F4_ r_3 <| loN)
    have o9 := dM F1_ ([r_4] : List (List Int))
    have o10 := dM F1_ ([r_4] : List (List Int))
    obtain ⟨g0, hf1⟩ := gdE hf1
    have o11 := aL F1_ F1_ g0
    have o12 := aM F1_ out1 ([r_4] : List (List Int))
    obtain rfl := someE hf1
    exact awpFin X0 TTab_ok hC hm [2,3,4,7] 4000 [.a (F13_ node_e), .g [], .a (eB r_2), bT, .g [], .a (F3_ r_3), .g [], .l (r_3.map (eI .i64)), .a (F1_ r_4), .l (r_3.map (eI .i64)), bT, .l ((out1 ++ ([r_4] : List (List Int))).map F1_)] .normal [(2, .own (.box (eSl 2 false F13_ nodes))), (3, .own (.box (.fn 58 []))), (4, .own (.box (eOs 1 false F1_ (out1 ++ ([r_4] : List (List Int)))))), (7, .d (.fn 85 [.sptr (eSl 2 false F13_ r_1)]))] [ob (i0 h2), ob o5, ob (hasG h_tries_leaf), ob o6, ob c0, ob (hasG h_slices_Clone_int_int), ob o7, ob (hasG h_slices_Clip_int_int), ob (shM (eI .i64) (eI .i64) r_3), ob o8, ob (shM (eI .i64) (eI .i64) r_3), ob o9, ob o10, ob o11, ob o12] (by kernel_rfl) fun st0 h0 => ⟨rfl, _, h0, (inferInstance : LeL [(2, .own (.box (eSl 2 false F13_ nodes))), (3, .own (.box (.fn 58 []))), (4, .own (.box (eOs 1 false F1_ (out1 ++ ([r_4] : List (List Int)))))), (7, .d (.fn 85 [.sptr (eSl 2 false F13_ r_1)]))] (ST_tries_collect_I2 nodes r_1 (out1 ++ ([r_4] : List (List Int)))))⟩
   ·obtain rfl := someE hf1
    exact awpFin X0 TTab_ok hC hm [2,3,4,7] 4000 [.a (F13_ node_e), .g [], .a (eB r_2), bF] .normal [(2, .own (.box (eSl 2 false F13_ nodes))), (3, .own (.box (.fn 58 []))), (4, .own (.box (eOs 1 false F1_ out1))), (7, .d (.fn 85 [.sptr (eSl 2 false F13_ r_1)]))] [ob (i0 h2), ob o5, ob (hasG h_tries_leaf), ob o6, ob c0] (by kernel_rfl) fun st0 h0 => ⟨rfl, _, h0, (inferInstance : LeL [(2, .own (.box (eSl 2 false F13_ nodes))), (3, .own (.box (.fn 58 []))), (4, .own (.box (eOs 1 false F1_ out1))), (7, .d (.fn 85 [.sptr (eSl 2 false F13_ r_1)]))] (ST_tries_collect_I2 nodes r_1 out1))⟩
  ·rcases t2 with out1 | z
   ·dsimp only at hf0
    exact awpGoBack (by kernel_rfl) (hJ1 _ [(4, .own (.box (eOs 1 false F1_ out1)))] out1 hf0 (show Own.canon [4] _ = ofL _ by kernel_rfl) inferInstance)
   ·cases z
noncomputable def bd_tries_Reduce : Code := (Try.f21.body).getD .skip
noncomputable def sp_tries_Reduce : Spec := spF (α := List (List Int) × Int) (ρ := List (List Int) × Int) 21 (fun x => [F10_ x.1, (eI .i64) x.2]) (fun r => .tup [F5_ r.1, (eI .i64) r.2]) (fun x => tries_Reduce x.1 x.2) [] (by
 rintro ⟨a0, a1⟩ ⟨b0, b1⟩ h
 have e0 := EncI.inj (f := F10_) _ _ (List.cons.inj h).1
 replace h := (List.cons.inj h).2
 have e1 := EncI.inj (f := (eI .i64)) _ _ (List.cons.inj h).1
 subst e0 e1
 rfl)
theorem w_tries_Reduce {ctr : Ctr} (hC : CtrOk Try.prog ctr) (hm : Try.prog.follows .mixedOrders = true) (h_tries_Check : ctr.Has sp_tries_Check) (h_tries_of : ctr.Has sp_tries_of) (h_tries_collect : ctr.Has sp_tries_collect) : sp_tries_Reduce.Ok Try.prog := by
 refine spF_ok ?_
 rintro ⟨l_, inputs⟩ r0 hf0
 try unfold tries_Reduce at hf0
 refine callOk_h (tt := TTab) (keep := false) (rs := [(4, none), (5, none)]) (n := ⟨20, []⟩) (body := bd_tries_Reduce) TTab_ok Try.func21 rfl (by kernel_rfl) rfl rfl (by show (2 : Nat) ≤ 20; decide) fun E hE => ?_
 obtain ⟨r_, h0, hf0⟩ := bindE hf0
 have o0 := hasF h_tries_Check (x := (l_, inputs)) h0 (loC F10_ l_ <| loC (eI .i64) inputs <| loN)
 rcases bifE hf0 with ⟨c0, hf0⟩ | ⟨c0, hf0⟩
 ·have o1 := shM F4_ F4_ []
  obtain rfl := someE hf0
  exact awpEnd X0 TTab_ok hC hm hE 4000 (hs := [.g [], .a ((eI .i64) r_), bT, .l ([].map F4_)]) (x := (.tup [eSl 1 true F1_ [], I r_])) [ob (hasG h_tries_Check), ob o0, ob c0, ob o1] (by kernel_rfl) (show LeV (.tup [eSl 1 true F1_ [], I r_]) (.tup [eSl 1 true F1_ ([] : List (List Int)), I r_]) from inferInstance)
 ·obtain ⟨r_1, h1, hf0⟩ := bindE hf0
  have o2 := hasF h_tries_of (x := (l_, inputs)) h1 (loC F10_ l_ <| loC (eI .i64) inputs <| loN)
  have o3 := shM F11_ F12_ r_1.nodes_
  obtain ⟨r_2, h2, hf0⟩ := bindE hf0
  have o4 := hasF h_tries_collect (x := (r_1.nodes_, ())) h2 (loC (eSl 2 false F12_) r_1.nodes_ <| loC (eFn0 58) () <| loN)
  have o5 := shM F11_ F12_ r_1.nodes_
  obtain rfl := someE hf0
  exact awpEnd X0 TTab_ok hC hm hE 4000 (hs := [.g [], .a ((eI .i64) r_), bF, .g [], .a (F28_ r_1), .g [], .l (r_1.nodes_.map F12_), .a (F5_ r_2), .l (r_1.nodes_.map F12_)]) (x := (.tup [eSl 1 true F1_ r_2, I 0])) [ob (hasG h_tries_Check), ob o0, ob c0, ob (hasG h_tries_of), ob o2, ob (hasG h_tries_collect), ob o3, ob o4, ob o5] (by kernel_rfl) (LeV.refl _)
noncomputable def bd_tries_Prefixes_1 : Code := (Try.f60.body).getD .skip
noncomputable def sp_tries_Prefixes_1 : Spec := spF (α := S_tries_Node) (ρ := Bool) 60 (fun x => [F13_ x]) (fun r => eB r) (fun x => tries_Prefixes_1 x) [] (by
 rintro a0 b0 h
 have e0 := EncI.inj (f := F13_) _ _ (List.cons.inj h).1
 subst e0
 rfl)
theorem w_tries_Prefixes_1 {ctr : Ctr} (hC : CtrOk Try.prog ctr) (hm : Try.prog.follows .mixedOrders = true) : sp_tries_Prefixes_1.Ok Try.prog := by
 refine spF_ok ?_
 rintro x0 r0 hf0
 try unfold tries_Prefixes_1 at hf0
 refine callOk_h (tt := TTab) (keep := true) (rs := [(2, none)]) (n := ⟨3, []⟩) (body := bd_tries_Prefixes_1) TTab_ok Try.func60 rfl (by kernel_rfl) rfl rfl (by show (1 : Nat) ≤ 3; decide) fun E hE => ?_
 obtain rfl := someE hf0
 exact awpEnd X0 TTab_ok hC hm hE 4000 (hs := []) (x := (B true)) [] (by kernel_rfl) (LeV.refl _)
noncomputable def bd_tries_collect_v5 : Code := (Try.f56.body).getD .skip
noncomputable def sp_tries_collect_v5 : Spec := spF (α := List S_tries_Node × Unit) (ρ := List (List Int)) 56 (fun x => [F19_ x.1, (eFn0 60) x.2]) (fun r => F5_ r) (fun x => tries_collect_v5 x.1 x.2) [] (by
 rintro ⟨a0, a1⟩ ⟨b0, b1⟩ h
 have e0 := EncI.inj (f := F19_) _ _ (List.cons.inj h).1
 replace h := (List.cons.inj h).2
 have e1 := EncI.inj (f := (eFn0 60)) _ _ (List.cons.inj h).1
 subst e0 e1
 rfl)
abbrev ST_tries_collect_v5_J1 (out : List (List Int)) : List (Nat × T) := [(4, .own (.box (eOs 1 false F1_ out)))]
abbrev ST_tries_collect_v5_I2 (nodes : List S_tries_Node) (r_1 : List S_tries_Node) (out1 : List (List Int)) : List (Nat × T) := [(2, .own (.box (eSl 2 false F13_ nodes))), (3, .own (.box (.fn 60 []))), (4, .own (.box (eOs 1 false F1_ out1))), (7, .d (.fn 85 [.sptr (eSl 2 false F13_ r_1)]))]
theorem w_tries_collect_v5 {ctr : Ctr} (hC : CtrOk Try.prog ctr) (hm : Try.prog.follows .mixedOrders = true) (h_tries_walk : ctr.Has sp_tries_walk) (h_slices_Clip_int_int : ctr.Has sp_slices_Clip_int_int) (h_tries_Prefixes_1 : ctr.Has sp_tries_Prefixes_1) (h_slices_Clone_int_int : ctr.Has sp_slices_Clone_int_int) : sp_tries_collect_v5.Ok Try.prog := by
 refine spF_ok ?_
 rintro ⟨nodes, is⟩ r0 hf0
 try unfold tries_collect_v5 at hf0
 refine callOk_h (tt := TTab) (keep := false) (rs := [(4, some 22)]) (n := ⟨25, []⟩) (body := bd_tries_collect_v5) TTab_ok Try.func56 rfl (by kernel_rfl) rfl rfl (by show (2 : Nat) ≤ 25; decide) fun E hE => ?_
 refine awpAt X0 TTab_ok hC hm [2,3,4] 4000 [.cut 1] (sub [1] bd_tries_collect_v5) (frs [1] [] bd_tries_collect_v5 []) [(2, .own (.box (eSl 2 false F13_ nodes))), (3, .own (.box (.fn 60 []))), (4, .own (.box (eOs 1 true F4_ [])))] [] (by kernel_rfl) fun st0 h0 => ?_
 refine awpJoin' (X := List (List Int)) (x := (sub [1,2] bd_tries_collect_v5)) (y := (sub [1,1] bd_tries_collect_v5)) (by kernel_rfl) [4] [2,3,4] _ h0 (fun z => tries_collect_v5_J1 z = some r0) (fun z => ST_tries_collect_v5_J1 z) ?_ fun J1 hJ1 => ?_
 ·rintro out hf0
  unfold tries_collect_v5_J1 at hf0
  have o0 := shM F1_ F1_ out
  have o1 := shM F1_ F1_ out
  obtain ⟨r_, h0, hf0⟩ := bindE hf0
  have o2 := hs_slices_ClipW_int_int_v4 out _ h0
  have o3 := shM F1_ F1_ out
  obtain rfl := someE hf0
  exact awpEnd ((xSpec TTab_ok (w_slices_ClipW_int_int_v4 hC hm) 24).or X0) TTab_ok hC hm hE 4000 (hs := [.g [], .l (out.map F1_), .a (F5_ r_), .l (out.map F1_)]) (x := (eSl 1 true F1_ r_)) [ob hg_slices_ClipW_int_int_v4, ob o1, ob o2, ob o3] (by kernel_rfl) (LeV.refl _)
 ·obtain ⟨r_1, h1, hf0⟩ := bindE hf0
  have o4 := hasF h_tries_walk (x := nodes) h1 (loC F19_ nodes <| loN)
  obtain ⟨t2, ht2, hf0⟩ := bindE hf0
  refine awpAt X0 TTab_ok hC hm [2,3,4,7] 4000 [.g [], .a ((eFn1 85 F22_) r_1)] (sub [1,2,1,0] bd_tries_collect_v5) (frs [1,2,1,0] [J1] bd_tries_collect_v5 []) [(2, .own (.box (eSl 2 false F13_ nodes))), (3, .own (.box (.fn 60 []))), (4, .own (.box (eOs 1 true F1_ []))), (7, .d (.fn 85 [.sptr (eSl 2 false F13_ r_1)]))] [ob (hasG h_tries_walk), ob o4] (by kernel_rfl) fun st0 h0 => ?_
  refine awpIter (g := .tmp 7) (ps := [8]) (assign := (sub [1,2,1,0,0] bd_tries_collect_v5)) (body := (sub [1,2,1,0,1] bd_tries_collect_v5)) (K := 85) (caps := [.sptr (eSl 2 false F13_ r_1)]) (by kernel_rfl) [2,3,4,7] (fun s => ST_tries_collect_v5_I2 nodes r_1 s) (fun z => nomatch z) (fun z => nomatch z) ((fun (x : S_tries_place) (_ : Bool) (_ : Value) => [F16_ x])) (F := @tries_walk_1 r_1) (fun s x => tries_collect_v5_I2 nodes s x) ([] : List (List Int)) t2 _ h0 inferInstance (by kernel_rfl) (by decide) (fun _ => rfl) (by rintro ⟨⟩) (by kernel_rfl) (fun _ _ _ => rfl) (w_tries_walk_1 hC hm h_slices_Clip_int_int r_1) ht2 ?_ ?_
  ·rintro tv2 out1 x8 vr lr1 hf1
   replace hf1 : tries_collect_v5_I2 nodes out1 x8 = some lr1 := hf1
   unfold tries_collect_v5_I2 at hf1
   refine awpFin X0 TTab_ok hC hm [2,3,4,5,7] 4000 [] .normal [(2, .own (.box (eSl 2 false F13_ nodes))), (3, .own (.box (.fn 60 []))), (4, .own (.box (eOs 1 false F1_ out1))), (5, .own (.box (F16_ x8))), (7, .d (.fn 85 [.sptr (eSl 2 false F13_ r_1)]))] [] (by kernel_rfl) fun st0 h0 => ⟨rfl, awpOf h0 ?_⟩
   obtain ⟨node_e, h2, hf1⟩ := bindE hf1
   have o5 := iM F13_ h2
   obtain ⟨r_2, h3, hf1⟩ := bindE hf1
   have o6 := hasF h_tries_Prefixes_1 (x := node_e) h3 (loC F13_ node_e <| loN)
   rcases bifE hf1 with ⟨c0, hf1⟩ | ⟨c0, hf1⟩
   ·obtain ⟨r_3, h4, hf1⟩ := bindE hf1
    have o7 := hasF h_slices_Clone_int_int (x := x8.w_) h4 (loC F4_ x8.w_ <| loN)
    obtain ⟨r_4, h5, hf1⟩ := bindE hf1
    have o8 := hasF h_slices_Clip_int_int (x := r_3) h5 (loC F4_ r_3 <| loN)
    have o9 := dM F1_ ([r_4] : List (List Int))
    have o10 := dM F1_ ([r_4] : List (List Int))
    obtain ⟨g0, hf1⟩ := gdE hf1
    have o11 := aL F1_ F1_ g0
    have o12 := aM F1_ out1 ([r_4] : List (List Int))
    obtain rfl := someE hf1
    exact awpFin X0 TTab_ok hC hm [2,3,4,7] 4000 [.a (F13_ node_e), .g [], .a (eB r_2), bT, .g [], .a (F3_ r_3), .g [], .l (r_3.map (eI .i64)), .a (F1_ r_4), .l (r_3.map (eI .i64)), bT, .l ((out1 ++ ([r_4] : List (List Int))).map F1_)] .normal [(2, .own (.box (eSl 2 false F13_ nodes))), (3, .own (.box (.fn 60 []))), (4, .own (.box (eOs 1 false F1_ (out1 ++ ([r_4] : List (List Int)))))), (7, .d (.fn 85 [.sptr (eSl 2 false F13_ r_1)]))] [ob (i0 h2), ob o5, ob (hasG h_tries_Prefixes_1), ob o6, ob c0, ob (hasG h_slices_Clone_int_int), ob o7, ob (hasG h_slices_Clip_int_int), ob (shM (eI .i64) (eI .i64) r_3), ob o8, ob (shM (eI .i64) (eI .i64) r_3), ob o9, ob o10, ob o11, ob o12] (by kernel_rfl) fun st0 h0 => ⟨rfl, _, h0, (inferInstance : LeL [(2, .own (.box (eSl 2 false F13_ nodes))), (3, .own (.box (.fn 60 []))), (4, .own (.box (eOs 1 false F1_ (out1 ++ ([r_4] : List (List Int)))))), (7, .d (.fn 85 [.sptr (eSl 2 false F13_ r_1)]))] (ST_tries_collect_v5_I2 nodes r_1 (out1 ++ ([r_4] : List (List Int)))))⟩
   ·obtain rfl := someE hf1
    exact awpFin X0 TTab_ok hC hm [2,3,4,7] 4000 [.a (F13_ node_e), .g [], .a (eB r_2), bF] .normal [(2, .own (.box (eSl 2 false F13_ nodes))), (3, .own (.box (.fn 60 []))), (4, .own (.box (eOs 1 false F1_ out1))), (7, .d (.fn 85 [.sptr (eSl 2 false F13_ r_1)]))] [ob (i0 h2), ob o5, ob (hasG h_tries_Prefixes_1), ob o6, ob c0] (by kernel_rfl) fun st0 h0 => ⟨rfl, _, h0, (inferInstance : LeL [(2, .own (.box (eSl 2 false F13_ nodes))), (3, .own (.box (.fn 60 []))), (4, .own (.box (eOs 1 false F1_ out1))), (7, .d (.fn 85 [.sptr (eSl 2 false F13_ r_1)]))] (ST_tries_collect_v5_I2 nodes r_1 out1))⟩
  ·rcases t2 with out1 | z
   ·dsimp only at hf0
    exact awpGoBack (by kernel_rfl) (hJ1 _ [(4, .own (.box (eOs 1 false F1_ out1)))] out1 hf0 (show Own.canon [4] _ = ofL _ by kernel_rfl) inferInstance)
   ·cases z
noncomputable def bd_tries_valid : Code := (Try.f59.body).getD .skip
noncomputable def sp_tries_valid : Spec := spF (α := List (List Int)) (ρ := List (List Int) × Int) 59 (fun x => [F5_ x]) (fun r => .tup [F5_ r.1, (eI .i64) r.2]) (fun x => tries_valid x) [] (by
 rintro a0 b0 h
 have e0 := EncI.inj (f := F5_) _ _ (List.cons.inj h).1
 subst e0
 rfl)
theorem w_tries_valid {ctr : Ctr} (hC : CtrOk Try.prog ctr) (hm : Try.prog.follows .mixedOrders = true) (h_tries_steps : ctr.Has sp_tries_steps) : sp_tries_valid.Ok Try.prog := by
 refine spF_ok ?_
 rintro l_ r0 hf0
 try unfold tries_valid at hf0
 refine callOk_h (tt := TTab) (keep := false) (rs := [(2, none), (3, none)]) (n := ⟨13, []⟩) (body := bd_tries_valid) TTab_ok Try.func59 rfl (by kernel_rfl) rfl rfl (by show (1 : Nat) ≤ 13; decide) fun E hE => ?_
 rcases bifE hf0 with ⟨c0, hf0⟩ | ⟨c0, hf0⟩
 ·have o0 := shM F4_ F4_ []
  obtain rfl := someE hf0
  exact awpEnd X0 TTab_ok hC hm hE 4000 (hs := (aLn l_.length :: (rpN 5 bT [.l ([].map F4_)]))) (x := (.tup [eSl 1 true F1_ [], I 3])) (ob (lnM F1_ l_) :: (rpN 4 (ob c0) [oT, ob o0])) (by kernel_rfl) (show LeV (.tup [eSl 1 true F1_ [], I 3]) (.tup [eSl 1 true F1_ ([] : List (List Int)), I 3]) from inferInstance)
 ·obtain ⟨r_, h0, hf0⟩ := bindE hf0
  have o1 := hasF h_tries_steps (x := l_) h0 (loC F5_ l_ <| loN)
  rcases bifE hf0 with ⟨c1, hf0⟩ | ⟨c1, hf0⟩
  ·have o2 := shM F4_ F4_ []
   obtain rfl := someE hf0
   exact awpEnd X0 TTab_ok hC hm hE 4000 (hs := [aLn l_.length, bF, bF, .g [], .a ((eI .i64) r_), bF, bF, bT, .l ([].map F4_)]) (x := (.tup [eSl 1 true F1_ [], I 3])) [ob (lnM F1_ l_), ob c0, ob c0, ob (hasG h_tries_steps), ob o1, ob c0, ob c0, ob c1, ob o2] (by kernel_rfl) (show LeV (.tup [eSl 1 true F1_ [], I 3]) (.tup [eSl 1 true F1_ ([] : List (List Int)), I 3]) from inferInstance)
  ·obtain rfl := someE hf0
   exact awpEnd X0 TTab_ok hC hm hE 4000 (hs := [aLn l_.length, bF, bF, .g [], .a ((eI .i64) r_), bF, bF, bF]) (x := (.tup [eSl 1 true F1_ l_, I 0])) [ob (lnM F1_ l_), ob c0, ob c0, ob (hasG h_tries_steps), ob o1, ob c0, ob c0, ob c1] (by kernel_rfl) (LeV.refl _)
noncomputable def bd_tries_Prefixes : Code := (Try.f22.body).getD .skip
noncomputable def sp_tries_Prefixes : Spec := spF (α := List (List Int) × Int) (ρ := List (List Int) × Int) 22 (fun x => [F10_ x.1, (eI .i64) x.2]) (fun r => .tup [F5_ r.1, (eI .i64) r.2]) (fun x => tries_Prefixes x.1 x.2) [] (by
 rintro ⟨a0, a1⟩ ⟨b0, b1⟩ h
 have e0 := EncI.inj (f := F10_) _ _ (List.cons.inj h).1
 replace h := (List.cons.inj h).2
 have e1 := EncI.inj (f := (eI .i64)) _ _ (List.cons.inj h).1
 subst e0 e1
 rfl)
theorem w_tries_Prefixes {ctr : Ctr} (hC : CtrOk Try.prog ctr) (hm : Try.prog.follows .mixedOrders = true) (h_tries_Check : ctr.Has sp_tries_Check) (h_tries_of : ctr.Has sp_tries_of) (h_tries_walk : ctr.Has sp_tries_walk) (h_slices_Clip_int_int : ctr.Has sp_slices_Clip_int_int) (h_tries_Prefixes_1 : ctr.Has sp_tries_Prefixes_1) (h_slices_Clone_int_int : ctr.Has sp_slices_Clone_int_int) (h_tries_valid : ctr.Has sp_tries_valid) : sp_tries_Prefixes.Ok Try.prog := by
 refine spF_ok ?_
 rintro ⟨l_, inputs⟩ r0 hf0
 try unfold tries_Prefixes at hf0
 refine callOk_h (tt := TTab) (keep := false) (rs := [(4, none), (5, none)]) (n := ⟨31, []⟩) (body := bd_tries_Prefixes) TTab_ok Try.func22 rfl (by kernel_rfl) rfl rfl (by show (2 : Nat) ≤ 31; decide) fun E hE => ?_
 obtain ⟨r_, h0, hf0⟩ := bindE hf0
 have o0 := hasF h_tries_Check (x := (l_, inputs)) h0 (loC F10_ l_ <| loC (eI .i64) inputs <| loN)
 rcases bifE hf0 with ⟨c0, hf0⟩ | ⟨c0, hf0⟩
 ·have o1 := shM F4_ F4_ []
  obtain rfl := someE hf0
  exact awpEnd X0 TTab_ok hC hm hE 4000 (hs := [.g [], .a ((eI .i64) r_), bT, .l ([].map F4_)]) (x := (.tup [eSl 1 true F1_ [], I r_])) [ob (hasG h_tries_Check), ob o0, ob c0, ob o1] (by kernel_rfl) (show LeV (.tup [eSl 1 true F1_ [], I r_]) (.tup [eSl 1 true F1_ ([] : List (List Int)), I r_]) from inferInstance)
 ·obtain ⟨r_1, h1, hf0⟩ := bindE hf0
  have o2 := hasF h_tries_of (x := (l_, inputs)) h1 (loC F10_ l_ <| loC (eI .i64) inputs <| loN)
  have o3 := lnM F11_ r_1.nodes_
  rcases bifE hf0 with ⟨c1, hf0⟩ | ⟨c1, hf0⟩
  ·have o4 := shM F4_ F4_ []
   obtain rfl := someE hf0
   exact awpEnd X0 TTab_ok hC hm hE 4000 (hs := [.g [], .a ((eI .i64) r_), bF, .g [], .a (F28_ r_1), aLn r_1.nodes_.length, bT, .l ([].map F4_)]) (x := (.tup [eSl 1 true F1_ [], I 3])) [ob (hasG h_tries_Check), ob o0, ob c0, ob (hasG h_tries_of), ob o2, ob o3, ob c1, ob o4] (by kernel_rfl) (show LeV (.tup [eSl 1 true F1_ [], I 3]) (.tup [eSl 1 true F1_ ([] : List (List Int)), I 3]) from inferInstance)
  ·have o5 := hasG (Ctr.add_has ctr0 sp_tries_collect_v5)
   have o6 := shM F11_ F12_ r_1.nodes_
   obtain ⟨r_2, h2, hf0⟩ := bindE hf0
   have o7 := hasF (Ctr.add_has ctr0 sp_tries_collect_v5) (x := (r_1.nodes_, ())) h2 (loC (eSl 2 false F12_) r_1.nodes_ <| loC (eFn0 60) () <| loN)
   have o8 := shM F11_ F12_ r_1.nodes_
   obtain ⟨r_3, h3, hf0⟩ := bindE hf0
   have o9 := tabC_at (f := .fn 59 []) (xs := [F5_ r_2]) (ls := []) (r := .tup [eSl 1 true F1_ r_3.1, I r_3.2]) (ys := []) [F5_ r_2] (show LeTs [F5_ r_2] [F5_ r_2] from inferInstance)
   obtain rfl := someE hf0
   exact awpEnd ((xLend (P := Try.prog) TTab [] (lentCall (hasCall hC h_tries_valid (x := r_2) h3)) 28).or ((xSpec TTab_ok (w_tries_collect_v5 hC hm h_tries_walk h_slices_Clip_int_int h_tries_Prefixes_1 h_slices_Clone_int_int) 27).or X0)) TTab_ok hC hm hE 4000 (hs := [.g [], .a ((eI .i64) r_), bF, .g [], .a (F28_ r_1), aLn r_1.nodes_.length, bF, .g [], .l (r_1.nodes_.map F12_), .a (F5_ r_2), .l (r_1.nodes_.map F12_)]) (x := (.tup [eSl 1 true F1_ r_3.1, I r_3.2])) [ob (hasG h_tries_Check), ob o0, ob c0, ob (hasG h_tries_of), ob o2, ob o3, ob c1, ob o5, ob o6, ob o7, ob o8, ob o9] (by kernel_rfl) (LeV.refl _)
noncomputable def bd_tries_both : Code := (Try.f70.body).getD .skip
noncomputable def sp_tries_both : Spec := spF (α := Int × List (List (List Int))) (ρ := Int) 70 (fun x => [(eI .i64) x.1, (eSl 1 false F10_) x.2]) (fun r => (eI .i64) r) (fun x => tries_both x.1 x.2) [] (by
 rintro ⟨a0, a1⟩ ⟨b0, b1⟩ h
 have e0 := EncI.inj (f := (eI .i64)) _ _ (List.cons.inj h).1
 replace h := (List.cons.inj h).2
 have e1 := EncI.inj (f := (eSl 1 false F10_)) _ _ (List.cons.inj h).1
 subst e0 e1
 rfl)
abbrev ST_tries_both_J1 : List (Nat × T) := []
abbrev ST_tries_both_L2 (inputs : Int) (l_ : List (List (List Int))) (x10 : Int) : List (Nat × T) := [(0, .d (I inputs)), (8, .d (eSl 1 false F10_ l_)), (9, .d (I ((l_.length : Nat) : Int))), (10, .d (I x10))]
theorem w_tries_both {ctr : Ctr} (hC : CtrOk Try.prog ctr) (hm : Try.prog.follows .mixedOrders = true) (h_tries_Check : ctr.Has sp_tries_Check) : sp_tries_both.Ok Try.prog := by
 refine spF_ok ?_
 rintro ⟨inputs, l_⟩ r0 hf0
 try unfold tries_both at hf0
 refine callOk_h (tt := TTab) (keep := true) (rs := [(4, none)]) (n := ⟨21, []⟩) (body := bd_tries_both) TTab_ok Try.func70 rfl (by kernel_rfl) rfl rfl (by show (2 : Nat) ≤ 21; decide) fun E hE => ?_
 refine awpAt X0 TTab_ok hC hm [0,1] 4000 [.cut 1] (sub [1] bd_tries_both) (frs [1] [] bd_tries_both []) [(0, .d (I inputs)), (1, .d (eSl 1 false F10_ l_))] [] (by kernel_rfl) fun st0 h0 => ?_
 refine awpJoin' (X := Unit) (x := (sub [1,2] bd_tries_both)) (y := (sub [1,1] bd_tries_both)) (by kernel_rfl) [] [0,1] _ h0 (fun z => tries_both_J1 = some r0) (fun z => ST_tries_both_J1) ?_ fun J1 hJ1 => ?_
 ·rintro ⟨⟩ hf0
  unfold tries_both_J1 at hf0
  obtain rfl := someE hf0
  exact awpEnd X0 TTab_ok hC hm hE 4000 (hs := []) (x := (I 0)) [] (by kernel_rfl) (LeV.refl _)
 ·have o0 := lnM F10_ l_
  obtain ⟨t2, ht2, hf0⟩ := bindE hf0
  refine awpAt X0 TTab_ok hC hm [0,8,9,10] 4000 [aLn l_.length] (sub [1,2,1,0] bd_tries_both) (frs [1,2,1,0] [J1] bd_tries_both []) [(0, .d (I inputs)), (8, .d (eSl 1 false F10_ l_)), (9, .d (I ((l_.length : Nat) : Int))), (10, .d (I 0))] [ob o0] (by kernel_rfl) fun st0 h0 => ?_
  refine awpLoop' (X := Int × Nat) (c' := (sub [1,2,1,0,0] bd_tries_both)) (by kernel_rfl) [0,8,9,10] (fun x => loopN (fun s => tries_both_L2 inputs l_ s) x.2 x.1 = some t2) (fun x => x.2) (fun x => ST_tries_both_L2 inputs l_ x.1) (0, fuel) _ h0 inferInstance ht2 ?_
  rintro ⟨x10, n2⟩ hn2 J2 hJ2
  obtain ⟨m2, lr1, rfl, hf1, hl1⟩ := loopE hn2
  try unfold tries_both_L2 at hf1
  rcases bifE hf1 with ⟨c0, hf1⟩ | ⟨c0, hf1⟩
  ·obtain ⟨l__e, h0, hf1⟩ := bindE hf1
   have o1 := iM F10_ h0
   obtain ⟨r_, h1, hf1⟩ := bindE hf1
   have o2 := hasF h_tries_Check (x := (l__e, inputs)) h1 (loC F10_ l__e <| loC (eI .i64) inputs <| loN)
   rcases bifE hf1 with ⟨c1, hf1⟩ | ⟨c1, hf1⟩
   ·obtain rfl := someE hf1
    obtain rfl := hl1
    obtain rfl := someE hf0
    exact awpEnd X0 TTab_ok hC hm hE 4000 (hs := [bT, .a (F10_ l__e), .g [], .a ((eI .i64) r_), bT]) (x := (I r_)) [ob c0, ob (i0 h0), ob o1, ob (hasG h_tries_Check), ob o2, ob c1] (by kernel_rfl) (LeV.refl _)
   ·obtain rfl := someE hf1
    exact awpBack X0 TTab_ok hC hm [0,8,9,10] 4000 [bT, .a (F10_ l__e), .g [], .a ((eI .i64) r_), bF] J2 [(0, .d (I inputs)), (8, .d (eSl 1 false F10_ l_)), (9, .d (I ((l_.length : Nat) : Int))), (10, .d (I (w64 (x10 + 1))))] [ob c0, ob (i0 h0), ob o1, ob (hasG h_tries_Check), ob o2, ob c1] (by kernel_rfl) fun st0 h0 => hJ2 st0 _ (w64 (x10 + 1), m2) hl1 (Nat.lt_succ_self m2) h0 inferInstance
  ·obtain rfl := someE hf1
   obtain rfl := hl1
   exact awpBack X0 TTab_ok hC hm [] 4000 [bF] J1 [] [ob c0] (by kernel_rfl) fun st0 h0 => hJ1 st0 _ () hf0 h0 inferInstance
noncomputable def bd_tries_key : Code := (Try.f72.body).getD .skip
noncomputable def sp_tries_key : Spec := spF (α := List Int) (ρ := List UInt8) 72 (fun x => [F4_ x]) (fun r => eStr r) (fun x => tries_key x) [] (by
 rintro a0 b0 h
 have e0 := EncI.inj (f := F4_) _ _ (List.cons.inj h).1
 subst e0
 rfl)
abbrev ST_tries_key_J1 (b_ : List Int) : List (Nat × T) := [(3, .own (eOs 1 true (eI .u8) b_))]
abbrev ST_tries_key_L2 (w_ : List Int) (b_1 : List Int) (x11 : Int) : List (Nat × T) := [(3, .own (eOs 1 true (eI .u8) b_1)), (9, .d (eSl 1 false (eI .i64) w_)), (10, .d (I ((w_.length : Nat) : Int))), (11, .d (I x11))]
theorem w_tries_key {ctr : Ctr} (hC : CtrOk Try.prog ctr) (hm : Try.prog.follows .mixedOrders = true) : sp_tries_key.Ok Try.prog := by
 refine spF_ok ?_
 rintro w_ r0 hf0
 try unfold tries_key at hf0
 refine callOk_h (tt := TTab) (keep := true) (rs := [(2, none)]) (n := ⟨24, []⟩) (body := bd_tries_key) TTab_ok Try.func72 rfl (by kernel_rfl) rfl rfl (by show (1 : Nat) ≤ 24; decide) fun E hE => ?_
 obtain ⟨g0, hf0⟩ := gdE hf0
 have o0 := rM 1 (eI .u8) ((w_.length : Nat) : Int) (0 : Int)
 refine awpAt X0 TTab_ok hC hm [0,3] 4000 [aLn w_.length, .a (eOs 1 true (eI .u8) (List.replicate ((w_.length : Nat) : Int).toNat (0 : Int))), .cut 0] (sub [1,1] bd_tries_key) (frs [1,1] [] bd_tries_key []) [(0, .d (eSl 1 false (eI .i64) w_)), (3, .own (eOs 1 true (eI .u8) (List.replicate ((w_.length : Nat) : Int).toNat (0 : Int))))] [ob (lnM (eI .i64) w_), ob (rL g0), ob o0] (by kernel_rfl) fun st0 h0 => ?_
 refine awpJoin' (X := List Int) (x := (sub [1,1,2] bd_tries_key)) (y := (sub [1,1,1] bd_tries_key)) (by kernel_rfl) [3] [0,3] _ h0 (fun z => tries_key_J1 z = some r0) (fun z => ST_tries_key_J1 z) ?_ fun J1 hJ1 => ?_
 ·rintro b_ hf0
  unfold tries_key_J1 at hf0
  obtain rfl := someE hf0
  exact awpEnd ((xStr Try.prog sT_98_9).or X0) TTab_ok hC hm hE 4000 (hs := [.a (eStr (u8s b_))]) (x := (eStr (u8s b_))) [ob (stM b_)] (by kernel_rfl) (LeV.refl _)
 ·obtain ⟨t2, ht2, hf0⟩ := bindE hf0
  refine awpAt X0 TTab_ok hC hm [3,9,10,11] 4000 [aLn w_.length] (sub [1,1,2,1,0] bd_tries_key) (frs [1,1,2,1,0] [J1] bd_tries_key []) [(3, .own (eOs 1 true (eI .u8) (List.replicate ((w_.length : Nat) : Int).toNat (0 : Int)))), (9, .d (eSl 1 false (eI .i64) w_)), (10, .d (I ((w_.length : Nat) : Int))), (11, .d (I 0))] [ob (lnM (eI .i64) w_)] (by kernel_rfl) fun st0 h0 => ?_
  refine awpLoop' (X := (List Int × Int) × Nat) (c' := (sub [1,1,2,1,0,0] bd_tries_key)) (by kernel_rfl) [3,9,10,11] (fun x => loopN (fun s => tries_key_L2 w_ s.1 s.2) x.2 x.1 = some t2) (fun x => x.2) (fun x => ST_tries_key_L2 w_ x.1.1 x.1.2) (((List.replicate ((w_.length : Nat) : Int).toNat (0 : Int)), 0), fuel) _ h0 inferInstance ht2 ?_
  rintro ⟨⟨b_1, x11⟩, n2⟩ hn2 J2 hJ2
  obtain ⟨m2, lr1, rfl, hf1, hl1⟩ := loopE hn2
  try unfold tries_key_L2 at hf1
  rcases bifE hf1 with ⟨c0, hf1⟩ | ⟨c0, hf1⟩
  ·obtain ⟨w__e, h0, hf1⟩ := bindE hf1
   obtain ⟨b__e, h1, hf1⟩ := bindE hf1
   have o1 := sM (eI .u8) b_1 x11 (IntKind.u8.wrap (w__e))
   obtain rfl := someE hf1
   exact awpBack X0 TTab_ok hC hm [3,9,10,11] 4000 [bT, .a ((eI .i64) w__e), .a ((eI .u8) b__e), .a ((eI .u8) b__e), .l ((b_1.set x11.toNat (IntKind.u8.wrap (w__e))).map (eI .u8))] J2 [(3, .own (eOs 1 true (eI .u8) (b_1.set x11.toNat (IntKind.u8.wrap (w__e))))), (9, .d (eSl 1 false (eI .i64) w_)), (10, .d (I ((w_.length : Nat) : Int))), (11, .d (I (w64 (x11 + 1))))] [ob c0, ob (i0 h0), ob (iM (eI .i64) h0), ob (iL (eI .u8) h1), ob (iM (eI .u8) h1), ob (iM (eI .u8) h1), ob o1] (by kernel_rfl) fun st0 h0 => hJ2 st0 _ (((b_1.set x11.toNat (IntKind.u8.wrap (w__e))), w64 (x11 + 1)), m2) hl1 (Nat.lt_succ_self m2) h0 inferInstance
  ·obtain rfl := someE hf1
   obtain rfl := hl1
   exact awpBack X0 TTab_ok hC hm [3] 4000 [bF] J1 [(3, .own (eOs 1 true (eI .u8) b_1))] [ob c0] (by kernel_rfl) fun st0 h0 => hJ1 st0 _ b_1 hf0 h0 inferInstance
noncomputable def bd_tries_Concat : Code := (Try.f39.body).getD .skip
noncomputable def sp_tries_Concat : Spec := spF (α := List (List Int) × List (List Int) × Int) (ρ := List (List Int) × Int) 39 (fun x => [F10_ x.1, F10_ x.2.1, (eI .i64) x.2.2]) (fun r => .tup [F5_ r.1, (eI .i64) r.2]) (fun x => tries_Concat x.1 x.2.1 x.2.2) [] (by
 rintro ⟨a0, a1, a2⟩ ⟨b0, b1, b2⟩ h
 have e0 := EncI.inj (f := F10_) _ _ (List.cons.inj h).1
 replace h := (List.cons.inj h).2
 have e1 := EncI.inj (f := F10_) _ _ (List.cons.inj h).1
 replace h := (List.cons.inj h).2
 have e2 := EncI.inj (f := (eI .i64)) _ _ (List.cons.inj h).1
 subst e0 e1 e2
 rfl)
abbrev ST_tries_Concat_J1 (out : List (List Int)) : List (Nat × T) := [(11, .own (eOs 1 false F4_ out))]
abbrev ST_tries_Concat_J3 (a_ : List (List Int)) (b_ : List (List Int)) (x29 : Int) (seen1 : List ((List UInt8) × Bool)) (n_1 : Int) (out2 : List (List Int)) : List (Nat × T) := [(1, .d (eSl 1 false F4_ b_)), (9, .own (.opq (mapQ (entL eStr eB seen1)))), (10, .d (I n_1)), (11, .own (eOs 1 false F4_ out2)), (27, .d (eSl 1 false F4_ a_)), (28, .d (I ((a_.length : Nat) : Int))), (29, .d (I x29))]
abbrev ST_tries_Concat_J5 (a_ : List (List Int)) (b_ : List (List Int)) (x29 : Int) (a__e : List Int) (x35 : Int) (seen3 : List ((List UInt8) × Bool)) (n_3 : Int) (out4 : List (List Int)) : List (Nat × T) := [(1, .d (eSl 1 false F4_ b_)), (9, .own (.opq (mapQ (entL eStr eB seen3)))), (10, .d (I n_3)), (11, .own (eOs 1 false F4_ out4)), (13, .d (eSl 1 false (eI .i64) a__e)), (27, .d (eSl 1 false F4_ a_)), (28, .d (I ((a_.length : Nat) : Int))), (29, .d (I x29)), (33, .d (eSl 1 false F4_ b_)), (34, .d (I ((b_.length : Nat) : Int))), (35, .d (I x35))]
abbrev ST_tries_Concat_L4 (a_ : List (List Int)) (b_ : List (List Int)) (x29 : Int) (a__e : List Int) (seen2 : List ((List UInt8) × Bool)) (n_2 : Int) (out3 : List (List Int)) (x35 : Int) : List (Nat × T) := [(1, .d (eSl 1 false F4_ b_)), (9, .own (.opq (mapQ (entL eStr eB seen2)))), (10, .d (I n_2)), (11, .own (eOs 1 false F4_ out3)), (13, .d (eSl 1 false (eI .i64) a__e)), (27, .d (eSl 1 false F4_ a_)), (28, .d (I ((a_.length : Nat) : Int))), (29, .d (I x29)), (33, .d (eSl 1 false F4_ b_)), (34, .d (I ((b_.length : Nat) : Int))), (35, .d (I x35))]
abbrev ST_tries_Concat_L2 (a_ : List (List Int)) (b_ : List (List Int)) (seen : List ((List UInt8) × Bool)) (n_ : Int) (out1 : List (List Int)) (x29 : Int) : List (Nat × T) := [(1, .d (eSl 1 false F4_ b_)), (9, .own (.opq (mapQ (entL eStr eB seen)))), (10, .d (I n_)), (11, .own (eOs 1 false F4_ out1)), (27, .d (eSl 1 false F4_ a_)), (28, .d (I ((a_.length : Nat) : Int))), (29, .d (I x29))]
theorem w_tries_Concat {ctr : Ctr} (hC : CtrOk Try.prog ctr) (hm : Try.prog.follows .mixedOrders = true) (h_tries_both : ctr.Has sp_tries_both) (h_slices_Clip_int_int : ctr.Has sp_slices_Clip_int_int) (h_tries_key : ctr.Has sp_tries_key) (h_tries_sorted : ctr.Has sp_tries_sorted) : sp_tries_Concat.Ok Try.prog := by
 refine spF_ok ?_
 rintro ⟨a_, b_, inputs⟩ r0 hf0
 try unfold tries_Concat at hf0
 refine callOk_h (tt := TTab) (keep := false) (rs := [(6, none), (7, none)]) (n := ⟨75, []⟩) (body := bd_tries_Concat) TTab_ok Try.func39 rfl (by kernel_rfl) rfl rfl (by show (3 : Nat) ≤ 75; decide) fun E hE => ?_
 have o0 := shM F10_ F10_ ([a_, b_])
 obtain ⟨r_, h0, hf0⟩ := bindE hf0
 have o1 := hasF h_tries_both (x := (inputs, [a_, b_])) h0 (loC (eI .i64) inputs <| loC (eSl 1 true F10_) ([a_, b_] : List (List (List Int))) <| loN)
 rcases bifE hf0 with ⟨c0, hf0⟩ | ⟨c0, hf0⟩
 ·have o2 := shM F4_ F4_ []
  obtain rfl := someE hf0
  exact awpEnd X0 TTab_ok hC hm hE 4000 (hs := [.g [], .l (([a_, b_]).map F10_), .a ((eI .i64) r_), bT, .l ([].map F4_)]) (x := (.tup [eSl 1 true F1_ [], I r_])) [ob (hasG h_tries_both), ob o0, ob o1, ob c0, ob o2] (by kernel_rfl) (show LeV (.tup [eSl 1 true F1_ [], I r_]) (.tup [eSl 1 true F1_ ([] : List (List Int)), I r_]) from inferInstance)
 ·refine awpAt ((xMake Try.prog 26).or X0) TTab_ok hC hm [0,1,9,10,11] 4000 [.g [], .l (([a_, b_]).map F10_), .a ((eI .i64) r_), bF, .cut 3] (sub [1,1,1,1,1] bd_tries_Concat) (frs [1,1,1,1,1] [] bd_tries_Concat []) [(0, .d (eSl 1 false F4_ a_)), (1, .d (eSl 1 false F4_ b_)), (9, .own (.opq (mapQ (entL eStr eB ([] : List ((List UInt8) × Bool)))))), (10, .d (I 0)), (11, .own (eOs 1 true F4_ []))] [ob (hasG h_tries_both), ob o0, ob o1, ob c0] (by kernel_rfl) fun st0 h0 => ?_
  refine awpJoin' (X := List (List Int)) (x := (sub [1,1,1,1,1,2] bd_tries_Concat)) (y := (sub [1,1,1,1,1,1] bd_tries_Concat)) (by kernel_rfl) [11] [0,1,9,10,11] _ h0 (fun z => tries_Concat_J1 z = some r0) (fun z => ST_tries_Concat_J1 z) ?_ fun J1 hJ1 => ?_
  ·rintro out hf0
   unfold tries_Concat_J1 at hf0
   have o3 := shM F4_ F4_ out
   obtain ⟨r_1, h1, hf0⟩ := bindE hf0
   have o4 := hasF h_tries_sorted (x := out) h1 (loC F10_ out <| loN)
   have o5 := shM F4_ F4_ out
   obtain rfl := someE hf0
   exact awpEnd X0 TTab_ok hC hm hE 4000 (hs := [.g [], .l (out.map F4_), .a (.tup [eSl 1 true F1_ r_1.1, I r_1.2]), .l (out.map F4_)]) (x := (.tup [eSl 1 true F1_ r_1.1, I r_1.2])) [ob (hasG h_tries_sorted), ob o3, ob o4, ob o5] (by kernel_rfl) (LeV.refl _)
  ·obtain ⟨t2, ht2, hf0⟩ := bindE hf0
   refine awpAt X0 TTab_ok hC hm [1,9,10,11,27,28,29] 4000 [aLn a_.length] (sub [1,1,1,1,1,2,1,0] bd_tries_Concat) (frs [1,1,1,1,1,2,1,0] [J1] bd_tries_Concat []) [(1, .d (eSl 1 false F4_ b_)), (9, .own (.opq (mapQ (entL eStr eB ([] : List ((List UInt8) × Bool)))))), (10, .d (I 0)), (11, .own (eOs 1 true F4_ [])), (27, .d (eSl 1 false F4_ a_)), (28, .d (I ((a_.length : Nat) : Int))), (29, .d (I 0))] [ob (lnM F4_ a_)] (by kernel_rfl) fun st0 h0 => ?_
   refine awpLoop' (X := ((List ((List UInt8) × Bool)) × Int × List (List Int) × Int) × Nat) (c' := (sub [1,1,1,1,1,2,1,0,0] bd_tries_Concat)) (by kernel_rfl) [1,9,10,11,27,28,29] (fun x => loopN (fun s => tries_Concat_L2 a_ b_ s.1 s.2.1 s.2.2.1 s.2.2.2) x.2 x.1 = some t2) (fun x => x.2) (fun x => ST_tries_Concat_L2 a_ b_ x.1.1 x.1.2.1 x.1.2.2.1 x.1.2.2.2) ((([] : List ((List UInt8) × Bool)), 0, ([] : List (List Int)), 0), fuel) _ h0 inferInstance ht2 ?_
   rintro ⟨⟨seen, n_, out1, x29⟩, n2⟩ hn2 J2 hJ2
   obtain ⟨m2, lr1, rfl, hf1, hl1⟩ := loopE hn2
   try unfold tries_Concat_L2 at hf1
   rcases bifE hf1 with ⟨c1, hf1⟩ | ⟨c1, hf1⟩
   ·refine awpAt X0 TTab_ok hC hm [1,9,10,11,27,28,29] 4000 [bT, .cut 0] (sub [1,1,1,1,1,2,1,0,0,1,1] bd_tries_Concat) (frs [1,1,1,1,1,2,1,0,0,1,1] [J1, J2] bd_tries_Concat []) [(1, .d (eSl 1 false F4_ b_)), (9, .own (.opq (mapQ (entL eStr eB seen)))), (10, .d (I n_)), (11, .own (eOs 1 false F4_ out1)), (27, .d (eSl 1 false F4_ a_)), (28, .d (I ((a_.length : Nat) : Int))), (29, .d (I x29))] [ob c1] (by kernel_rfl) fun st0 h0 => ?_
    refine awpJoin' (X := (List ((List UInt8) × Bool)) × Int × List (List Int)) (x := (sub [1,1,1,1,1,2,1,0,0,1,1,2] bd_tries_Concat)) (y := (sub [1,1,1,1,1,2,1,0,0,1,1,1] bd_tries_Concat)) (by kernel_rfl) [1,9,10,11,27,28,29] [1,9,10,11,27,28,29] _ h0 (fun z => tries_Concat_J3 x29 z.1 z.2.1 z.2.2 = some lr1) (fun z => ST_tries_Concat_J3 a_ b_ x29 z.1 z.2.1 z.2.2) ?_ fun J3 hJ3 => ?_
    ·rintro ⟨seen1, n_1, out2⟩ hf1
     unfold tries_Concat_J3 at hf1
     obtain rfl := someE hf1
     exact awpBack X0 TTab_ok hC hm [1,9,10,11,27,28,29] 4000 [] J2 [(1, .d (eSl 1 false F4_ b_)), (9, .own (.opq (mapQ (entL eStr eB seen1)))), (10, .d (I n_1)), (11, .own (eOs 1 false F4_ out2)), (27, .d (eSl 1 false F4_ a_)), (28, .d (I ((a_.length : Nat) : Int))), (29, .d (I (w64 (x29 + 1))))] [] (by kernel_rfl) fun st0 h0 => hJ2 st0 _ ((seen1, n_1, out2, w64 (x29 + 1)), m2) hl1 (Nat.lt_succ_self m2) h0 inferInstance
    ·obtain ⟨a__e, h2, hf1⟩ := bindE hf1
     obtain ⟨t4, ht4, hf1⟩ := bindE hf1
     refine awpAt X0 TTab_ok hC hm [1,9,10,11,13,27,28,29,33,34,35] 4000 [.a (F4_ a__e), aLn b_.length] (sub [1,1,1,1,1,2,1,0,0,1,1,2,0,1,1,0] bd_tries_Concat) (frs [1,1,1,1,1,2,1,0,0,1,1,2,0,1,1,0] [J1, J2, J3] bd_tries_Concat []) [(1, .d (eSl 1 false F4_ b_)), (9, .own (.opq (mapQ (entL eStr eB seen)))), (10, .d (I n_)), (11, .own (eOs 1 false F4_ out1)), (13, .d (eSl 1 false (eI .i64) a__e)), (27, .d (eSl 1 false F4_ a_)), (28, .d (I ((a_.length : Nat) : Int))), (29, .d (I x29)), (33, .d (eSl 1 false F4_ b_)), (34, .d (I ((b_.length : Nat) : Int))), (35, .d (I 0))] [ob (i0 h2), ob (iM F4_ h2), ob (lnM F4_ b_)] (by kernel_rfl) fun st0 h0 => ?_
     refine awpLoop' (X := ((List ((List UInt8) × Bool)) × Int × List (List Int) × Int) × Nat) (c' := (sub [1,1,1,1,1,2,1,0,0,1,1,2,0,1,1,0,0] bd_tries_Concat)) (by kernel_rfl) [1,9,10,11,13,27,28,29,33,34,35] (fun x => loopN (fun s => tries_Concat_L4 b_ a__e s.1 s.2.1 s.2.2.1 s.2.2.2) x.2 x.1 = some t4) (fun x => x.2) (fun x => ST_tries_Concat_L4 a_ b_ x29 a__e x.1.1 x.1.2.1 x.1.2.2.1 x.1.2.2.2) ((seen, n_, out1,0), fuel) _ h0 inferInstance ht4 ?_
     rintro ⟨⟨seen2, n_2, out3, x35⟩, n4⟩ hn4 J4 hJ4
     obtain ⟨m4, lr2, rfl, hf2, hl2⟩ := loopE hn4
     try unfold tries_Concat_L4 at hf2
     rcases bifE hf2 with ⟨c2, hf2⟩ | ⟨c2, hf2⟩
     ·obtain ⟨b__e, h3, hf2⟩ := bindE hf2
      obtain ⟨r_2, h4, hf2⟩ := bindE hf2
      have o6 := hasF h_slices_Clip_int_int (x := a__e) h4 (loC F4_ a__e <| loN)
      obtain ⟨g0, hf2⟩ := gdE hf2
      rcases bifE hf2 with ⟨c3, hf2⟩ | ⟨c3, hf2⟩
      ·have o7 := shM F4_ F4_ []
       obtain rfl := someE hf2
       obtain rfl := hl2
       obtain rfl := someE hf1
       obtain rfl := hl1
       obtain rfl := someE hf0
       exact awpEnd ((xAp TTab_ok 42).or X0) TTab_ok hC hm hE 4000 (hs := [bT, .a (F4_ b__e), .g [], .a (F1_ r_2), .l ((r_2 ++ b__e).map (eI .i64)), .a (.atom (.int .i64 (((r_2 ++ b__e).length : Nat) : Int))), bT, .l ([].map F4_)]) (x := (.tup [eSl 1 true F1_ [], I 3])) [ob c2, ob (i0 h3), ob (iM F4_ h3), ob (hasG h_slices_Clip_int_int), ob o6, ob (apM (eI .i64) g0), ob (aM (eI .i64) r_2 b__e), ob (lnM (eI .i64) (r_2 ++ b__e)), ob c3, ob o7] (by kernel_rfl) (show LeV (.tup [eSl 1 true F1_ [], I 3]) (.tup [eSl 1 true F1_ ([] : List (List Int)), I 3]) from inferInstance)
      ·refine awpAt ((xAp TTab_ok 42).or X0) TTab_ok hC hm [1,9,10,11,13,16,27,28,29,33,34,35] 4000 [bT, .a (F4_ b__e), .g [], .a (F1_ r_2), .l ((r_2 ++ b__e).map (eI .i64)), .a (.atom (.int .i64 (((r_2 ++ b__e).length : Nat) : Int))), bF, .cut 0] (sub [1,1,1,1,1,2,1,0,0,1,1,2,0,1,1,0,0,1,1,0,0,1,1,1] bd_tries_Concat) (frs [1,1,1,1,1,2,1,0,0,1,1,2,0,1,1,0,0,1,1,0,0,1,1,1] [J1, J2, J3, J4] bd_tries_Concat []) [(1, .d (eSl 1 false F4_ b_)), (9, .own (.opq (mapQ (entL eStr eB seen2)))), (10, .d (I n_2)), (11, .own (eOs 1 false F4_ out3)), (13, .d (eSl 1 false (eI .i64) a__e)), (16, .d (eSl 1 false (eI .i64) (r_2 ++ b__e))), (27, .d (eSl 1 false F4_ a_)), (28, .d (I ((a_.length : Nat) : Int))), (29, .d (I x29)), (33, .d (eSl 1 false F4_ b_)), (34, .d (I ((b_.length : Nat) : Int))), (35, .d (I x35))] [ob c2, ob (i0 h3), ob (iM F4_ h3), ob (hasG h_slices_Clip_int_int), ob o6, ob (apM (eI .i64) g0), ob (aM (eI .i64) r_2 b__e), ob (lnM (eI .i64) (r_2 ++ b__e)), ob c3] (by kernel_rfl) fun st0 h0 => ?_
       refine awpJoin' (X := (List ((List UInt8) × Bool)) × Int × List (List Int)) (x := (sub [1,1,1,1,1,2,1,0,0,1,1,2,0,1,1,0,0,1,1,0,0,1,1,1,2] bd_tries_Concat)) (y := (sub [1,1,1,1,1,2,1,0,0,1,1,2,0,1,1,0,0,1,1,0,0,1,1,1,1] bd_tries_Concat)) (by kernel_rfl) [1,9,10,11,13,27,28,29,33,34,35] [1,9,10,11,13,16,27,28,29,33,34,35] _ h0 (fun z => tries_Concat_J5 x35 z.1 z.2.1 z.2.2 = some lr2) (fun z => ST_tries_Concat_J5 a_ b_ x29 a__e x35 z.1 z.2.1 z.2.2) ?_ fun J5 hJ5 => ?_
       ·rintro ⟨seen3, n_3, out4⟩ hf2
        unfold tries_Concat_J5 at hf2
        rcases bifE hf2 with ⟨c4, hf2⟩ | ⟨c4, hf2⟩
        ·have o8 := shM F4_ F4_ []
         obtain rfl := someE hf2
         obtain rfl := hl2
         obtain rfl := someE hf1
         obtain rfl := hl1
         obtain rfl := someE hf0
         exact awpEnd X0 TTab_ok hC hm hE 4000 (hs := (aLn out4.length :: (rpN 4 bT [.l ([].map F4_)]))) (x := (.tup [eSl 1 true F1_ [], I 3])) [ob (lnM F4_ out4), ob c4, ob c4, ob c4, oT, ob o8] (by kernel_rfl) (show LeV (.tup [eSl 1 true F1_ [], I 3]) (.tup [eSl 1 true F1_ ([] : List (List Int)), I 3]) from inferInstance)
        ·rcases bifE hf2 with ⟨c5, hf2⟩ | ⟨c5, hf2⟩
         ·have o9 := shM F4_ F4_ []
          obtain rfl := someE hf2
          obtain rfl := hl2
          obtain rfl := someE hf1
          obtain rfl := hl1
          obtain rfl := someE hf0
          exact awpEnd X0 TTab_ok hC hm hE 4000 (hs := [aLn out4.length, bF, bF, bF, bT, .l ([].map F4_)]) (x := (.tup [eSl 1 true F1_ [], I 3])) [ob (lnM F4_ out4), ob c4, ob c4, ob c4, ob c5, ob o9] (by kernel_rfl) (show LeV (.tup [eSl 1 true F1_ [], I 3]) (.tup [eSl 1 true F1_ ([] : List (List Int)), I 3]) from inferInstance)
         ·obtain rfl := someE hf2
          exact awpBack X0 TTab_ok hC hm [1,9,10,11,13,27,28,29,33,34,35] 4000 (aLn out4.length :: (rpN 4 bF [])) J4 [(1, .d (eSl 1 false F4_ b_)), (9, .own (.opq (mapQ (entL eStr eB seen3)))), (10, .d (I n_3)), (11, .own (eOs 1 false F4_ out4)), (13, .d (eSl 1 false (eI .i64) a__e)), (27, .d (eSl 1 false F4_ a_)), (28, .d (I ((a_.length : Nat) : Int))), (29, .d (I x29)), (33, .d (eSl 1 false F4_ b_)), (34, .d (I ((b_.length : Nat) : Int))), (35, .d (I (w64 (x35 + 1))))] [ob (lnM F4_ out4), ob c4, ob c4, ob c4, ob c5] (by kernel_rfl) fun st0 h0 => hJ4 st0 _ ((seen3, n_3, out4, w64 (x35 + 1)), m4) hl2 (Nat.lt_succ_self m4) h0 inferInstance
       ·obtain ⟨r_3, h5, hf2⟩ := bindE hf2
        have o10 := hasF h_tries_key (x := (r_2 ++ b__e)) h5 (loC F4_ (r_2 ++ b__e) <| loN)
        have o11 := (⟨rfl, rfl, ent_ok (fun _ => rfl) seen2⟩ : A.opq (mapQ (entL eStr eB seen2)) = A.opq (mapQ (entL eStr eB seen2)) ∧ okStr (eStr r_3) = true ∧ ∀ p ∈ entL eStr eB seen2, okStr p.1 = true)
        obtain ⟨val, h6, hf2⟩ := bindE hf2
        replace h6 := someE h6
        have o12 := (get1 (f := eStr) (g := eB) (z0 := false) (z := .atom (.bool false)) rfl r_3 seen2).trans (congrArg eB h6)
        rcases bifE hf2 with ⟨c6, hf2⟩ | ⟨c6, hf2⟩
        ·have o13 := (⟨rfl, rfl, rfl, rfl, ent_ok (fun _ => rfl) seen2⟩ : T.own (.opq (mapQ (entL eStr eB seen2))) = T.own (.opq (mapQ (entL eStr eB seen2))) ∧ 0 = 0 ∧ okStr (eStr r_3) = true ∧ (eB true).isD = true ∧ ∀ p ∈ entL eStr eB seen2, okStr p.1 = true)
         have o14 := put_set (f := eStr) (g := eB) r_3 true seen2
         have o15 := dM F4_ ([(r_2 ++ b__e)] : List (List Int))
         have o16 := dM F4_ ([(r_2 ++ b__e)] : List (List Int))
         obtain ⟨g1, hf2⟩ := gdE hf2
         have o17 := aL F4_ F4_ g1
         have o18 := aM F4_ out3 ([(r_2 ++ b__e)] : List (List Int))
         exact awpBack ((xUpd mt_91 52 (entL eStr eB seen2) (entL eStr eB (mset seen2 r_3 true))).or ((xLook mt_91 50 (entL eStr eB seen2)).or X0)) TTab_ok hC hm [1,9,10,11,13,27,28,29,33,34,35] 4000 [.g [], .a (eStr r_3), .a (eB val), bT, bT, .l ((out3 ++ ([(r_2 ++ b__e)] : List (List Int))).map F4_), .a (.atom (.int .i64 (((r_2 ++ b__e).length : Nat) : Int)))] J5 [(1, .d (eSl 1 false F4_ b_)), (9, .own (.opq (mapQ (entL eStr eB (mset seen2 r_3 true))))), (10, .d (I (w64 (n_2 + (((r_2 ++ b__e).length : Nat) : Int))))), (11, .own (eOs 1 false F4_ (out3 ++ ([(r_2 ++ b__e)] : List (List Int))))), (13, .d (eSl 1 false (eI .i64) a__e)), (27, .d (eSl 1 false F4_ a_)), (28, .d (I ((a_.length : Nat) : Int))), (29, .d (I x29)), (33, .d (eSl 1 false F4_ b_)), (34, .d (I ((b_.length : Nat) : Int))), (35, .d (I x35))] [ob (hasG h_tries_key), ob o10, ob o11, ob o12, ob c6, ob o13, ob o14, ob o15, ob o16, ob o17, ob o18, ob (lnM (eI .i64) (r_2 ++ b__e))] (by kernel_rfl) fun st0 h0 => hJ5 st0 _ ((mset seen2 r_3 true), w64 (n_2 + (((r_2 ++ b__e).length : Nat) : Int)), (out3 ++ ([(r_2 ++ b__e)] : List (List Int)))) hf2 h0 inferInstance
        ·exact awpBack ((xLook mt_91 50 (entL eStr eB seen2)).or X0) TTab_ok hC hm [1,9,10,11,13,27,28,29,33,34,35] 4000 [.g [], .a (eStr r_3), .a (eB val), bF] J5 [(1, .d (eSl 1 false F4_ b_)), (9, .own (.opq (mapQ (entL eStr eB seen2)))), (10, .d (I n_2)), (11, .own (eOs 1 false F4_ out3)), (13, .d (eSl 1 false (eI .i64) a__e)), (27, .d (eSl 1 false F4_ a_)), (28, .d (I ((a_.length : Nat) : Int))), (29, .d (I x29)), (33, .d (eSl 1 false F4_ b_)), (34, .d (I ((b_.length : Nat) : Int))), (35, .d (I x35))] [ob (hasG h_tries_key), ob o10, ob o11, ob o12, ob c6] (by kernel_rfl) fun st0 h0 => hJ5 st0 _ (seen2, n_2, out3) hf2 h0 inferInstance
     ·obtain rfl := someE hf2
      obtain rfl := hl2
      exact awpBack X0 TTab_ok hC hm [1,9,10,11,27,28,29] 4000 [bF] J3 [(1, .d (eSl 1 false F4_ b_)), (9, .own (.opq (mapQ (entL eStr eB seen2)))), (10, .d (I n_2)), (11, .own (eOs 1 false F4_ out3)), (27, .d (eSl 1 false F4_ a_)), (28, .d (I ((a_.length : Nat) : Int))), (29, .d (I x29))] [ob c2] (by kernel_rfl) fun st0 h0 => hJ3 st0 _ (seen2, n_2, out3) hf1 h0 inferInstance
   ·obtain rfl := someE hf1
    obtain rfl := hl1
    exact awpBack X0 TTab_ok hC hm [11] 4000 [bF] J1 [(11, .own (eOs 1 false F4_ out1))] [ob c1] (by kernel_rfl) fun st0 h0 => hJ1 st0 _ out1 hf0 h0 inferInstance
noncomputable def bd_tries_all : Code := (Try.f62.body).getD .skip
noncomputable def sp_tries_all : Spec := spF (α := Int × Int × Int) (ρ := List (List Int) × Int) 62 (fun x => [(eI .i64) x.1, (eI .i64) x.2.1, (eI .i64) x.2.2]) (fun r => .tup [F5_ r.1, (eI .i64) r.2]) (fun x => tries_all x.1 x.2.1 x.2.2) [] (by
 rintro ⟨a0, a1, a2⟩ ⟨b0, b1, b2⟩ h
 have e0 := EncI.inj (f := (eI .i64)) _ _ (List.cons.inj h).1
 replace h := (List.cons.inj h).2
 have e1 := EncI.inj (f := (eI .i64)) _ _ (List.cons.inj h).1
 replace h := (List.cons.inj h).2
 have e2 := EncI.inj (f := (eI .i64)) _ _ (List.cons.inj h).1
 subst e0 e1 e2
 rfl)
abbrev ST_tries_all_J2 (inputs : Int) (from_ : Int) (to : Int) (k_ : Int) (out1 : List (List Int)) (level1 : List (List Int)) (n_1 : Int) (x45 : Int) (x46 : Bool) (x58 : Bool) : List (Nat × T) := [(0, .d (I inputs)), (1, .d (I from_)), (2, .d (I to)), (8, .own (eOs 1 false F4_ out1)), (9, .own (eOs 1 false F4_ level1)), (10, .d (I n_1)), (11, .d (I k_)), (45, .d (I x45)), (46, .d (B x46)), (49, .d (I k_)), (50, .d (I to)), (51, .d (B (decide (k_ < to)))), (52, .d (B (decide (k_ < to)))), (58, .d (B x58))]
abbrev ST_tries_all_J5 (inputs : Int) (from_ : Int) (to : Int) (k_ : Int) (out2 : List (List Int)) (n_2 : Int) (x581 : Bool) (next : List (List Int)) : List (Nat × T) := [(0, .d (I inputs)), (1, .d (I from_)), (2, .d (I to)), (8, .own (eOs 1 false F4_ out2)), (10, .d (I n_2)), (11, .d (I k_)), (12, .own (eOs 1 false F4_ next)), (45, .d (I n_2)), (46, .d (B (decide (n_2 > 65536)))), (49, .d (I k_)), (50, .d (I to)), (51, .d (B (decide (k_ < to)))), (52, .d (B (decide (k_ < to)))), (58, .d (B x581))]
abbrev ST_tries_all_J7 (inputs : Int) (from_ : Int) (to : Int) (level : List (List Int)) (k_ : Int) (out2 : List (List Int)) (n_2 : Int) (x581 : Bool) (x69 : Int) (next2 : List (List Int)) : List (Nat × T) := [(0, .d (I inputs)), (1, .d (I from_)), (2, .d (I to)), (8, .own (eOs 1 false F4_ out2)), (9, .own (eOs 1 false F4_ level)), (10, .d (I n_2)), (11, .d (I k_)), (12, .own (eOs 1 false F4_ next2)), (45, .d (I n_2)), (46, .d (B (decide (n_2 > 65536)))), (49, .d (I k_)), (50, .d (I to)), (51, .d (B (decide (k_ < to)))), (52, .d (B (decide (k_ < to)))), (58, .d (B x581)), (67, .als 9 [] 0 0), (68, .d (I ((level.length : Nat) : Int))), (69, .d (I x69))]
abbrev ST_tries_all_L8 (inputs : Int) (from_ : Int) (to : Int) (level : List (List Int)) (k_ : Int) (out2 : List (List Int)) (n_2 : Int) (x581 : Bool) (x69 : Int) (level_e : List Int) (next3 : List (List Int)) (x74 : Int) : List (Nat × T) := [(0, .d (I inputs)), (1, .d (I from_)), (2, .d (I to)), (8, .own (eOs 1 false F4_ out2)), (9, .own (eOs 1 false F4_ level)), (10, .d (I n_2)), (11, .d (I k_)), (12, .own (eOs 1 false F4_ next3)), (14, .d (eSl 1 false (eI .i64) level_e)), (45, .d (I n_2)), (46, .d (B (decide (n_2 > 65536)))), (49, .d (I k_)), (50, .d (I to)), (51, .d (B (decide (k_ < to)))), (52, .d (B (decide (k_ < to)))), (58, .d (B x581)), (67, .als 9 [] 0 0), (68, .d (I ((level.length : Nat) : Int))), (69, .d (I x69)), (73, .d (I inputs)), (74, .d (I x74))]
abbrev ST_tries_all_L6 (inputs : Int) (from_ : Int) (to : Int) (level : List (List Int)) (k_ : Int) (out2 : List (List Int)) (n_2 : Int) (x581 : Bool) (next1 : List (List Int)) (x69 : Int) : List (Nat × T) := [(0, .d (I inputs)), (1, .d (I from_)), (2, .d (I to)), (8, .own (eOs 1 false F4_ out2)), (9, .own (eOs 1 false F4_ level)), (10, .d (I n_2)), (11, .d (I k_)), (12, .own (eOs 1 false F4_ next1)), (45, .d (I n_2)), (46, .d (B (decide (n_2 > 65536)))), (49, .d (I k_)), (50, .d (I to)), (51, .d (B (decide (k_ < to)))), (52, .d (B (decide (k_ < to)))), (58, .d (B x581)), (67, .als 9 [] 0 0), (68, .d (I ((level.length : Nat) : Int))), (69, .d (I x69))]
abbrev ST_tries_all_J4 (inputs : Int) (from_ : Int) (to : Int) (level : List (List Int)) (k_ : Int) (out2 : List (List Int)) (n_2 : Int) (x581 : Bool) : List (Nat × T) := [(0, .d (I inputs)), (1, .d (I from_)), (2, .d (I to)), (8, .own (eOs 1 false F4_ out2)), (9, .own (eOs 1 false F4_ level)), (10, .d (I n_2)), (11, .d (I k_)), (45, .d (I n_2)), (46, .d (B (decide (n_2 > 65536)))), (49, .d (I k_)), (50, .d (I to)), (51, .d (B (decide (k_ < to)))), (52, .d (B (decide (k_ < to)))), (58, .d (B x581))]
abbrev ST_tries_all_J3 (inputs : Int) (from_ : Int) (to : Int) (level : List (List Int)) (k_ : Int) (out2 : List (List Int)) (n_2 : Int) : List (Nat × T) := [(0, .d (I inputs)), (1, .d (I from_)), (2, .d (I to)), (8, .own (eOs 1 false F4_ out2)), (9, .own (eOs 1 false F4_ level)), (10, .d (I n_2)), (11, .d (I k_))]
abbrev ST_tries_all_L1 (inputs : Int) (from_ : Int) (to : Int) (out : List (List Int)) (level : List (List Int)) (n_ : Int) (k_ : Int) : List (Nat × T) := [(0, .d (I inputs)), (1, .d (I from_)), (2, .d (I to)), (8, .own (eOs 1 false F4_ out)), (9, .own (eOs 1 false F4_ level)), (10, .d (I n_)), (11, .d (I k_))]
theorem w_tries_all {ctr : Ctr} (hC : CtrOk Try.prog ctr) (hm : Try.prog.follows .mixedOrders = true) (h_tries_sorted : ctr.Has sp_tries_sorted) (h_slices_Clip_int_int : ctr.Has sp_slices_Clip_int_int) : sp_tries_all.Ok Try.prog := by
 refine spF_ok ?_
 rintro ⟨inputs, from_, to⟩ r0 hf0
 try unfold tries_all at hf0
 refine callOk_h (tt := TTab) (keep := false) (rs := [(6, none), (7, none)]) (n := ⟨88, []⟩) (body := bd_tries_all) TTab_ok Try.func62 rfl (by kernel_rfl) rfl rfl (by show (3 : Nat) ≤ 88; decide) fun E hE => ?_
 rcases bifE hf0 with ⟨c0, hf0⟩ | ⟨c0, hf0⟩
 ·have o0 := shM F4_ F4_ []
  obtain rfl := someE hf0
  exact awpEnd ((xSeal TTab_ok (.inl 83) [82]).or X0) TTab_ok hC hm hE 4000 (hs := [bT, .l ([].map F4_)]) (x := (.tup [eSl 1 true F1_ [], I 3])) [ob c0, ob o0] (by kernel_rfl) (show LeV (.tup [eSl 1 true F1_ [], I 3]) (.tup [eSl 1 true F1_ ([] : List (List Int)), I 3]) from inferInstance)
 ·rcases bifE hf0 with ⟨c1, hf0⟩ | ⟨c1, hf0⟩
  ·have o1 := shM F4_ F4_ []
   obtain rfl := someE hf0
   exact awpEnd ((xSeal TTab_ok (.inl 83) [82]).or X0) TTab_ok hC hm hE 4000 (hs := (bF :: (rpN 4 bT [.l ([].map F4_)]))) (x := (.tup [eSl 1 true F1_ [], I 1])) [ob c0, ob c1, ob c1, ob c1, oT, ob o1] (by kernel_rfl) (show LeV (.tup [eSl 1 true F1_ [], I 1]) (.tup [eSl 1 true F1_ ([] : List (List Int)), I 1]) from inferInstance)
  ·rcases bifE hf0 with ⟨c2, hf0⟩ | ⟨c2, hf0⟩
   ·have o2 := shM F4_ F4_ []
    obtain rfl := someE hf0
    exact awpEnd ((xSeal TTab_ok (.inl 83) [82]).or X0) TTab_ok hC hm hE 4000 (hs := (rpN 4 bF [bT, .l ([].map F4_)])) (x := (.tup [eSl 1 true F1_ [], I 1])) [ob c0, ob c1, ob c1, ob c1, ob c2, ob o2] (by kernel_rfl) (show LeV (.tup [eSl 1 true F1_ [], I 1]) (.tup [eSl 1 true F1_ ([] : List (List Int)), I 1]) from inferInstance)
   ·rcases bifE hf0 with ⟨c3, hf0⟩ | ⟨c3, hf0⟩
    ·have o3 := shM F4_ F4_ []
     obtain rfl := someE hf0
     exact awpEnd ((xSeal TTab_ok (.inl 83) [82]).or X0) TTab_ok hC hm hE 4000 (hs := (rpN 5 bF [bT, .l ([].map F4_)])) (x := (.tup [eSl 1 true F1_ [], I 3])) [ob c0, ob c1, ob c1, ob c1, ob c2, ob c3, ob o3] (by kernel_rfl) (show LeV (.tup [eSl 1 true F1_ [], I 3]) (.tup [eSl 1 true F1_ ([] : List (List Int)), I 3]) from inferInstance)
    ·have o4 := shM F2_ F1_ ([[]] : List (List Int))
     obtain ⟨t1, ht1, hf0⟩ := bindE hf0
     refine awpAt ((xSeal TTab_ok (.inl 83) [82]).or X0) TTab_ok hC hm [0,1,2,8,9,10,11] 4000 (rpN 6 bF [.v 5 [9], .l (([[]] : List (List Int)).map F1_)]) (sub [1,1,1,1,1,1,1,1,0] bd_tries_all) (frs [1,1,1,1,1,1,1,1,0] [] bd_tries_all []) [(0, .d (I inputs)), (1, .d (I from_)), (2, .d (I to)), (8, .own (eOs 1 true F4_ [])), (9, .own (eOs 1 true F1_ ([[]]))), (10, .d (I 0)), (11, .d (I 0))] [ob c0, ob c1, ob c1, ob c1, ob c2, ob c3, ob o4] (by kernel_rfl) fun st0 h0 => ?_
     refine awpLoop' (X := (List (List Int) × List (List Int) × Int × Int) × Nat) (c' := (sub [1,1,1,1,1,1,1,1,0,0] bd_tries_all)) (by kernel_rfl) [0,1,2,8,9,10,11] (fun x => loopN (fun s => tries_all_L1 inputs from_ to s.1 s.2.1 s.2.2.1 s.2.2.2) x.2 x.1 = some t1) (fun x => x.2) (fun x => ST_tries_all_L1 inputs from_ to x.1.1 x.1.2.1 x.1.2.2.1 x.1.2.2.2) ((([] : List (List Int)), ([[]] : List (List Int)), 0,0), fuel) _ h0 inferInstance ht1 ?_
     rintro ⟨⟨out, level, n_, k_⟩, n1⟩ hn1 J1 hJ1
     obtain ⟨m1, lr1, rfl, hf1, hl1⟩ := loopE hn1
     try unfold tries_all_L1 at hf1
     refine awpAt ((xSeal TTab_ok (.inl 83) [82]).or X0) TTab_ok hC hm [0,1,2,8,9,10,11] 4000 [.cut 0] (sub [1,1,1,1,1,1,1,1,0,0] bd_tries_all) (frs [1,1,1,1,1,1,1,1,0,0] [J1] bd_tries_all []) [(0, .d (I inputs)), (1, .d (I from_)), (2, .d (I to)), (8, .own (eOs 1 false F4_ out)), (9, .own (eOs 1 false F4_ level)), (10, .d (I n_)), (11, .d (I k_))] [] (by kernel_rfl) fun st0 h0 => ?_
     refine awpJoin' (X := List (List Int) × List (List Int) × Int × Int × Bool × Bool) (x := (sub [1,1,1,1,1,1,1,1,0,0,2] bd_tries_all)) (y := (sub [1,1,1,1,1,1,1,1,0,0,1] bd_tries_all)) (by kernel_rfl) [0,1,2,8,9,10,11,45,46,49,50,51,52,58] [0,1,2,8,9,10,11] _ h0 (fun z => tries_all_J2 k_ z.1 z.2.1 z.2.2.1 z.2.2.2.1 z.2.2.2.2.1 z.2.2.2.2.2 = some lr1) (fun z => ST_tries_all_J2 inputs from_ to k_ z.1 z.2.1 z.2.2.1 z.2.2.2.1 z.2.2.2.2.1 z.2.2.2.2.2) ?_ fun J2 hJ2 => ?_
     ·rintro ⟨out1, level1, n_1, x45, x46, x58⟩ hf1
      unfold tries_all_J2 at hf1
      obtain rfl := someE hf1
      exact awpBack ((xSeal TTab_ok (.inl 83) [82]).or X0) TTab_ok hC hm [0,1,2,8,9,10,11] 4000 [] J1 [(0, .d (I inputs)), (1, .d (I from_)), (2, .d (I to)), (8, .own (eOs 1 false F4_ out1)), (9, .own (eOs 1 false F4_ level1)), (10, .d (I n_1)), (11, .d (I (w64 (k_ + 1))))] [] (by kernel_rfl) fun st0 h0 => hJ1 st0 _ ((out1, level1, n_1, w64 (k_ + 1)), m1) hl1 (Nat.lt_succ_self m1) h0 inferInstance
     ·refine awpAt ((xSeal TTab_ok (.inl 83) [82]).or X0) TTab_ok hC hm [0,1,2,8,9,10,11] 4000 [.cut 0] (sub [1,1,1,1,1,1,1,1,0,0,2,0] bd_tries_all) (frs [1,1,1,1,1,1,1,1,0,0,2,0] [J1, J2] bd_tries_all []) [(0, .d (I inputs)), (1, .d (I from_)), (2, .d (I to)), (8, .own (eOs 1 false F4_ out)), (9, .own (eOs 1 false F4_ level)), (10, .d (I n_)), (11, .d (I k_))] [] (by kernel_rfl) fun st0 h0 => ?_
      refine awpJoin' (X := List (List Int) × Int) (x := (sub [1,1,1,1,1,1,1,1,0,0,2,0,2] bd_tries_all)) (y := (sub [1,1,1,1,1,1,1,1,0,0,2,0,1] bd_tries_all)) (by kernel_rfl) [0,1,2,8,9,10,11] [0,1,2,8,9,10,11] _ h0 (fun z => tries_all_J3 inputs to level k_ z.1 z.2 = some lr1) (fun z => ST_tries_all_J3 inputs from_ to level k_ z.1 z.2) ?_ fun J3 hJ3 => ?_
      ·rintro ⟨out2, n_2⟩ hf1
       unfold tries_all_J3 at hf1
       refine awpAt ((xSeal TTab_ok (.inl 83) [82]).or X0) TTab_ok hC hm [0,1,2,8,9,10,11] 4000 [.cut 0] (sub [1,1,1,1,1,1,1,1,0,0,2,0,1] bd_tries_all) (frs [1,1,1,1,1,1,1,1,0,0,2,0,1] [J1, J2] bd_tries_all []) [(0, .d (I inputs)), (1, .d (I from_)), (2, .d (I to)), (8, .own (eOs 1 false F4_ out2)), (9, .own (eOs 1 false F4_ level)), (10, .d (I n_2)), (11, .d (I k_))] [] (by kernel_rfl) fun st0 h0 => ?_
       refine awpJoin' (X := Bool) (x := (sub [1,1,1,1,1,1,1,1,0,0,2,0,1,2] bd_tries_all)) (y := (sub [1,1,1,1,1,1,1,1,0,0,2,0,1,1] bd_tries_all)) (by kernel_rfl) [0,1,2,8,9,10,11,45,46,49,50,51,52,58] [0,1,2,8,9,10,11] _ h0 (fun z => tries_all_J4 inputs to level k_ out2 n_2 z = some lr1) (fun z => ST_tries_all_J4 inputs from_ to level k_ out2 n_2 z) ?_ fun J4 hJ4 => ?_
       ·rintro x581 hf1
        unfold tries_all_J4 at hf1
        rcases bifE hf1 with ⟨c4, hf1⟩ | ⟨c4, hf1⟩
        ·have o5 := shM F4_ F4_ out2
         obtain ⟨r_, h0, hf1⟩ := bindE hf1
         have o6 := hasF h_tries_sorted (x := out2) h0 (loC F10_ out2 <| loN)
         have o7 := shM F4_ F4_ out2
         obtain rfl := someE hf1
         obtain rfl := hl1
         obtain rfl := someE hf0
         exact awpEnd ((xSeal TTab_ok (.inl 83) [82]).or X0) TTab_ok hC hm hE 4000 (hs := [bT, .g [], .l (out2.map F4_), .a (.tup [eSl 1 true F1_ r_.1, I r_.2]), .l (out2.map F4_)]) (x := (.tup [eSl 1 true F1_ r_.1, I r_.2])) [ob c4, ob (hasG h_tries_sorted), ob o5, ob o6, ob o7] (by kernel_rfl) (LeV.refl _)
        ·refine awpAt ((xSeal TTab_ok (.inl 83) [82]).or X0) TTab_ok hC hm [0,1,2,8,9,10,11,12,45,46,49,50,51,52,58] 4000 [bF, .cut 1] (sub [1,1,1,1,1,1,1,1,0,0,2,0,1,1,1,1] bd_tries_all) (frs [1,1,1,1,1,1,1,1,0,0,2,0,1,1,1,1] [J1, J2] bd_tries_all []) [(0, .d (I inputs)), (1, .d (I from_)), (2, .d (I to)), (8, .own (eOs 1 false F4_ out2)), (9, .own (eOs 1 false F4_ level)), (10, .d (I n_2)), (11, .d (I k_)), (12, .own (eOs 1 true F4_ [])), (45, .d (I n_2)), (46, .d (B (decide (n_2 > 65536)))), (49, .d (I k_)), (50, .d (I to)), (51, .d (B (decide (k_ < to)))), (52, .d (B (decide (k_ < to)))), (58, .d (B x581))] [ob c4] (by kernel_rfl) fun st0 h0 => ?_
         refine awpJoin' (X := List (List Int)) (x := (sub [1,1,1,1,1,1,1,1,0,0,2,0,1,1,1,1,2] bd_tries_all)) (y := (sub [1,1,1,1,1,1,1,1,0,0,2,0,1,1,1,1,1] bd_tries_all)) (by kernel_rfl) [0,1,2,8,10,11,12,45,46,49,50,51,52,58] [0,1,2,8,9,10,11,12,45,46,49,50,51,52,58] _ h0 (fun z => tries_all_J5 k_ out2 n_2 x581 z = some lr1) (fun z => ST_tries_all_J5 inputs from_ to k_ out2 n_2 x581 z) ?_ fun J5 hJ5 => ?_
         ·rintro next hf1
          unfold tries_all_J5 at hf1
          exact awpBack ((xSeal TTab_ok (.inl 83) [82]).or X0) TTab_ok hC hm [0,1,2,8,9,10,11,45,46,49,50,51,52,58] 4000 [] J2 [(0, .d (I inputs)), (1, .d (I from_)), (2, .d (I to)), (8, .own (eOs 1 false F4_ out2)), (9, .own (eOs 1 false F4_ next)), (10, .d (I n_2)), (11, .d (I k_)), (45, .d (I n_2)), (46, .d (B (decide (n_2 > 65536)))), (49, .d (I k_)), (50, .d (I to)), (51, .d (B (decide (k_ < to)))), (52, .d (B (decide (k_ < to)))), (58, .d (B x581))] [] (by kernel_rfl) fun st0 h0 => hJ2 st0 _ (out2, next, n_2, n_2, decide (n_2 > 65536), x581) hf1 h0 inferInstance
         ·obtain ⟨t6, ht6, hf1⟩ := bindE hf1
          refine awpAt ((xSeal TTab_ok (.inl 83) [82]).or X0) TTab_ok hC hm [0,1,2,8,9,10,11,12,45,46,49,50,51,52,58,67,68,69] 4000 [aLn level.length] (sub [1,1,1,1,1,1,1,1,0,0,2,0,1,1,1,1,2,1,0] bd_tries_all) (frs [1,1,1,1,1,1,1,1,0,0,2,0,1,1,1,1,2,1,0] [J1, J2, J5] bd_tries_all []) [(0, .d (I inputs)), (1, .d (I from_)), (2, .d (I to)), (8, .own (eOs 1 false F4_ out2)), (9, .own (eOs 1 false F4_ level)), (10, .d (I n_2)), (11, .d (I k_)), (12, .own (eOs 1 true F4_ [])), (45, .d (I n_2)), (46, .d (B (decide (n_2 > 65536)))), (49, .d (I k_)), (50, .d (I to)), (51, .d (B (decide (k_ < to)))), (52, .d (B (decide (k_ < to)))), (58, .d (B x581)), (67, .als 9 [] 0 0), (68, .d (I ((level.length : Nat) : Int))), (69, .d (I 0))] [ob (lnM F4_ level)] (by kernel_rfl) fun st0 h0 => ?_
          refine awpLoop' (X := (List (List Int) × Int) × Nat) (c' := (sub [1,1,1,1,1,1,1,1,0,0,2,0,1,1,1,1,2,1,0,0] bd_tries_all)) (by kernel_rfl) [0,1,2,8,9,10,11,12,45,46,49,50,51,52,58,67,68,69] (fun x => loopN (fun s => tries_all_L6 inputs level s.1 s.2) x.2 x.1 = some t6) (fun x => x.2) (fun x => ST_tries_all_L6 inputs from_ to level k_ out2 n_2 x581 x.1.1 x.1.2) ((([] : List (List Int)), 0), fuel) _ h0 inferInstance ht6 ?_
          rintro ⟨⟨next1, x69⟩, n6⟩ hn6 J6 hJ6
          obtain ⟨m6, lr2, rfl, hf2, hl2⟩ := loopE hn6
          try unfold tries_all_L6 at hf2
          rcases bifE hf2 with ⟨c5, hf2⟩ | ⟨c5, hf2⟩
          ·refine awpAt ((xSeal TTab_ok (.inl 83) [82]).or X0) TTab_ok hC hm [0,1,2,8,9,10,11,12,45,46,49,50,51,52,58,67,68,69] 4000 [bT, .cut 0] (sub [1,1,1,1,1,1,1,1,0,0,2,0,1,1,1,1,2,1,0,0,1,1] bd_tries_all) (frs [1,1,1,1,1,1,1,1,0,0,2,0,1,1,1,1,2,1,0,0,1,1] [J1, J2, J5, J6] bd_tries_all []) [(0, .d (I inputs)), (1, .d (I from_)), (2, .d (I to)), (8, .own (eOs 1 false F4_ out2)), (9, .own (eOs 1 false F4_ level)), (10, .d (I n_2)), (11, .d (I k_)), (12, .own (eOs 1 false F4_ next1)), (45, .d (I n_2)), (46, .d (B (decide (n_2 > 65536)))), (49, .d (I k_)), (50, .d (I to)), (51, .d (B (decide (k_ < to)))), (52, .d (B (decide (k_ < to)))), (58, .d (B x581)), (67, .als 9 [] 0 0), (68, .d (I ((level.length : Nat) : Int))), (69, .d (I x69))] [ob c5] (by kernel_rfl) fun st0 h0 => ?_
           refine awpJoin' (X := List (List Int)) (x := (sub [1,1,1,1,1,1,1,1,0,0,2,0,1,1,1,1,2,1,0,0,1,1,2] bd_tries_all)) (y := (sub [1,1,1,1,1,1,1,1,0,0,2,0,1,1,1,1,2,1,0,0,1,1,1] bd_tries_all)) (by kernel_rfl) [0,1,2,8,9,10,11,12,45,46,49,50,51,52,58,67,68,69] [0,1,2,8,9,10,11,12,45,46,49,50,51,52,58,67,68,69] _ h0 (fun z => tries_all_J7 x69 z = some lr2) (fun z => ST_tries_all_J7 inputs from_ to level k_ out2 n_2 x581 x69 z) ?_ fun J7 hJ7 => ?_
           ·rintro next2 hf2
            unfold tries_all_J7 at hf2
            obtain rfl := someE hf2
            exact awpBack ((xSeal TTab_ok (.inl 83) [82]).or X0) TTab_ok hC hm [0,1,2,8,9,10,11,12,45,46,49,50,51,52,58,67,68,69] 4000 [] J6 [(0, .d (I inputs)), (1, .d (I from_)), (2, .d (I to)), (8, .own (eOs 1 false F4_ out2)), (9, .own (eOs 1 false F4_ level)), (10, .d (I n_2)), (11, .d (I k_)), (12, .own (eOs 1 false F4_ next2)), (45, .d (I n_2)), (46, .d (B (decide (n_2 > 65536)))), (49, .d (I k_)), (50, .d (I to)), (51, .d (B (decide (k_ < to)))), (52, .d (B (decide (k_ < to)))), (58, .d (B x581)), (67, .als 9 [] 0 0), (68, .d (I ((level.length : Nat) : Int))), (69, .d (I (w64 (x69 + 1))))] [] (by kernel_rfl) fun st0 h0 => hJ6 st0 _ ((next2, w64 (x69 + 1)), m6) hl2 (Nat.lt_succ_self m6) h0 inferInstance
           ·obtain ⟨level_e, h1, hf2⟩ := bindE hf2
            obtain ⟨t8, ht8, hf2⟩ := bindE hf2
            refine awpAt ((xSeal TTab_ok (.inl 83) [82]).or X0) TTab_ok hC hm [0,1,2,8,9,10,11,12,14,45,46,49,50,51,52,58,67,68,69,73,74] 4000 [.a (F4_ level_e)] (sub [1,1,1,1,1,1,1,1,0,0,2,0,1,1,1,1,2,1,0,0,1,1,2,0,1,1,0] bd_tries_all) (frs [1,1,1,1,1,1,1,1,0,0,2,0,1,1,1,1,2,1,0,0,1,1,2,0,1,1,0] [J1, J2, J5, J6, J7] bd_tries_all []) [(0, .d (I inputs)), (1, .d (I from_)), (2, .d (I to)), (8, .own (eOs 1 false F4_ out2)), (9, .own (eOs 1 false F4_ level)), (10, .d (I n_2)), (11, .d (I k_)), (12, .own (eOs 1 false F4_ next1)), (14, .d (eSl 1 false (eI .i64) level_e)), (45, .d (I n_2)), (46, .d (B (decide (n_2 > 65536)))), (49, .d (I k_)), (50, .d (I to)), (51, .d (B (decide (k_ < to)))), (52, .d (B (decide (k_ < to)))), (58, .d (B x581)), (67, .als 9 [] 0 0), (68, .d (I ((level.length : Nat) : Int))), (69, .d (I x69)), (73, .d (I inputs)), (74, .d (I 0))] [ob (iL F4_ h1), ob (iM F4_ h1)] (by kernel_rfl) fun st0 h0 => ?_
            refine awpLoop' (X := (List (List Int) × Int) × Nat) (c' := (sub [1,1,1,1,1,1,1,1,0,0,2,0,1,1,1,1,2,1,0,0,1,1,2,0,1,1,0,0] bd_tries_all)) (by kernel_rfl) [0,1,2,8,9,10,11,12,14,45,46,49,50,51,52,58,67,68,69,73,74] (fun x => loopN (fun s => tries_all_L8 inputs level_e s.1 s.2) x.2 x.1 = some t8) (fun x => x.2) (fun x => ST_tries_all_L8 inputs from_ to level k_ out2 n_2 x581 x69 level_e x.1.1 x.1.2) ((next1,0), fuel) _ h0 inferInstance ht8 ?_
            rintro ⟨⟨next3, x74⟩, n8⟩ hn8 J8 hJ8
            obtain ⟨m8, lr3, rfl, hf3, hl3⟩ := loopE hn8
            try unfold tries_all_L8 at hf3
            rcases bifE hf3 with ⟨c6, hf3⟩ | ⟨c6, hf3⟩
            ·obtain ⟨r_1, h2, hf3⟩ := bindE hf3
             have o8 := hasF h_slices_Clip_int_int (x := level_e) h2 (loC F4_ level_e <| loN)
             obtain ⟨g0, hf3⟩ := gdE hf3
             have o9 := aN (eI .i64) (eI .i64) g0 (by simp)
             have o10 := aM (eI .i64) r_1 ([x74] : List Int)
             have o11 := shM (eI .i64) (eI .i64) (r_1 ++ ([x74] : List Int))
             have o12 := dM F4_ ([(r_1 ++ ([x74] : List Int))] : List (List Int))
             have o13 := dM F4_ ([(r_1 ++ ([x74] : List Int))] : List (List Int))
             obtain ⟨g1, hf3⟩ := gdE hf3
             have o14 := aL F4_ F4_ g1
             have o15 := aM F4_ next3 ([(r_1 ++ ([x74] : List Int))] : List (List Int))
             obtain rfl := someE hf3
             exact awpBack ((xSeal TTab_ok (.inl 83) [82]).or X0) TTab_ok hC hm [0,1,2,8,9,10,11,12,14,45,46,49,50,51,52,58,67,68,69,73,74] 4000 [bT, .g [], .a (F1_ r_1), bT, .l ((r_1 ++ ([x74] : List Int)).map (eI .i64)), .l ((r_1 ++ ([x74] : List Int)).map (eI .i64)), bT, .l ((next3 ++ ([(r_1 ++ ([x74] : List Int))] : List (List Int))).map F4_)] J8 [(0, .d (I inputs)), (1, .d (I from_)), (2, .d (I to)), (8, .own (eOs 1 false F4_ out2)), (9, .own (eOs 1 false F4_ level)), (10, .d (I n_2)), (11, .d (I k_)), (12, .own (eOs 1 false F4_ (next3 ++ ([(r_1 ++ ([x74] : List Int))] : List (List Int))))), (14, .d (eSl 1 false (eI .i64) level_e)), (45, .d (I n_2)), (46, .d (B (decide (n_2 > 65536)))), (49, .d (I k_)), (50, .d (I to)), (51, .d (B (decide (k_ < to)))), (52, .d (B (decide (k_ < to)))), (58, .d (B x581)), (67, .als 9 [] 0 0), (68, .d (I ((level.length : Nat) : Int))), (69, .d (I x69)), (73, .d (I inputs)), (74, .d (I (w64 (x74 + 1))))] [ob c6, ob (hasG h_slices_Clip_int_int), ob o8, ob (dM (eI .i64) ([x74] : List Int)), ob (dM (eI .i64) ([x74] : List Int)), ob o9, ob o10, ob o11, ob o12, ob o13, ob o14, ob o15] (by kernel_rfl) fun st0 h0 => hJ8 st0 _ (((next3 ++ ([(r_1 ++ ([x74] : List Int))] : List (List Int))), w64 (x74 + 1)), m8) hl3 (Nat.lt_succ_self m8) h0 inferInstance
            ·obtain rfl := someE hf3
             obtain rfl := hl3
             exact awpBack ((xSeal TTab_ok (.inl 83) [82]).or X0) TTab_ok hC hm [0,1,2,8,9,10,11,12,45,46,49,50,51,52,58,67,68,69] 4000 [bF] J7 [(0, .d (I inputs)), (1, .d (I from_)), (2, .d (I to)), (8, .own (eOs 1 false F4_ out2)), (9, .own (eOs 1 false F4_ level)), (10, .d (I n_2)), (11, .d (I k_)), (12, .own (eOs 1 false F4_ next3)), (45, .d (I n_2)), (46, .d (B (decide (n_2 > 65536)))), (49, .d (I k_)), (50, .d (I to)), (51, .d (B (decide (k_ < to)))), (52, .d (B (decide (k_ < to)))), (58, .d (B x581)), (67, .als 9 [] 0 0), (68, .d (I ((level.length : Nat) : Int))), (69, .d (I x69))] [ob c6] (by kernel_rfl) fun st0 h0 => hJ7 st0 _ next3 hf2 h0 inferInstance
          ·obtain rfl := someE hf2
           obtain rfl := hl2
           exact awpBack ((xSeal TTab_ok (.inl 83) [82]).or X0) TTab_ok hC hm [0,1,2,8,10,11,12,45,46,49,50,51,52,58] 4000 [bF] J5 [(0, .d (I inputs)), (1, .d (I from_)), (2, .d (I to)), (8, .own (eOs 1 false F4_ out2)), (10, .d (I n_2)), (11, .d (I k_)), (12, .own (eOs 1 false F4_ next1)), (45, .d (I n_2)), (46, .d (B (decide (n_2 > 65536)))), (49, .d (I k_)), (50, .d (I to)), (51, .d (B (decide (k_ < to)))), (52, .d (B (decide (k_ < to)))), (58, .d (B x581))] [ob c5] (by kernel_rfl) fun st0 h0 => hJ5 st0 _ next1 hf1 h0 inferInstance
       ·rcases bifE hf1 with ⟨c7, hf1⟩ | ⟨c7, hf1⟩
        ·have o16 := shM F4_ F4_ []
         obtain rfl := someE hf1
         obtain rfl := hl1
         obtain rfl := someE hf0
         exact awpEnd ((xSeal TTab_ok (.inl 83) [82]).or X0) TTab_ok hC hm hE 4000 (hs := (aLn out2.length :: (rpN 10 bT [.l ([].map F4_)]))) (x := (.tup [eSl 1 true F1_ [], I 3])) (ob (lnM F4_ out2) :: ob c7 :: ob c7 :: ob c7 :: (rpN 7 oT [ob o16])) (by kernel_rfl) (show LeV (.tup [eSl 1 true F1_ [], I 3]) (.tup [eSl 1 true F1_ ([] : List (List Int)), I 3]) from inferInstance)
        ·rcases bifE hf1 with ⟨c8, hf1⟩ | ⟨c8, hf1⟩
         ·have o17 := shM F4_ F4_ []
          obtain rfl := someE hf1
          obtain rfl := hl1
          obtain rfl := someE hf0
          exact awpEnd ((xSeal TTab_ok (.inl 83) [82]).or X0) TTab_ok hC hm hE 4000 (hs := (aLn out2.length :: bF :: bF :: bF :: (rpN 7 bT [.l ([].map F4_)]))) (x := (.tup [eSl 1 true F1_ [], I 3])) (ob (lnM F4_ out2) :: ob c7 :: ob c7 :: ob c7 :: (rpN 6 (ob c8) [oT, ob o17])) (by kernel_rfl) (show LeV (.tup [eSl 1 true F1_ [], I 3]) (.tup [eSl 1 true F1_ ([] : List (List Int)), I 3]) from inferInstance)
         ·rcases bifE hf1 with ⟨c9, hf1⟩ | ⟨c9, hf1⟩
          ·rcases bifE hf1 with ⟨c10, hf1⟩ | ⟨c10, hf1⟩
           ·have o18 := shM F4_ F4_ []
            obtain rfl := someE hf1
            obtain rfl := hl1
            obtain rfl := someE hf0
            exact awpEnd ((xSeal TTab_ok (.inl 83) [82]).or X0) TTab_ok hC hm hE 4000 (hs := (aLn out2.length :: (rpN 7 bF [bT, bT, aLn level.length, bT, bT, bT, bF, bT, bF, bT, .l ([].map F4_)]))) (x := (.tup [eSl 1 true F1_ [], I 3])) (ob (lnM F4_ out2) :: ob c7 :: ob c7 :: ob c7 :: (rpN 4 (ob c8) [ob c9, ob c9, ob (lnM F4_ level), ob c9, ob c9, ob c9, ob c8, ob c9, ob c8, ob c10, ob o18])) (by kernel_rfl) (show LeV (.tup [eSl 1 true F1_ [], I 3]) (.tup [eSl 1 true F1_ ([] : List (List Int)), I 3]) from inferInstance)
           ·exact awpBack ((xSeal TTab_ok (.inl 83) [82]).or X0) TTab_ok hC hm [0,1,2,8,9,10,11,45,46,49,50,51,52,58] 4000 (aLn out2.length :: (rpN 7 bF [bT, bT, aLn level.length, bT, bT, bT, bF, bT, bF, bF])) J4 [(0, .d (I inputs)), (1, .d (I from_)), (2, .d (I to)), (8, .own (eOs 1 false F4_ out2)), (9, .own (eOs 1 false F4_ level)), (10, .d (I n_2)), (11, .d (I k_)), (45, .d (I n_2)), (46, .d (B (decide (n_2 > 65536)))), (49, .d (I k_)), (50, .d (I to)), (51, .d (B (decide (k_ < to)))), (52, .d (B (decide (k_ < to)))), (58, .d (B (decide ((w64 (((level.length : Nat) : Int) * inputs)) > 4096))))] (ob (lnM F4_ out2) :: ob c7 :: ob c7 :: ob c7 :: (rpN 4 (ob c8) [ob c9, ob c9, ob (lnM F4_ level), ob c9, ob c9, ob c9, ob c8, ob c9, ob c8, ob c10])) (by kernel_rfl) fun st0 h0 => hJ4 st0 _ (decide ((w64 (((level.length : Nat) : Int) * inputs)) > 4096)) hf1 h0 inferInstance
          ·exact awpBack ((xSeal TTab_ok (.inl 83) [82]).or X0) TTab_ok hC hm [0,1,2,8,9,10,11,45,46,49,50,51,52,58] 4000 (aLn out2.length :: (rpN 16 bF [])) J4 [(0, .d (I inputs)), (1, .d (I from_)), (2, .d (I to)), (8, .own (eOs 1 false F4_ out2)), (9, .own (eOs 1 false F4_ level)), (10, .d (I n_2)), (11, .d (I k_)), (45, .d (I n_2)), (46, .d (B (decide (n_2 > 65536)))), (49, .d (I k_)), (50, .d (I to)), (51, .d (B (decide (k_ < to)))), (52, .d (B (decide (k_ < to)))), (58, .d (B false))] (ob (lnM F4_ out2) :: ob c7 :: ob c7 :: ob c7 :: (rpN 4 (ob c8) (rpN 5 (ob c9) [ob c8, ob c9, ob c8, oF]))) (by kernel_rfl) fun st0 h0 => hJ4 st0 _ false hf1 h0 inferInstance
      ·rcases bifE hf1 with ⟨c11, hf1⟩ | ⟨c11, hf1⟩
       ·obtain ⟨g2, hf1⟩ := gdE hf1
        have o19 := aL F4_ F4_ g2
        have o20 := aM F4_ out level
        exact awpBack ((xSeal TTab_ok (.inl 83) [82]).or X0) TTab_ok hC hm [0,1,2,8,9,10,11] 4000 [bT, bT, .l ((out ++ level).map F4_), aLn level.length] J3 [(0, .d (I inputs)), (1, .d (I from_)), (2, .d (I to)), (8, .own (eOs 1 false F4_ (out ++ level))), (9, .own (eOs 1 false F4_ level)), (10, .d (I (w64 (n_ + (w64 (k_ * ((level.length : Nat) : Int))))))), (11, .d (I k_))] [ob c11, ob (dM F4_ level), ob (dM F4_ level), ob o19, ob o20, ob (lnM F4_ level)] (by kernel_rfl) fun st0 h0 => hJ3 st0 _ ((out ++ level), w64 (n_ + (w64 (k_ * ((level.length : Nat) : Int))))) hf1 h0 inferInstance
       ·exact awpBack ((xSeal TTab_ok (.inl 83) [82]).or X0) TTab_ok hC hm [0,1,2,8,9,10,11] 4000 [bF] J3 [(0, .d (I inputs)), (1, .d (I from_)), (2, .d (I to)), (8, .own (eOs 1 false F4_ out)), (9, .own (eOs 1 false F4_ level)), (10, .d (I n_)), (11, .d (I k_))] [ob c11] (by kernel_rfl) fun st0 h0 => hJ3 st0 _ (out, n_) hf1 h0 inferInstance
noncomputable def bd_tries_Upto : Code := (Try.f25.body).getD .skip
noncomputable def sp_tries_Upto : Spec := spF (α := Int × Int) (ρ := List (List Int) × Int) 25 (fun x => [(eI .i64) x.1, (eI .i64) x.2]) (fun r => .tup [F5_ r.1, (eI .i64) r.2]) (fun x => tries_Upto x.1 x.2) [] (by
 rintro ⟨a0, a1⟩ ⟨b0, b1⟩ h
 have e0 := EncI.inj (f := (eI .i64)) _ _ (List.cons.inj h).1
 replace h := (List.cons.inj h).2
 have e1 := EncI.inj (f := (eI .i64)) _ _ (List.cons.inj h).1
 subst e0 e1
 rfl)
theorem w_tries_Upto {ctr : Ctr} (hC : CtrOk Try.prog ctr) (hm : Try.prog.follows .mixedOrders = true) (h_tries_all : ctr.Has sp_tries_all) : sp_tries_Upto.Ok Try.prog := by
 refine spF_ok ?_
 rintro ⟨inputs, k_⟩ r0 hf0
 try unfold tries_Upto at hf0
 refine callOk_h (tt := TTab) (keep := false) (rs := [(4, none), (5, none)]) (n := ⟨11, []⟩) (body := bd_tries_Upto) TTab_ok Try.func25 rfl (by kernel_rfl) rfl rfl (by show (2 : Nat) ≤ 11; decide) fun E hE => ?_
 obtain ⟨r_, h0, hf0⟩ := bindE hf0
 have o0 := hasF h_tries_all (x := (inputs, 0, k_)) h0 (loC (eI .i64) inputs <| loC (eI .i64) 0 <| loC (eI .i64) k_ <| loN)
 obtain rfl := someE hf0
 exact awpEnd X0 TTab_ok hC hm hE 4000 (hs := [.g [], .a (.tup [eSl 1 true F1_ r_.1, I r_.2])]) (x := (.tup [eSl 1 true F1_ r_.1, I r_.2])) [ob (hasG h_tries_all), ob o0] (by kernel_rfl) (LeV.refl _)
noncomputable def bd_tries_Exact : Code := (Try.f26.body).getD .skip
noncomputable def sp_tries_Exact : Spec := spF (α := Int × Int) (ρ := List (List Int) × Int) 26 (fun x => [(eI .i64) x.1, (eI .i64) x.2]) (fun r => .tup [F5_ r.1, (eI .i64) r.2]) (fun x => tries_Exact x.1 x.2) [] (by
 rintro ⟨a0, a1⟩ ⟨b0, b1⟩ h
 have e0 := EncI.inj (f := (eI .i64)) _ _ (List.cons.inj h).1
 replace h := (List.cons.inj h).2
 have e1 := EncI.inj (f := (eI .i64)) _ _ (List.cons.inj h).1
 subst e0 e1
 rfl)
theorem w_tries_Exact {ctr : Ctr} (hC : CtrOk Try.prog ctr) (hm : Try.prog.follows .mixedOrders = true) (h_tries_all : ctr.Has sp_tries_all) : sp_tries_Exact.Ok Try.prog := by
 refine spF_ok ?_
 rintro ⟨inputs, k_⟩ r0 hf0
 try unfold tries_Exact at hf0
 refine callOk_h (tt := TTab) (keep := false) (rs := [(4, none), (5, none)]) (n := ⟨12, []⟩) (body := bd_tries_Exact) TTab_ok Try.func26 rfl (by kernel_rfl) rfl rfl (by show (2 : Nat) ≤ 12; decide) fun E hE => ?_
 obtain ⟨r_, h0, hf0⟩ := bindE hf0
 have o0 := hasF h_tries_all (x := (inputs, k_, k_)) h0 (loC (eI .i64) inputs <| loC (eI .i64) k_ <| loC (eI .i64) k_ <| loN)
 obtain rfl := someE hf0
 exact awpEnd X0 TTab_ok hC hm hE 4000 (hs := [.g [], .a (.tup [eSl 1 true F1_ r_.1, I r_.2])]) (x := (.tup [eSl 1 true F1_ r_.1, I r_.2])) [ob (hasG h_tries_all), ob o0] (by kernel_rfl) (LeV.refl _)
noncomputable def bd_law12_lives : Code := (Try.f15.body).getD .skip
noncomputable def sp_law12_lives : Spec := spF (α := Unit) (ρ := Bool) 15 (fun x => []) (fun r => eB r) (fun x => law12_lives) [] (fun _ _ _ => rfl)
theorem w_law12_lives {ctr : Ctr} (hC : CtrOk Try.prog ctr) (hm : Try.prog.follows .mixedOrders = true) (h_law12_list : ctr.Has sp_law12_list) (h_tries_Sort : ctr.Has sp_tries_Sort) (h_tries_Reduce : ctr.Has sp_tries_Reduce) (h_tries_Prefixes : ctr.Has sp_tries_Prefixes) (h_tries_Concat : ctr.Has sp_tries_Concat) (h_law12_same : ctr.Has sp_law12_same) (h_tries_Upto : ctr.Has sp_tries_Upto) (h_tries_Exact : ctr.Has sp_tries_Exact) (h_tries_Of : ctr.Has sp_tries_Of) (h_tries_Count : ctr.Has sp_tries_Count) (h_ref12_Equal : ctr.Has sp_ref12_Equal) (h_tries_Check : ctr.Has sp_tries_Check) : sp_law12_lives.Ok Try.prog := by
 refine spF_ok ?_
 rintro ⟨⟩ r0 hf0
 try unfold law12_lives at hf0
 refine callOk_h (tt := TTab) (keep := true) (rs := [(0, none)]) (n := ⟨214, []⟩) (body := bd_law12_lives) TTab_ok Try.func15 rfl (by kernel_rfl) rfl rfl (by show (0 : Nat) ≤ 214; decide) fun E hE => ?_
 have o0 := shM F2_ F1_ ([[1,0], [1], [0], [1]])
 obtain ⟨r_, h0, hf0⟩ := bindE hf0
 have o1 := hasF h_law12_list (x := [[1,0], [1], [0], [1]]) h0 (loC F5_ ([[1,0], [1], [0], [1]] : List (List Int)) <| loN)
 have o2 := shM F2_ F1_ ([[1,0], [1], [0], [1]])
 obtain ⟨r_1, h1, hf0⟩ := bindE hf0
 have o3 := hasF h_tries_Sort (x := (r_, 2)) h1 (loC F10_ r_ <| loC (eI .i64) 2 <| loN)
 have o4 := shM F2_ F1_ ([[], [0], [1], [1,0]])
 obtain ⟨r_2, h2, hf0⟩ := bindE hf0
 have o5 := hasF h_law12_list (x := [[], [0], [1], [1,0]]) h2 (loC F5_ ([[], [0], [1], [1,0]] : List (List Int)) <| loN)
 have o6 := shM F2_ F1_ ([[], [0], [1], [1,0]])
 obtain ⟨r_3, h3, hf0⟩ := bindE hf0
 have o7 := hasF h_tries_Reduce (x := (r_2,2)) h3 (loC F10_ r_2 <| loC (eI .i64) 2 <| loN)
 have o8 := shM F2_ F1_ ([[1,0]])
 obtain ⟨r_4, h4, hf0⟩ := bindE hf0
 have o9 := hasF h_law12_list (x := [[1,0]]) h4 (loC F5_ ([[1,0]] : List (List Int)) <| loN)
 have o10 := shM F2_ F1_ ([[1,0]])
 obtain ⟨r_5, h5, hf0⟩ := bindE hf0
 have o11 := hasF h_tries_Prefixes (x := (r_4,2)) h5 (loC F10_ r_4 <| loC (eI .i64) 2 <| loN)
 have o12 := shM F2_ F1_ ([[], [0]])
 obtain ⟨r_6, h6, hf0⟩ := bindE hf0
 have o13 := hasF h_law12_list (x := [[], [0]]) h6 (loC F5_ ([[], [0]] : List (List Int)) <| loN)
 have o14 := shM F2_ F1_ ([[], [0]])
 have o15 := shM F2_ F1_ ([[0], [1]])
 obtain ⟨r_7, h7, hf0⟩ := bindE hf0
 have o16 := hasF h_law12_list (x := [[0], [1]]) h7 (loC F5_ ([[0], [1]] : List (List Int)) <| loN)
 have o17 := shM F2_ F1_ ([[0], [1]])
 obtain ⟨r_8, h8, hf0⟩ := bindE hf0
 have o18 := hasF h_tries_Concat (x := (r_6, r_7,2)) h8 (loC F10_ r_6 <| loC F10_ r_7 <| loC (eI .i64) 2 <| loN)
 refine awpAt X0 TTab_ok hC hm [1,2,3,4,5,6,7,8] 4000 [.g [], .l (([[1,0], [1], [0], [1]]).map F1_), .a (F10_ r_), .l (([[1,0], [1], [0], [1]]).map F1_), .g [], .a (.tup [eSl 1 true F1_ r_1.1, I r_1.2]), .g [], .l (([[], [0], [1], [1,0]]).map F1_), .a (F10_ r_2), .l (([[], [0], [1], [1,0]]).map F1_), .g [], .a (.tup [eSl 1 true F1_ r_3.1, I r_3.2]), .g [], .l (([[1,0]]).map F1_), .a (F10_ r_4), .l (([[1,0]]).map F1_), .g [], .a (.tup [eSl 1 true F1_ r_5.1, I r_5.2]), .g [], .l (([[], [0]]).map F1_), .a (F10_ r_6), .l (([[], [0]]).map F1_), .g [], .l (([[0], [1]]).map F1_), .a (F10_ r_7), .l (([[0], [1]]).map F1_), .g [], .a (.tup [eSl 1 true F1_ r_8.1, I r_8.2]), .cut 1] (sub [1,1,1,1,1,0] bd_law12_lives) (frs [1,1,1,1,1,0] [] bd_law12_lives []) [(1, .d (eSl 1 true F1_ r_1.1)), (2, .d (I r_1.2)), (3, .d (eSl 1 true F1_ r_3.1)), (4, .d (I r_3.2)), (5, .d (eSl 1 true F1_ r_5.1)), (6, .d (I r_5.2)), (7, .d (eSl 1 true F1_ r_8.1)), (8, .d (I r_8.2))] [ob (hasG h_law12_list), ob o0, ob o1, ob o2, ob (hasG h_tries_Sort), ob o3, ob (hasG h_law12_list), ob o4, ob o5, ob o6, ob (hasG h_tries_Reduce), ob o7, ob (hasG h_law12_list), ob o8, ob o9, ob o10, ob (hasG h_tries_Prefixes), ob o11, ob (hasG h_law12_list), ob o12, ob o13, ob o14, ob (hasG h_law12_list), ob o15, ob o16, ob o17, ob (hasG h_tries_Concat), ob o18] (by kernel_rfl) fun st0 h0 => awpOf h0 ?_
 rcases bifE hf0 with ⟨c0, hf0⟩ | ⟨c0, hf0⟩
 ·obtain rfl := someE hf0
  exact awpEnd X0 TTab_ok hC hm hE 4000 (hs := (rpN 45 bT [])) (x := (B false)) (ob c0 :: ob c0 :: ob c0 :: (rpN 42 oT [])) (by kernel_rfl) (LeV.refl _)
 ·rcases bifE hf0 with ⟨c1, hf0⟩ | ⟨c1, hf0⟩
  ·obtain rfl := someE hf0
   exact awpEnd X0 TTab_ok hC hm hE 4000 (hs := (bF :: bF :: bF :: (rpN 42 bT []))) (x := (B false)) (ob c0 :: ob c0 :: ob c0 :: ob c1 :: ob c1 :: ob c1 :: (rpN 39 oT [])) (by kernel_rfl) (LeV.refl _)
  ·rcases bifE hf0 with ⟨c2, hf0⟩ | ⟨c2, hf0⟩
   ·obtain rfl := someE hf0
    exact awpEnd X0 TTab_ok hC hm hE 4000 (hs := (rpN 6 bF (rpN 39 bT []))) (x := (B false)) (ob c0 :: ob c0 :: ob c0 :: ob c1 :: ob c1 :: ob c1 :: ob c2 :: ob c2 :: ob c2 :: (rpN 36 oT [])) (by kernel_rfl) (LeV.refl _)
   ·rcases bifE hf0 with ⟨c3, hf0⟩ | ⟨c3, hf0⟩
    ·obtain rfl := someE hf0
     exact awpEnd X0 TTab_ok hC hm hE 4000 (hs := (rpN 9 bF (rpN 36 bT []))) (x := (B false)) (ob c0 :: ob c0 :: ob c0 :: ob c1 :: ob c1 :: ob c1 :: ob c2 :: ob c2 :: ob c2 :: (rpN 9 (ob c3) (rpN 27 oT []))) (by kernel_rfl) (LeV.refl _)
    ·have o19 := shM F2_ F1_ ([[0], [1], [1,0]])
     obtain ⟨r_9, h9, hf0⟩ := bindE hf0
     have o20 := hasF h_law12_list (x := [[0], [1], [1,0]]) h9 (loC F5_ ([[0], [1], [1,0]] : List (List Int)) <| loN)
     have o21 := shM F2_ F1_ ([[0], [1], [1,0]])
     obtain ⟨r_10, h10, hf0⟩ := bindE hf0
     have o22 := tabC_at (f := .fn 16 []) (xs := [F5_ r_1.1, F10_ r_9]) (ls := []) (r := B r_10) (ys := []) [F5_ r_1.1, F10_ r_9] (show LeTs [F5_ r_1.1, F10_ r_9] [F5_ r_1.1, F10_ r_9] from inferInstance)
     rcases bifE hf0 with ⟨c4, hf0⟩ | ⟨c4, hf0⟩
     ·obtain rfl := someE hf0
      exact awpEnd ((xLend (P := Try.prog) TTab [] (lentCall (hasCall hC h_law12_same (x := (r_1.1, r_9)) h10)) 72).or X0) TTab_ok hC hm hE 4000 (hs := (rpN 15 bF (.g [] :: .l (([[0], [1], [1,0]]).map F1_) :: .a (F10_ r_9) :: .l (([[0], [1], [1,0]]).map F1_) :: bF :: bF :: bF :: (rpN 27 bT [])))) (x := (B false)) (ob c0 :: ob c0 :: ob c0 :: ob c1 :: ob c1 :: ob c1 :: ob c2 :: ob c2 :: ob c2 :: (rpN 6 (ob c3) (ob (hasG h_law12_list) :: ob o19 :: ob o20 :: ob o21 :: ob c3 :: ob o22 :: ob c3 :: ob c3 :: (rpN 8 (ob c4) (rpN 19 oT []))))) (by kernel_rfl) (LeV.refl _)
     ·have o23 := shM F2_ F1_ ([[0], [1,0]])
      obtain ⟨r_11, h11, hf0⟩ := bindE hf0
      have o24 := hasF h_law12_list (x := [[0], [1,0]]) h11 (loC F5_ ([[0], [1,0]] : List (List Int)) <| loN)
      have o25 := shM F2_ F1_ ([[0], [1,0]])
      obtain ⟨r_12, h12, hf0⟩ := bindE hf0
      have o26 := tabC_at (f := .fn 16 []) (xs := [F5_ r_3.1, F10_ r_11]) (ls := []) (r := B r_12) (ys := []) [F5_ r_3.1, F10_ r_11] (show LeTs [F5_ r_3.1, F10_ r_11] [F5_ r_3.1, F10_ r_11] from inferInstance)
      rcases bifE hf0 with ⟨c5, hf0⟩ | ⟨c5, hf0⟩
      ·obtain rfl := someE hf0
       exact awpEnd ((xLend (P := Try.prog) TTab [] (lentCall (hasCall hC h_law12_same (x := (r_3.1, r_11)) h12)) 81).or ((xLend (P := Try.prog) TTab [] (lentCall (hasCall hC h_law12_same (x := (r_1.1, r_9)) h10)) 72).or X0)) TTab_ok hC hm hE 4000 (hs := (rpN 15 bF (.g [] :: .l (([[0], [1], [1,0]]).map F1_) :: .a (F10_ r_9) :: .l (([[0], [1], [1,0]]).map F1_) :: (rpN 8 bF (.g [] :: .l (([[0], [1,0]]).map F1_) :: .a (F10_ r_11) :: .l (([[0], [1,0]]).map F1_) :: bF :: bF :: bF :: (rpN 19 bT [])))))) (x := (B false)) (ob c0 :: ob c0 :: ob c0 :: ob c1 :: ob c1 :: ob c1 :: ob c2 :: ob c2 :: ob c2 :: (rpN 6 (ob c3) (ob (hasG h_law12_list) :: ob o19 :: ob o20 :: ob o21 :: ob c3 :: ob o22 :: ob c3 :: ob c3 :: (rpN 5 (ob c4) (ob (hasG h_law12_list) :: ob o23 :: ob o24 :: ob o25 :: ob c4 :: ob o26 :: ob c4 :: ob c4 :: (rpN 8 (ob c5) (rpN 11 oT []))))))) (by kernel_rfl) (LeV.refl _)
      ·have o27 := shM F2_ F1_ ([[], [1], [1,0]])
       obtain ⟨r_13, h13, hf0⟩ := bindE hf0
       have o28 := hasF h_law12_list (x := [[], [1], [1,0]]) h13 (loC F5_ ([[], [1], [1,0]] : List (List Int)) <| loN)
       have o29 := shM F2_ F1_ ([[], [1], [1,0]])
       obtain ⟨r_14, h14, hf0⟩ := bindE hf0
       have o30 := tabC_at (f := .fn 16 []) (xs := [F5_ r_5.1, F10_ r_13]) (ls := []) (r := B r_14) (ys := []) [F5_ r_5.1, F10_ r_13] (show LeTs [F5_ r_5.1, F10_ r_13] [F5_ r_5.1, F10_ r_13] from inferInstance)
       rcases bifE hf0 with ⟨c6, hf0⟩ | ⟨c6, hf0⟩
       ·obtain rfl := someE hf0
        exact awpEnd ((xLend (P := Try.prog) TTab [] (lentCall (hasCall hC h_law12_same (x := (r_5.1, r_13)) h14)) 90).or ((xLend (P := Try.prog) TTab [] (lentCall (hasCall hC h_law12_same (x := (r_3.1, r_11)) h12)) 81).or ((xLend (P := Try.prog) TTab [] (lentCall (hasCall hC h_law12_same (x := (r_1.1, r_9)) h10)) 72).or X0))) TTab_ok hC hm hE 4000 (hs := (rpN 15 bF (.g [] :: .l (([[0], [1], [1,0]]).map F1_) :: .a (F10_ r_9) :: .l (([[0], [1], [1,0]]).map F1_) :: (rpN 8 bF (.g [] :: .l (([[0], [1,0]]).map F1_) :: .a (F10_ r_11) :: .l (([[0], [1,0]]).map F1_) :: (rpN 8 bF (.g [] :: .l (([[], [1], [1,0]]).map F1_) :: .a (F10_ r_13) :: .l (([[], [1], [1,0]]).map F1_) :: bF :: bF :: bF :: (rpN 11 bT [])))))))) (x := (B false)) (ob c0 :: ob c0 :: ob c0 :: ob c1 :: ob c1 :: ob c1 :: ob c2 :: ob c2 :: ob c2 :: (rpN 6 (ob c3) (ob (hasG h_law12_list) :: ob o19 :: ob o20 :: ob o21 :: ob c3 :: ob o22 :: ob c3 :: ob c3 :: (rpN 5 (ob c4) (ob (hasG h_law12_list) :: ob o23 :: ob o24 :: ob o25 :: ob c4 :: ob o26 :: ob c4 :: ob c4 :: (rpN 5 (ob c5) (ob (hasG h_law12_list) :: ob o27 :: ob o28 :: ob o29 :: ob c5 :: ob o30 :: ob c5 :: ob c5 :: (rpN 10 (ob c6) [oT])))))))) (by kernel_rfl) (LeV.refl _)
       ·have o31 := shM F2_ F1_ ([[0], [1], [0,0], [0,1]])
        obtain ⟨r_15, h15, hf0⟩ := bindE hf0
        have o32 := hasF h_law12_list (x := [[0], [1], [0,0], [0,1]]) h15 (loC F5_ ([[0], [1], [0,0], [0,1]] : List (List Int)) <| loN)
        have o33 := shM F2_ F1_ ([[0], [1], [0,0], [0,1]])
        obtain ⟨r_16, h16, hf0⟩ := bindE hf0
        have o34 := tabC_at (f := .fn 16 []) (xs := [F5_ r_8.1, F10_ r_15]) (ls := []) (r := B r_16) (ys := []) [F5_ r_8.1, F10_ r_15] (show LeTs [F5_ r_8.1, F10_ r_15] [F5_ r_8.1, F10_ r_15] from inferInstance)
        rcases bifE hf0 with ⟨c7, hf0⟩ | ⟨c7, hf0⟩
        ·obtain rfl := someE hf0
         exact awpEnd ((xLend (P := Try.prog) TTab [] (lentCall (hasCall hC h_law12_same (x := (r_8.1, r_15)) h16)) 101).or ((xLend (P := Try.prog) TTab [] (lentCall (hasCall hC h_law12_same (x := (r_5.1, r_13)) h14)) 90).or ((xLend (P := Try.prog) TTab [] (lentCall (hasCall hC h_law12_same (x := (r_3.1, r_11)) h12)) 81).or ((xLend (P := Try.prog) TTab [] (lentCall (hasCall hC h_law12_same (x := (r_1.1, r_9)) h10)) 72).or X0)))) TTab_ok hC hm hE 4000 (hs := (rpN 15 bF (.g [] :: .l (([[0], [1], [1,0]]).map F1_) :: .a (F10_ r_9) :: .l (([[0], [1], [1,0]]).map F1_) :: (rpN 8 bF (.g [] :: .l (([[0], [1,0]]).map F1_) :: .a (F10_ r_11) :: .l (([[0], [1,0]]).map F1_) :: (rpN 8 bF (.g [] :: .l (([[], [1], [1,0]]).map F1_) :: .a (F10_ r_13) :: .l (([[], [1], [1,0]]).map F1_) :: (rpN 10 bF [.g [], .l (([[0], [1], [0,0], [0,1]]).map F1_), .a (F10_ r_15), .l (([[0], [1], [0,0], [0,1]]).map F1_), bF, bF, bF, bT])))))))) (x := (B false)) (ob c0 :: ob c0 :: ob c0 :: ob c1 :: ob c1 :: ob c1 :: ob c2 :: ob c2 :: ob c2 :: (rpN 6 (ob c3) (ob (hasG h_law12_list) :: ob o19 :: ob o20 :: ob o21 :: ob c3 :: ob o22 :: ob c3 :: ob c3 :: (rpN 5 (ob c4) (ob (hasG h_law12_list) :: ob o23 :: ob o24 :: ob o25 :: ob c4 :: ob o26 :: ob c4 :: ob c4 :: (rpN 5 (ob c5) (ob (hasG h_law12_list) :: ob o27 :: ob o28 :: ob o29 :: ob c5 :: ob o30 :: ob c5 :: ob c5 :: (rpN 7 (ob c6) [ob (hasG h_law12_list), ob o31, ob o32, ob o33, ob c6, ob o34, ob c6, ob c6, ob c7])))))))) (by kernel_rfl) (LeV.refl _)
        ·obtain ⟨r_17, h17, hf0⟩ := bindE hf0
         have o35 := hasF h_tries_Upto (x := (2,1)) h17 (loC (eI .i64) 2 <| loC (eI .i64) 1 <| loN)
         obtain ⟨r_18, h18, hf0⟩ := bindE hf0
         have o36 := hasF h_tries_Exact (x := (2,2)) h18 (loC (eI .i64) 2 <| loC (eI .i64) 2 <| loN)
         obtain ⟨r_19, h19, hf0⟩ := bindE hf0
         have o37 := hasF h_tries_Upto (x := (2,12)) h19 (loC (eI .i64) 2 <| loC (eI .i64) 12 <| loN)
         have o38 := shM F2_ F1_ ([[0], [1,0]])
         obtain ⟨r_20, h20, hf0⟩ := bindE hf0
         have o39 := hasF h_law12_list (x := [[0], [1,0]]) h20 (loC F5_ ([[0], [1,0]] : List (List Int)) <| loN)
         have o40 := shM F2_ F1_ ([[0], [1,0]])
         obtain ⟨r_21, h21, hf0⟩ := bindE hf0
         have o41 := hasF h_tries_Of (x := (r_20,2)) h21 (loC F10_ r_20 <| loC (eI .i64) 2 <| loN)
         obtain ⟨r_22, h22, hf0⟩ := bindE hf0
         have o42 := hasF h_tries_Count (x := r_21.1) h22 (loC F23_ r_21.1 <| loN)
         refine awpAt ((xLend (P := Try.prog) TTab [] (lentCall (hasCall hC h_law12_same (x := (r_8.1, r_15)) h16)) 101).or ((xLend (P := Try.prog) TTab [] (lentCall (hasCall hC h_law12_same (x := (r_5.1, r_13)) h14)) 90).or ((xLend (P := Try.prog) TTab [] (lentCall (hasCall hC h_law12_same (x := (r_3.1, r_11)) h12)) 81).or ((xLend (P := Try.prog) TTab [] (lentCall (hasCall hC h_law12_same (x := (r_1.1, r_9)) h10)) 72).or X0)))) TTab_ok hC hm [1,2,3,4,6,8,9,10,11,13] 4000 (rpN 15 bF (.g [] :: .l (([[0], [1], [1,0]]).map F1_) :: .a (F10_ r_9) :: .l (([[0], [1], [1,0]]).map F1_) :: (rpN 8 bF (.g [] :: .l (([[0], [1,0]]).map F1_) :: .a (F10_ r_11) :: .l (([[0], [1,0]]).map F1_) :: (rpN 8 bF (.g [] :: .l (([[], [1], [1,0]]).map F1_) :: .a (F10_ r_13) :: .l (([[], [1], [1,0]]).map F1_) :: (rpN 10 bF (.g [] :: .l (([[0], [1], [0,0], [0,1]]).map F1_) :: .a (F10_ r_15) :: .l (([[0], [1], [0,0], [0,1]]).map F1_) :: (rpN 4 bF [.g [], .a (.tup [eSl 1 true F1_ r_17.1, I r_17.2]), .g [], .a (.tup [eSl 1 true F1_ r_18.1, I r_18.2]), .g [], .a (.tup [eSl 1 true F1_ r_19.1, I r_19.2]), .g [], .l (([[0], [1,0]]).map F1_), .a (F10_ r_20), .l (([[0], [1,0]]).map F1_), .g [], .a (.tup [.agg [I r_21.1.Inputs, eSl 2 true F13_ r_21.1.Nodes], I r_21.2]), .g [], .a (.tup [I r_22.1, I r_22.2]), .cut 3]))))))))) (sub [1,1,1,1,1,1,1,1,1,1,1,1,1,0] bd_law12_lives) (frs [1,1,1,1,1,1,1,1,1,1,1,1,1,0] [] bd_law12_lives []) [(1, .d (eSl 1 true F1_ r_17.1)), (2, .d (I r_17.2)), (3, .d (eSl 1 true F1_ r_18.1)), (4, .d (I r_18.2)), (6, .d (I r_19.2)), (8, .d (I r_21.2)), (9, .own (.box (F23_ r_21.1))), (10, .d (I r_22.1)), (11, .d (I r_22.2)), (13, .own (.box (.agg [I 2, eOs 2 true F11_ ([(S_tries_Node.mk ([1,2]) false), (S_tries_Node.mk ([(-1), (-1)]) true), (S_tries_Node.mk ([3, (-1)]) false), (S_tries_Node.mk ([(-1), (-1)]) true)])])))] (ob c0 :: ob c0 :: ob c0 :: ob c1 :: ob c1 :: ob c1 :: ob c2 :: ob c2 :: ob c2 :: (rpN 6 (ob c3) (ob (hasG h_law12_list) :: ob o19 :: ob o20 :: ob o21 :: ob c3 :: ob o22 :: ob c3 :: ob c3 :: (rpN 5 (ob c4) (ob (hasG h_law12_list) :: ob o23 :: ob o24 :: ob o25 :: ob c4 :: ob o26 :: ob c4 :: ob c4 :: (rpN 5 (ob c5) (ob (hasG h_law12_list) :: ob o27 :: ob o28 :: ob o29 :: ob c5 :: ob o30 :: ob c5 :: ob c5 :: (rpN 7 (ob c6) [ob (hasG h_law12_list), ob o31, ob o32, ob o33, ob c6, ob o34, ob c6, ob c6, ob c7, ob (hasG h_tries_Upto), ob o35, ob (hasG h_tries_Exact), ob o36, ob (hasG h_tries_Upto), ob o37, ob (hasG h_law12_list), ob o38, ob o39, ob o40, ob (hasG h_tries_Of), ob o41, ob (hasG h_tries_Count), ob o42])))))))) (by kernel_rfl) fun st0 h0 => awpOf h0 ?_
         rcases bifE hf0 with ⟨c8, hf0⟩ | ⟨c8, hf0⟩
         ·obtain rfl := someE hf0
          exact awpEnd X0 TTab_ok hC hm hE 4000 (hs := (rpN 39 bT [])) (x := (B false)) (ob c8 :: ob c8 :: ob c8 :: (rpN 36 oT [])) (by kernel_rfl) (LeV.refl _)
         ·rcases bifE hf0 with ⟨c9, hf0⟩ | ⟨c9, hf0⟩
          ·obtain rfl := someE hf0
           exact awpEnd X0 TTab_ok hC hm hE 4000 (hs := (bF :: bF :: bF :: (rpN 36 bT []))) (x := (B false)) (ob c8 :: ob c8 :: ob c8 :: ob c9 :: ob c9 :: ob c9 :: (rpN 33 oT [])) (by kernel_rfl) (LeV.refl _)
          ·rcases bifE hf0 with ⟨c10, hf0⟩ | ⟨c10, hf0⟩
           ·obtain rfl := someE hf0
            exact awpEnd X0 TTab_ok hC hm hE 4000 (hs := (rpN 6 bF (rpN 33 bT []))) (x := (B false)) (ob c8 :: ob c8 :: ob c8 :: ob c9 :: ob c9 :: ob c9 :: ob c10 :: ob c10 :: ob c10 :: (rpN 30 oT [])) (by kernel_rfl) (LeV.refl _)
           ·rcases bifE hf0 with ⟨c11, hf0⟩ | ⟨c11, hf0⟩
            ·obtain rfl := someE hf0
             exact awpEnd X0 TTab_ok hC hm hE 4000 (hs := (rpN 9 bF (rpN 30 bT []))) (x := (B false)) (ob c8 :: ob c8 :: ob c8 :: ob c9 :: ob c9 :: ob c9 :: ob c10 :: ob c10 :: ob c10 :: ob c11 :: ob c11 :: ob c11 :: (rpN 27 oT [])) (by kernel_rfl) (LeV.refl _)
            ·rcases bifE hf0 with ⟨c12, hf0⟩ | ⟨c12, hf0⟩
             ·obtain rfl := someE hf0
              exact awpEnd X0 TTab_ok hC hm hE 4000 (hs := (rpN 12 bF (rpN 27 bT []))) (x := (B false)) (ob c8 :: ob c8 :: ob c8 :: ob c9 :: ob c9 :: ob c9 :: ob c10 :: ob c10 :: ob c10 :: ob c11 :: ob c11 :: ob c11 :: ob c12 :: ob c12 :: ob c12 :: (rpN 24 oT [])) (by kernel_rfl) (LeV.refl _)
             ·rcases bifE hf0 with ⟨c13, hf0⟩ | ⟨c13, hf0⟩
              ·obtain rfl := someE hf0
               exact awpEnd X0 TTab_ok hC hm hE 4000 (hs := (rpN 15 bF (rpN 24 bT []))) (x := (B false)) (ob c8 :: ob c8 :: ob c8 :: ob c9 :: ob c9 :: ob c9 :: ob c10 :: ob c10 :: ob c10 :: ob c11 :: ob c11 :: ob c11 :: ob c12 :: ob c12 :: ob c12 :: (rpN 8 (ob c13) (rpN 16 oT []))) (by kernel_rfl) (LeV.refl _)
              ·have o43 := shM F2_ F1_ ([[], [0], [1]])
               obtain ⟨r_23, h23, hf0⟩ := bindE hf0
               have o44 := hasF h_law12_list (x := [[], [0], [1]]) h23 (loC F5_ ([[], [0], [1]] : List (List Int)) <| loN)
               have o45 := shM F2_ F1_ ([[], [0], [1]])
               obtain ⟨r_24, h24, hf0⟩ := bindE hf0
               have o46 := tabC_at (f := .fn 16 []) (xs := [F5_ r_17.1, F10_ r_23]) (ls := []) (r := B r_24) (ys := []) [F5_ r_17.1, F10_ r_23] (show LeTs [F5_ r_17.1, F10_ r_23] [F5_ r_17.1, F10_ r_23] from inferInstance)
               rcases bifE hf0 with ⟨c14, hf0⟩ | ⟨c14, hf0⟩
               ·obtain rfl := someE hf0
                exact awpEnd ((xLend (P := Try.prog) TTab [] (lentCall (hasCall hC h_law12_same (x := (r_17.1, r_23)) h24)) 172).or X0) TTab_ok hC hm hE 4000 (hs := (rpN 20 bF (.g [] :: .l (([[], [0], [1]]).map F1_) :: .a (F10_ r_23) :: .l (([[], [0], [1]]).map F1_) :: bF :: bF :: bF :: (rpN 16 bT [])))) (x := (B false)) (ob c8 :: ob c8 :: ob c8 :: ob c9 :: ob c9 :: ob c9 :: ob c10 :: ob c10 :: ob c10 :: ob c11 :: ob c11 :: ob c11 :: ob c12 :: ob c12 :: ob c12 :: (rpN 5 (ob c13) (ob (hasG h_law12_list) :: ob o43 :: ob o44 :: ob o45 :: ob c13 :: ob o46 :: ob c13 :: ob c13 :: (rpN 10 (ob c14) (rpN 6 oT []))))) (by kernel_rfl) (LeV.refl _)
               ·have o47 := shM F2_ F1_ ([[0,0], [0,1], [1,0], [1,1]])
                obtain ⟨r_25, h25, hf0⟩ := bindE hf0
                have o48 := hasF h_law12_list (x := [[0,0], [0,1], [1,0], [1,1]]) h25 (loC F5_ ([[0,0], [0,1], [1,0], [1,1]] : List (List Int)) <| loN)
                have o49 := shM F2_ F1_ ([[0,0], [0,1], [1,0], [1,1]])
                obtain ⟨r_26, h26, hf0⟩ := bindE hf0
                have o50 := tabC_at (f := .fn 16 []) (xs := [F5_ r_18.1, F10_ r_25]) (ls := []) (r := B r_26) (ys := []) [F5_ r_18.1, F10_ r_25] (show LeTs [F5_ r_18.1, F10_ r_25] [F5_ r_18.1, F10_ r_25] from inferInstance)
                rcases bifE hf0 with ⟨c15, hf0⟩ | ⟨c15, hf0⟩
                ·obtain rfl := someE hf0
                 exact awpEnd ((xLend (P := Try.prog) TTab [] (lentCall (hasCall hC h_law12_same (x := (r_18.1, r_25)) h26)) 183).or ((xLend (P := Try.prog) TTab [] (lentCall (hasCall hC h_law12_same (x := (r_17.1, r_23)) h24)) 172).or X0)) TTab_ok hC hm hE 4000 (hs := (rpN 20 bF (.g [] :: .l (([[], [0], [1]]).map F1_) :: .a (F10_ r_23) :: .l (([[], [0], [1]]).map F1_) :: (rpN 10 bF (.g [] :: .l (([[0,0], [0,1], [1,0], [1,1]]).map F1_) :: .a (F10_ r_25) :: .l (([[0,0], [0,1], [1,0], [1,1]]).map F1_) :: bF :: bF :: bF :: (rpN 6 bT [])))))) (x := (B false)) (ob c8 :: ob c8 :: ob c8 :: ob c9 :: ob c9 :: ob c9 :: ob c10 :: ob c10 :: ob c10 :: ob c11 :: ob c11 :: ob c11 :: ob c12 :: ob c12 :: ob c12 :: (rpN 5 (ob c13) (ob (hasG h_law12_list) :: ob o43 :: ob o44 :: ob o45 :: ob c13 :: ob o46 :: ob c13 :: ob c13 :: (rpN 7 (ob c14) (ob (hasG h_law12_list) :: ob o47 :: ob o48 :: ob o49 :: ob c14 :: ob o50 :: ob c14 :: ob c14 :: (rpN 5 (ob c15) [oT])))))) (by kernel_rfl) (LeV.refl _)
                ·have o51 := shM F11_ F12_ ([(S_tries_Node.mk ([1,2]) false), (S_tries_Node.mk ([(-1), (-1)]) true), (S_tries_Node.mk ([3, (-1)]) false), (S_tries_Node.mk ([(-1), (-1)]) true)])
                 obtain ⟨r_27, h27, hf0⟩ := bindE hf0
                 have o52 := hasF h_ref12_Equal (x := (r_21.1, (S_tries_Trie.mk 2 ([(S_tries_Node.mk ([1,2]) false), (S_tries_Node.mk ([(-1), (-1)]) true), (S_tries_Node.mk ([3, (-1)]) false), (S_tries_Node.mk ([(-1), (-1)]) true)])))) h27 (loC F23_ r_21.1 <| loC (e_tries_Trie (eI .i64) (eSl 2 true F12_)) (S_tries_Trie.mk 2 ([(S_tries_Node.mk ([1,2]) false), (S_tries_Node.mk ([(-1), (-1)]) true), (S_tries_Node.mk ([3, (-1)]) false), (S_tries_Node.mk ([(-1), (-1)]) true)])) <| loN)
                 rcases bifE hf0 with ⟨c16, hf0⟩ | ⟨c16, hf0⟩
                 ·obtain rfl := someE hf0
                  exact awpEnd ((xLend (P := Try.prog) TTab [] (lentCall (hasCall hC h_law12_same (x := (r_18.1, r_25)) h26)) 183).or ((xLend (P := Try.prog) TTab [] (lentCall (hasCall hC h_law12_same (x := (r_17.1, r_23)) h24)) 172).or X0)) TTab_ok hC hm hE 4000 (hs := (rpN 20 bF (.g [] :: .l (([[], [0], [1]]).map F1_) :: .a (F10_ r_23) :: .l (([[], [0], [1]]).map F1_) :: (rpN 10 bF (.g [] :: .l (([[0,0], [0,1], [1,0], [1,1]]).map F1_) :: .a (F10_ r_25) :: .l (([[0,0], [0,1], [1,0], [1,1]]).map F1_) :: (rpN 6 bF [.g [], .l (([(S_tries_Node.mk ([1,2]) false), (S_tries_Node.mk ([(-1), (-1)]) true), (S_tries_Node.mk ([3, (-1)]) false), (S_tries_Node.mk ([(-1), (-1)]) true)]).map F12_), .a (eB r_27), bF, bF, bT])))))) (x := (B false)) (ob c8 :: ob c8 :: ob c8 :: ob c9 :: ob c9 :: ob c9 :: ob c10 :: ob c10 :: ob c10 :: ob c11 :: ob c11 :: ob c11 :: ob c12 :: ob c12 :: ob c12 :: (rpN 5 (ob c13) (ob (hasG h_law12_list) :: ob o43 :: ob o44 :: ob o45 :: ob c13 :: ob o46 :: ob c13 :: ob c13 :: (rpN 7 (ob c14) [ob (hasG h_law12_list), ob o47, ob o48, ob o49, ob c14, ob o50, ob c14, ob c14, ob c15, ob c15, ob c15, ob (hasG h_ref12_Equal), ob o51, ob o52, ob c15, ob c15, ob c16])))) (by kernel_rfl) (LeV.refl _)
                 ·have o53 := shM F2_ F1_ ([[1], [0]])
                  obtain ⟨r_28, h28, hf0⟩ := bindE hf0
                  have o54 := hasF h_law12_list (x := [[1], [0]]) h28 (loC F5_ ([[1], [0]] : List (List Int)) <| loN)
                  have o55 := shM F2_ F1_ ([[1], [0]])
                  obtain ⟨r_29, h29, hf0⟩ := bindE hf0
                  have o56 := hasF h_tries_Check (x := (r_28,2)) h29 (loC F10_ r_28 <| loC (eI .i64) 2 <| loN)
                  rcases bifE hf0 with ⟨c17, hf0⟩ | ⟨c17, hf0⟩
                  ·have o57 := shM F2_ F1_ ([[0], [2]])
                   obtain ⟨r_30, h30, hf0⟩ := bindE hf0
                   have o58 := hasF h_law12_list (x := [[0], [2]]) h30 (loC F5_ ([[0], [2]] : List (List Int)) <| loN)
                   have o59 := shM F2_ F1_ ([[0], [2]])
                   obtain ⟨r_31, h31, hf0⟩ := bindE hf0
                   have o60 := hasF h_tries_Check (x := (r_30,2)) h31 (loC F10_ r_30 <| loC (eI .i64) 2 <| loN)
                   rcases bifE hf0 with ⟨c18, hf0⟩ | ⟨c18, hf0⟩
                   ·obtain ⟨r_32, h32, hf0⟩ := bindE hf0
                    have o61 := hasF h_tries_Check (x := ([], 0)) h32 (loC (eSl 1 true F4_) ([] : List (List Int)) <| loC (eI .i64) 0 <| loN)
                    rcases bifE hf0 with ⟨c19, hf0⟩ | ⟨c19, hf0⟩
                    ·obtain ⟨r_33, h33, hf0⟩ := bindE hf0
                     have o62 := hasF h_tries_Check (x := ([], 17)) h33 (loC (eSl 1 true F4_) ([] : List (List Int)) <| loC (eI .i64) 17 <| loN)
                     obtain rfl := someE hf0
                     exact awpEnd ((xLend (P := Try.prog) TTab [] (lentCall (hasCall hC h_law12_same (x := (r_18.1, r_25)) h26)) 183).or ((xLend (P := Try.prog) TTab [] (lentCall (hasCall hC h_law12_same (x := (r_17.1, r_23)) h24)) 172).or X0)) TTab_ok hC hm hE 4000 (hs := (rpN 20 bF (.g [] :: .l (([[], [0], [1]]).map F1_) :: .a (F10_ r_23) :: .l (([[], [0], [1]]).map F1_) :: (rpN 10 bF (.g [] :: .l (([[0,0], [0,1], [1,0], [1,1]]).map F1_) :: .a (F10_ r_25) :: .l (([[0,0], [0,1], [1,0], [1,1]]).map F1_) :: (rpN 6 bF (.g [] :: .l (([(S_tries_Node.mk ([1,2]) false), (S_tries_Node.mk ([(-1), (-1)]) true), (S_tries_Node.mk ([3, (-1)]) false), (S_tries_Node.mk ([(-1), (-1)]) true)]).map F12_) :: .a (eB r_27) :: bF :: bF :: bF :: .g [] :: .l (([[1], [0]]).map F1_) :: .a (F10_ r_28) :: .l (([[1], [0]]).map F1_) :: .g [] :: .a ((eI .i64) r_29) :: (rpN 4 bT [.g [], .l (([[0], [2]]).map F1_), .a (F10_ r_30), .l (([[0], [2]]).map F1_), bT, .g [], .a ((eI .i64) r_31), bT, bT, bT, .g [], .a ((eI .i64) r_32), bT, bT, bT, .g [], .a ((eI .i64) r_33), bT, bT])))))))) (x := (B (r_33 == 3))) (ob c8 :: ob c8 :: ob c8 :: ob c9 :: ob c9 :: ob c9 :: ob c10 :: ob c10 :: ob c10 :: ob c11 :: ob c11 :: ob c11 :: ob c12 :: ob c12 :: ob c12 :: (rpN 5 (ob c13) (ob (hasG h_law12_list) :: ob o43 :: ob o44 :: ob o45 :: ob c13 :: ob o46 :: ob c13 :: ob c13 :: (rpN 7 (ob c14) (ob (hasG h_law12_list) :: ob o47 :: ob o48 :: ob o49 :: ob c14 :: ob o50 :: ob c14 :: ob c14 :: ob c15 :: ob c15 :: ob c15 :: ob (hasG h_ref12_Equal) :: ob o51 :: ob o52 :: ob c15 :: ob c15 :: ob c16 :: ob (hasG h_law12_list) :: ob o53 :: ob o54 :: ob o55 :: ob (hasG h_tries_Check) :: ob o56 :: (rpN 4 (ob c17) [ob (hasG h_law12_list), ob o57, ob o58, ob o59, ob c17, ob (hasG h_tries_Check), ob o60, ob c17, ob c17, ob c18, ob (hasG h_tries_Check), ob o61, ob c18, ob c18, ob c19, ob (hasG h_tries_Check), ob o62, ob c19, ob c19])))))) (by kernel_rfl) (LeV.refl _)
                    ·obtain rfl := someE hf0
                     exact awpEnd ((xLend (P := Try.prog) TTab [] (lentCall (hasCall hC h_law12_same (x := (r_18.1, r_25)) h26)) 183).or ((xLend (P := Try.prog) TTab [] (lentCall (hasCall hC h_law12_same (x := (r_17.1, r_23)) h24)) 172).or X0)) TTab_ok hC hm hE 4000 (hs := (rpN 20 bF (.g [] :: .l (([[], [0], [1]]).map F1_) :: .a (F10_ r_23) :: .l (([[], [0], [1]]).map F1_) :: (rpN 10 bF (.g [] :: .l (([[0,0], [0,1], [1,0], [1,1]]).map F1_) :: .a (F10_ r_25) :: .l (([[0,0], [0,1], [1,0], [1,1]]).map F1_) :: (rpN 6 bF (.g [] :: .l (([(S_tries_Node.mk ([1,2]) false), (S_tries_Node.mk ([(-1), (-1)]) true), (S_tries_Node.mk ([3, (-1)]) false), (S_tries_Node.mk ([(-1), (-1)]) true)]).map F12_) :: .a (eB r_27) :: bF :: bF :: bF :: .g [] :: .l (([[1], [0]]).map F1_) :: .a (F10_ r_28) :: .l (([[1], [0]]).map F1_) :: .g [] :: .a ((eI .i64) r_29) :: (rpN 4 bT [.g [], .l (([[0], [2]]).map F1_), .a (F10_ r_30), .l (([[0], [2]]).map F1_), bT, .g [], .a ((eI .i64) r_31), bT, bT, bT, .g [], .a ((eI .i64) r_32), bT, bT, bF, bF, bF])))))))) (x := (B false)) (ob c8 :: ob c8 :: ob c8 :: ob c9 :: ob c9 :: ob c9 :: ob c10 :: ob c10 :: ob c10 :: ob c11 :: ob c11 :: ob c11 :: ob c12 :: ob c12 :: ob c12 :: (rpN 5 (ob c13) (ob (hasG h_law12_list) :: ob o43 :: ob o44 :: ob o45 :: ob c13 :: ob o46 :: ob c13 :: ob c13 :: (rpN 7 (ob c14) (ob (hasG h_law12_list) :: ob o47 :: ob o48 :: ob o49 :: ob c14 :: ob o50 :: ob c14 :: ob c14 :: ob c15 :: ob c15 :: ob c15 :: ob (hasG h_ref12_Equal) :: ob o51 :: ob o52 :: ob c15 :: ob c15 :: ob c16 :: ob (hasG h_law12_list) :: ob o53 :: ob o54 :: ob o55 :: ob (hasG h_tries_Check) :: ob o56 :: (rpN 4 (ob c17) [ob (hasG h_law12_list), ob o57, ob o58, ob o59, ob c17, ob (hasG h_tries_Check), ob o60, ob c17, ob c17, ob c18, ob (hasG h_tries_Check), ob o61, ob c18, ob c18, ob c19, ob c19, ob c19])))))) (by kernel_rfl) (LeV.refl _)
                   ·obtain rfl := someE hf0
                    exact awpEnd ((xLend (P := Try.prog) TTab [] (lentCall (hasCall hC h_law12_same (x := (r_18.1, r_25)) h26)) 183).or ((xLend (P := Try.prog) TTab [] (lentCall (hasCall hC h_law12_same (x := (r_17.1, r_23)) h24)) 172).or X0)) TTab_ok hC hm hE 4000 (hs := (rpN 20 bF (.g [] :: .l (([[], [0], [1]]).map F1_) :: .a (F10_ r_23) :: .l (([[], [0], [1]]).map F1_) :: (rpN 10 bF (.g [] :: .l (([[0,0], [0,1], [1,0], [1,1]]).map F1_) :: .a (F10_ r_25) :: .l (([[0,0], [0,1], [1,0], [1,1]]).map F1_) :: (rpN 6 bF (.g [] :: .l (([(S_tries_Node.mk ([1,2]) false), (S_tries_Node.mk ([(-1), (-1)]) true), (S_tries_Node.mk ([3, (-1)]) false), (S_tries_Node.mk ([(-1), (-1)]) true)]).map F12_) :: .a (eB r_27) :: bF :: bF :: bF :: .g [] :: .l (([[1], [0]]).map F1_) :: .a (F10_ r_28) :: .l (([[1], [0]]).map F1_) :: .g [] :: .a ((eI .i64) r_29) :: (rpN 4 bT (.g [] :: .l (([[0], [2]]).map F1_) :: .a (F10_ r_30) :: .l (([[0], [2]]).map F1_) :: bT :: .g [] :: .a ((eI .i64) r_31) :: bT :: bT :: (rpN 6 bF [])))))))))) (x := (B false)) (ob c8 :: ob c8 :: ob c8 :: ob c9 :: ob c9 :: ob c9 :: ob c10 :: ob c10 :: ob c10 :: ob c11 :: ob c11 :: ob c11 :: ob c12 :: ob c12 :: ob c12 :: (rpN 5 (ob c13) (ob (hasG h_law12_list) :: ob o43 :: ob o44 :: ob o45 :: ob c13 :: ob o46 :: ob c13 :: ob c13 :: (rpN 7 (ob c14) (ob (hasG h_law12_list) :: ob o47 :: ob o48 :: ob o49 :: ob c14 :: ob o50 :: ob c14 :: ob c14 :: ob c15 :: ob c15 :: ob c15 :: ob (hasG h_ref12_Equal) :: ob o51 :: ob o52 :: ob c15 :: ob c15 :: ob c16 :: ob (hasG h_law12_list) :: ob o53 :: ob o54 :: ob o55 :: ob (hasG h_tries_Check) :: ob o56 :: (rpN 4 (ob c17) [ob (hasG h_law12_list), ob o57, ob o58, ob o59, ob c17, ob (hasG h_tries_Check), ob o60, ob c17, ob c17, ob c18, ob c18, ob c18, oF, oF, oF])))))) (by kernel_rfl) (LeV.refl _)
                  ·obtain rfl := someE hf0
                   exact awpEnd ((xLend (P := Try.prog) TTab [] (lentCall (hasCall hC h_law12_same (x := (r_18.1, r_25)) h26)) 183).or ((xLend (P := Try.prog) TTab [] (lentCall (hasCall hC h_law12_same (x := (r_17.1, r_23)) h24)) 172).or X0)) TTab_ok hC hm hE 4000 (hs := (rpN 20 bF (.g [] :: .l (([[], [0], [1]]).map F1_) :: .a (F10_ r_23) :: .l (([[], [0], [1]]).map F1_) :: (rpN 10 bF (.g [] :: .l (([[0,0], [0,1], [1,0], [1,1]]).map F1_) :: .a (F10_ r_25) :: .l (([[0,0], [0,1], [1,0], [1,1]]).map F1_) :: (rpN 6 bF (.g [] :: .l (([(S_tries_Node.mk ([1,2]) false), (S_tries_Node.mk ([(-1), (-1)]) true), (S_tries_Node.mk ([3, (-1)]) false), (S_tries_Node.mk ([(-1), (-1)]) true)]).map F12_) :: .a (eB r_27) :: bF :: bF :: bF :: .g [] :: .l (([[1], [0]]).map F1_) :: .a (F10_ r_28) :: .l (([[1], [0]]).map F1_) :: .g [] :: .a ((eI .i64) r_29) :: (rpN 13 bF [])))))))) (x := (B false)) (ob c8 :: ob c8 :: ob c8 :: ob c9 :: ob c9 :: ob c9 :: ob c10 :: ob c10 :: ob c10 :: ob c11 :: ob c11 :: ob c11 :: ob c12 :: ob c12 :: ob c12 :: (rpN 5 (ob c13) (ob (hasG h_law12_list) :: ob o43 :: ob o44 :: ob o45 :: ob c13 :: ob o46 :: ob c13 :: ob c13 :: (rpN 7 (ob c14) (ob (hasG h_law12_list) :: ob o47 :: ob o48 :: ob o49 :: ob c14 :: ob o50 :: ob c14 :: ob c14 :: ob c15 :: ob c15 :: ob c15 :: ob (hasG h_ref12_Equal) :: ob o51 :: ob o52 :: ob c15 :: ob c15 :: ob c16 :: ob (hasG h_law12_list) :: ob o53 :: ob o54 :: ob o55 :: ob (hasG h_tries_Check) :: ob o56 :: (rpN 7 (ob c17) (rpN 6 oF []))))))) (by kernel_rfl) (LeV.refl _)
noncomputable def bd_law12_TriesTrie : Code := (Try.f6.body).getD .skip
noncomputable def sp_law12_TriesTrie : Spec := spF (α := S_law12_L) (ρ := Bool) 6 (fun x => [F21_ x]) (fun r => eB r) (fun x => law12_TriesTrie x) [] (by
 rintro a0 b0 h
 have e0 := EncI.inj (f := F21_) _ _ (List.cons.inj h).1
 subst e0
 rfl)
theorem w_law12_TriesTrie {ctr : Ctr} (hC : CtrOk Try.prog ctr) (hm : Try.prog.follows .mixedOrders = true) (h_law12_L_Of : ctr.Has sp_law12_L_Of) (h_law12_L_Alphabet : ctr.Has sp_law12_L_Alphabet) (h_tries_Of : ctr.Has sp_tries_Of) (h_ref12_Trie : ctr.Has sp_ref12_Trie) (h_ref12_Equal : ctr.Has sp_ref12_Equal) (h_tries_Words : ctr.Has sp_tries_Words) (h_tries_Count : ctr.Has sp_tries_Count) (h_law12_same : ctr.Has sp_law12_same) (h_ref12_Reduce : ctr.Has sp_ref12_Reduce) (h_law12_lives : ctr.Has sp_law12_lives) : sp_law12_TriesTrie.Ok Try.prog := by
 refine spF_ok ?_
 rintro x_ r0 hf0
 try unfold law12_TriesTrie at hf0
 refine callOk_h (tt := TTab) (keep := true) (rs := [(2, none)]) (n := ⟨76, []⟩) (body := bd_law12_TriesTrie) TTab_ok Try.func6 rfl (by kernel_rfl) rfl rfl (by show (1 : Nat) ≤ 76; decide) fun E hE => ?_
 obtain ⟨r_, h0, hf0⟩ := bindE hf0
 have o0 := hasF h_law12_L_Of (x := x_) h0 (loC F21_ x_ <| loN)
 obtain ⟨g0, hf0⟩ := gdE hf0
 have o1 := cuM F4_ r_ (mn ((r_.length : Nat) : Int) 20)
 obtain ⟨r_1, h1, hf0⟩ := bindE hf0
 have o2 := hasF h_law12_L_Alphabet (x := x_) h1 (loC F21_ x_ <| loN)
 have o3 := shM F4_ F4_ (r_.take (mn ((r_.length : Nat) : Int) 20).toNat)
 obtain ⟨r_2, h2, hf0⟩ := bindE hf0
 have o4 := hasF h_tries_Of (x := ((r_.take (mn ((r_.length : Nat) : Int) 20).toNat), r_1)) h2 (loC F10_ (r_.take (mn ((r_.length : Nat) : Int) 20).toNat) <| loC (eI .i64) r_1 <| loN)
 have o5 := shM F4_ F4_ (r_.take (mn ((r_.length : Nat) : Int) 20).toNat)
 rcases bifE hf0 with ⟨c0, hf0⟩ | ⟨c0, hf0⟩
 ·obtain rfl := someE hf0
  exact awpEnd ((xCut TTab_ok 17).or X0) TTab_ok hC hm hE 4000 (hs := (.g [] :: .a (F9_ r_) :: aLn r_.length :: .l ((r_.take (mn ((r_.length : Nat) : Int) 20).toNat).map F4_) :: .g [] :: .a ((eI .i64) r_1) :: .g [] :: .l ((r_.take (mn ((r_.length : Nat) : Int) 20).toNat).map F4_) :: .a (.tup [.agg [I r_2.1.Inputs, eSl 2 true F13_ r_2.1.Nodes], I r_2.2]) :: .l ((r_.take (mn ((r_.length : Nat) : Int) 20).toNat).map F4_) :: (rpN 16 bT []))) (x := (B false)) (ob (hasG h_law12_L_Of) :: ob o0 :: ob (lnM F4_ r_) :: ob (g0.1) :: ob (cuB F4_ g0) :: ob o1 :: ob (hasG h_law12_L_Alphabet) :: ob o2 :: ob (hasG h_tries_Of) :: ob o3 :: ob o4 :: ob o5 :: (rpN 7 (ob c0) (rpN 9 oT []))) (by kernel_rfl) (LeV.refl _)
 ·obtain ⟨r_3, h3, hf0⟩ := bindE hf0
  have o6 := hasF h_ref12_Trie (x := ((r_.take (mn ((r_.length : Nat) : Int) 20).toNat), r_1)) h3 (loC F10_ (r_.take (mn ((r_.length : Nat) : Int) 20).toNat) <| loC (eI .i64) r_1 <| loN)
  obtain ⟨r_4, h4, hf0⟩ := bindE hf0
  have o7 := hasF h_ref12_Equal (x := (r_2.1, r_3)) h4 (loC F23_ r_2.1 <| loC F24_ r_3 <| loN)
  rcases bifE hf0 with ⟨c1, hf0⟩ | ⟨c1, hf0⟩
  ·obtain rfl := someE hf0
   exact awpEnd ((xCut TTab_ok 17).or X0) TTab_ok hC hm hE 4000 (hs := (.g [] :: .a (F9_ r_) :: aLn r_.length :: .l ((r_.take (mn ((r_.length : Nat) : Int) 20).toNat).map F4_) :: .g [] :: .a ((eI .i64) r_1) :: .g [] :: .l ((r_.take (mn ((r_.length : Nat) : Int) 20).toNat).map F4_) :: .a (.tup [.agg [I r_2.1.Inputs, eSl 2 true F13_ r_2.1.Nodes], I r_2.2]) :: .l ((r_.take (mn ((r_.length : Nat) : Int) 20).toNat).map F4_) :: (rpN 4 bF (.g [] :: .a (F24_ r_3) :: bF :: .g [] :: .a (eB r_4) :: bF :: bF :: (rpN 9 bT []))))) (x := (B false)) (ob (hasG h_law12_L_Of) :: ob o0 :: ob (lnM F4_ r_) :: ob (g0.1) :: ob (cuB F4_ g0) :: ob o1 :: ob (hasG h_law12_L_Alphabet) :: ob o2 :: ob (hasG h_tries_Of) :: ob o3 :: ob o4 :: ob o5 :: (rpN 4 (ob c0) (ob (hasG h_ref12_Trie) :: ob o6 :: ob c0 :: ob (hasG h_ref12_Equal) :: ob o7 :: ob c0 :: ob c0 :: (rpN 8 (ob c1) [oT])))) (by kernel_rfl) (LeV.refl _)
  ·have o8 := lnM F13_ r_2.1.Nodes
   have o9 := lnM F13_ r_2.1.Nodes
   rcases bifE hf0 with ⟨c2, hf0⟩ | ⟨c2, hf0⟩
   ·obtain rfl := someE hf0
    exact awpEnd ((xCut TTab_ok 17).or X0) TTab_ok hC hm hE 4000 (hs := (.g [] :: .a (F9_ r_) :: aLn r_.length :: .l ((r_.take (mn ((r_.length : Nat) : Int) 20).toNat).map F4_) :: .g [] :: .a ((eI .i64) r_1) :: .g [] :: .l ((r_.take (mn ((r_.length : Nat) : Int) 20).toNat).map F4_) :: .a (.tup [.agg [I r_2.1.Inputs, eSl 2 true F13_ r_2.1.Nodes], I r_2.2]) :: .l ((r_.take (mn ((r_.length : Nat) : Int) 20).toNat).map F4_) :: (rpN 4 bF (.g [] :: .a (F24_ r_3) :: bF :: .g [] :: .a (eB r_4) :: (rpN 5 bF [aLn r_2.1.Nodes.length, bF, bF, bF, aLn r_2.1.Nodes.length, bF, bF, bT]))))) (x := (B false)) (ob (hasG h_law12_L_Of) :: ob o0 :: ob (lnM F4_ r_) :: ob (g0.1) :: ob (cuB F4_ g0) :: ob o1 :: ob (hasG h_law12_L_Alphabet) :: ob o2 :: ob (hasG h_tries_Of) :: ob o3 :: ob o4 :: ob o5 :: (rpN 4 (ob c0) [ob (hasG h_ref12_Trie), ob o6, ob c0, ob (hasG h_ref12_Equal), ob o7, ob c0, ob c0, ob c1, ob c1, ob c1, ob o8, ob c1, ob c1, ob c1, ob o9, ob c1, ob c1, ob c2])) (by kernel_rfl) (LeV.refl _)
   ·obtain ⟨r_5, h5, hf0⟩ := bindE hf0
    have o10 := hasF h_tries_Words (x := r_2.1) h5 (loC F23_ r_2.1 <| loN)
    obtain ⟨r_6, h6, hf0⟩ := bindE hf0
    have o11 := hasF h_tries_Count (x := r_2.1) h6 (loC F23_ r_2.1 <| loN)
    refine awpAt ((xCut TTab_ok 17).or X0) TTab_ok hC hm [3,7,8,9,10] 4000 (.g [] :: .a (F9_ r_) :: aLn r_.length :: .l ((r_.take (mn ((r_.length : Nat) : Int) 20).toNat).map F4_) :: .g [] :: .a ((eI .i64) r_1) :: .g [] :: .l ((r_.take (mn ((r_.length : Nat) : Int) 20).toNat).map F4_) :: .a (.tup [.agg [I r_2.1.Inputs, eSl 2 true F13_ r_2.1.Nodes], I r_2.2]) :: .l ((r_.take (mn ((r_.length : Nat) : Int) 20).toNat).map F4_) :: (rpN 4 bF (.g [] :: .a (F24_ r_3) :: bF :: .g [] :: .a (eB r_4) :: (rpN 5 bF [aLn r_2.1.Nodes.length, bF, bF, bF, aLn r_2.1.Nodes.length, bF, bF, bF, .g [], .a (.tup [eSl 1 true F1_ r_5.1, I r_5.2]), .g [], .a (.tup [I r_6.1, I r_6.2]), .cut 0])))) (sub [1,1,1,1,1,1,1,1] bd_law12_TriesTrie) (frs [1,1,1,1,1,1,1,1] [] bd_law12_TriesTrie []) [(3, .d (eSl 1 false F4_ (r_.take (mn ((r_.length : Nat) : Int) 20).toNat))), (7, .d (eSl 1 true F1_ r_5.1)), (8, .d (I r_5.2)), (9, .d (I r_6.1)), (10, .d (I r_6.2))] (ob (hasG h_law12_L_Of) :: ob o0 :: ob (lnM F4_ r_) :: ob (g0.1) :: ob (cuB F4_ g0) :: ob o1 :: ob (hasG h_law12_L_Alphabet) :: ob o2 :: ob (hasG h_tries_Of) :: ob o3 :: ob o4 :: ob o5 :: (rpN 4 (ob c0) [ob (hasG h_ref12_Trie), ob o6, ob c0, ob (hasG h_ref12_Equal), ob o7, ob c0, ob c0, ob c1, ob c1, ob c1, ob o8, ob c1, ob c1, ob c1, ob o9, ob c1, ob c1, ob c2, ob (hasG h_tries_Words), ob o10, ob (hasG h_tries_Count), ob o11])) (by kernel_rfl) fun st0 h0 => awpOf h0 ?_
    rcases bifE hf0 with ⟨c3, hf0⟩ | ⟨c3, hf0⟩
    ·rcases bifE hf0 with ⟨c4, hf0⟩ | ⟨c4, hf0⟩
     ·obtain ⟨r_7, h7, hf0⟩ := bindE hf0
      have o12 := tabC_at (f := .fn 16 []) (xs := [F5_ r_5.1, F10_ (r_.take (mn ((r_.length : Nat) : Int) 20).toNat)]) (ls := []) (r := B r_7) (ys := []) [F5_ r_5.1, F10_ (r_.take (mn ((r_.length : Nat) : Int) 20).toNat)] (show LeTs [F5_ r_5.1, F10_ (r_.take (mn ((r_.length : Nat) : Int) 20).toNat)] [F5_ r_5.1, F10_ (r_.take (mn ((r_.length : Nat) : Int) 20).toNat)] from inferInstance)
      rcases bifE hf0 with ⟨c5, hf0⟩ | ⟨c5, hf0⟩
      ·obtain ⟨r_8, h8, hf0⟩ := bindE hf0
       have o13 := hasF h_ref12_Reduce (x := (r_.take (mn ((r_.length : Nat) : Int) 20).toNat)) h8 (loC F10_ (r_.take (mn ((r_.length : Nat) : Int) 20).toNat) <| loN)
       rcases bifE hf0 with ⟨c6, hf0⟩ | ⟨c6, hf0⟩
       ·obtain ⟨r_9, h9, hf0⟩ := bindE hf0
        have o14 := hasF h_law12_lives (x := ()) h9 (loN)
        obtain rfl := someE hf0
        exact awpEnd ((xLend (P := Try.prog) TTab [] (lentCall (hasCall hC h_law12_same (x := (r_5.1, (r_.take (mn ((r_.length : Nat) : Int) 20).toNat))) h7)) 64).or ((xCut TTab_ok 17).or X0)) TTab_ok hC hm hE 4000 (hs := (rpN 10 bT [.g [], .a (F9_ r_8), bT, aLn r_8.length, bT, bT, bT, .g [], .a (eB r_9), bT])) (x := (B r_9)) [ob c3, ob c3, ob c3, ob c4, ob c4, ob c4, ob o12, ob c4, ob c5, ob c5, ob c5, ob (hasG h_ref12_Reduce), ob o13, ob c5, ob (lnM F4_ r_8), ob c5, ob c5, ob c6, ob (hasG h_law12_lives), ob o14, ob c6] (by kernel_rfl) (LeV.refl _)
       ·obtain rfl := someE hf0
        exact awpEnd ((xLend (P := Try.prog) TTab [] (lentCall (hasCall hC h_law12_same (x := (r_5.1, (r_.take (mn ((r_.length : Nat) : Int) 20).toNat))) h7)) 64).or ((xCut TTab_ok 17).or X0)) TTab_ok hC hm hE 4000 (hs := (rpN 10 bT [.g [], .a (F9_ r_8), bT, aLn r_8.length, bT, bT, bF, bF])) (x := (B false)) [ob c3, ob c3, ob c3, ob c4, ob c4, ob c4, ob o12, ob c4, ob c5, ob c5, ob c5, ob (hasG h_ref12_Reduce), ob o13, ob c5, ob (lnM F4_ r_8), ob c5, ob c5, ob c6, ob c6] (by kernel_rfl) (LeV.refl _)
      ·obtain rfl := someE hf0
       exact awpEnd ((xLend (P := Try.prog) TTab [] (lentCall (hasCall hC h_law12_same (x := (r_5.1, (r_.take (mn ((r_.length : Nat) : Int) 20).toNat))) h7)) 64).or ((xCut TTab_ok 17).or X0)) TTab_ok hC hm hE 4000 (hs := (rpN 7 bT (rpN 8 bF []))) (x := (B false)) (ob c3 :: ob c3 :: ob c3 :: ob c4 :: ob c4 :: ob c4 :: ob o12 :: ob c4 :: (rpN 6 (ob c5) [oF, oF])) (by kernel_rfl) (LeV.refl _)
     ·obtain rfl := someE hf0
      exact awpEnd ((xCut TTab_ok 17).or X0) TTab_ok hC hm hE 4000 (hs := (bT :: bT :: bT :: (rpN 12 bF []))) (x := (B false)) (ob c3 :: ob c3 :: ob c3 :: (rpN 4 (ob c4) (rpN 8 oF []))) (by kernel_rfl) (LeV.refl _)
    ·obtain rfl := someE hf0
     exact awpEnd ((xCut TTab_ok 17).or X0) TTab_ok hC hm hE 4000 (hs := (rpN 15 bF [])) (x := (B false)) (ob c3 :: ob c3 :: ob c3 :: (rpN 12 oF [])) (by kernel_rfl) (LeV.refl _)
end Go.Own

namespace Go.Own
open Go.Proofs
set_option linter.unusedVariables false
theorem ks_ne {l : List Spec} {s : Spec} (h : ((l.map Spec.k).contains s.k) = false) : ∀ t ∈ l, t.k ≠ s.k := by
 intro t ht e
 have : (l.map Spec.k).contains s.k = true := by
  rw [List.contains_iff_mem, ← e]
  exact List.mem_map_of_mem ht
 rw [h] at this
 cases this
theorem has_at {l : List Spec} {c : Ctr} (H : ∀ t ∈ l, c.Has t) (i : Nat) {s : Spec} (h : l[i]? = some s) : c.Has s := H _ (List.mem_of_getElem? h)
theorem orders : Try.prog.follows .mixedOrders = true := by kernel_rfl
noncomputable def L0 : List Spec := sp_law12_L_Alphabet :: []
noncomputable def L1 : List Spec := sp_law12_L_Raw :: L0
noncomputable def L2 : List Spec := sp_ref12_compare :: L1
noncomputable def L3 : List Spec := sp_ref12_put :: L2
noncomputable def L4 : List Spec := sp_ref12_Sort :: L3
noncomputable def L5 : List Spec := sp_law12_L_Of :: L4
noncomputable def L6 : List Spec := sp_words_Check_1 :: L5
noncomputable def L7 : List Spec := sp_slices_IndexFunc_int_int :: L6
noncomputable def L8 : List Spec := sp_slices_ContainsFunc_int_int :: L7
noncomputable def L9 : List Spec := sp_words_Check :: L8
noncomputable def L10 : List Spec := sp_tries_loose :: L9
noncomputable def L11 : List Spec := sp_cmp_isNaN_int :: L10
noncomputable def L12 : List Spec := sp_cmp_Compare_int :: L11
noncomputable def L13 : List Spec := sp_slices_Compare_int_int :: L12
noncomputable def L14 : List Spec := sp_cmp_Or_int :: L13
noncomputable def L15 : List Spec := sp_words_Compare :: L14
noncomputable def L16 : List Spec := sp_tries_ahead :: L15
noncomputable def L17 : List Spec := sp_tries_steps :: L16
noncomputable def L18 : List Spec := sp_tries_Check :: L17
noncomputable def L19 : List Spec := sp_tries_of :: L18
noncomputable def L20 : List Spec := sp_tries_walk :: L19
noncomputable def L21 : List Spec := sp_slices_Clip_int_int :: L20
noncomputable def L22 : List Spec := sp_slices_Clip_tries_Node_tries_Node :: L21
noncomputable def L23 : List Spec := sp_tries_builder_ordered :: L22
noncomputable def L24 : List Spec := sp_tries_Of :: L23
noncomputable def L25 : List Spec := sp_ref12_Prefixes :: L24
noncomputable def L26 : List Spec := sp_ref12_Has :: L25
noncomputable def L27 : List Spec := sp_ref12_Trie :: L26
noncomputable def L28 : List Spec := sp_ref12_Equal :: L27
noncomputable def L29 : List Spec := sp_tries_tree :: L28
noncomputable def L30 : List Spec := sp_tries_leaf_1 :: L29
noncomputable def L31 : List Spec := sp_tries_leaf :: L30
noncomputable def L32 : List Spec := sp_slices_Clone_int_int :: L31
noncomputable def L33 : List Spec := sp_tries_Words :: L32
noncomputable def L34 : List Spec := sp_tries_Count :: L33
noncomputable def L35 : List Spec := sp_ref12_Same :: L34
noncomputable def L36 : List Spec := sp_law12_same :: L35
noncomputable def L37 : List Spec := sp_ref12_prefix :: L36
noncomputable def L38 : List Spec := sp_ref12_Reduce :: L37
noncomputable def L39 : List Spec := sp_law12_list :: L38
noncomputable def L40 : List Spec := sp_slices_CloneW_int_int :: L39
noncomputable def L41 : List Spec := sp_tries_sorted_1 :: L40
noncomputable def L42 : List Spec := sp_slices_CompactFuncW_int_int :: L41
noncomputable def L43 : List Spec := sp_tries_sorted :: L42
noncomputable def L44 : List Spec := sp_tries_Sort :: L43
noncomputable def L45 : List Spec := sp_tries_collect :: L44
noncomputable def L46 : List Spec := sp_tries_Reduce :: L45
noncomputable def L47 : List Spec := sp_tries_Prefixes_1 :: L46
noncomputable def L48 : List Spec := sp_tries_valid :: L47
noncomputable def L49 : List Spec := sp_tries_Prefixes :: L48
noncomputable def L50 : List Spec := sp_tries_both :: L49
noncomputable def L51 : List Spec := sp_tries_key :: L50
noncomputable def L52 : List Spec := sp_tries_Concat :: L51
noncomputable def L53 : List Spec := sp_tries_all :: L52
noncomputable def L54 : List Spec := sp_tries_Upto :: L53
noncomputable def L55 : List Spec := sp_tries_Exact :: L54
noncomputable def L56 : List Spec := sp_law12_lives :: L55
noncomputable def L57 : List Spec := sp_law12_TriesTrie :: L56
theorem L0_ok : SpecsOk Try.prog L0 := ⟨fun _ hC H => w_law12_L_Alphabet hC orders, ks_ne (by kernel_rfl), trivial⟩
theorem L1_ok : SpecsOk Try.prog L1 := ⟨fun _ hC H => w_law12_L_Raw hC orders (has_at H 0 rfl), ks_ne (by kernel_rfl), L0_ok⟩
theorem L2_ok : SpecsOk Try.prog L2 := ⟨fun _ hC H => w_ref12_compare hC orders, ks_ne (by kernel_rfl), L1_ok⟩
theorem L3_ok : SpecsOk Try.prog L3 := ⟨fun _ hC H => w_ref12_put hC orders (has_at H 0 rfl), ks_ne (by kernel_rfl), L2_ok⟩
theorem L4_ok : SpecsOk Try.prog L4 := ⟨fun _ hC H => w_ref12_Sort hC orders (has_at H 0 rfl), ks_ne (by kernel_rfl), L3_ok⟩
theorem L5_ok : SpecsOk Try.prog L5 := ⟨fun _ hC H => w_law12_L_Of hC orders (has_at H 3 rfl) (has_at H 0 rfl), ks_ne (by kernel_rfl), L4_ok⟩
theorem L6_ok : SpecsOk Try.prog L6 := ⟨fun _ hC H => w_words_Check_1 hC orders, ks_ne (by kernel_rfl), L5_ok⟩
theorem L7_ok : SpecsOk Try.prog L7 := ⟨fun _ hC H => w_slices_IndexFunc_int_int hC orders (has_at H 0 rfl), ks_ne (by kernel_rfl), L6_ok⟩
theorem L8_ok : SpecsOk Try.prog L8 := ⟨fun _ hC H => w_slices_ContainsFunc_int_int hC orders (has_at H 0 rfl), ks_ne (by kernel_rfl), L7_ok⟩
theorem L9_ok : SpecsOk Try.prog L9 := ⟨fun _ hC H => w_words_Check hC orders (has_at H 0 rfl), ks_ne (by kernel_rfl), L8_ok⟩
theorem L10_ok : SpecsOk Try.prog L10 := ⟨fun _ hC H => w_tries_loose hC orders (has_at H 0 rfl), ks_ne (by kernel_rfl), L9_ok⟩
theorem L11_ok : SpecsOk Try.prog L11 := ⟨fun _ hC H => w_cmp_isNaN_int hC orders, ks_ne (by kernel_rfl), L10_ok⟩
theorem L12_ok : SpecsOk Try.prog L12 := ⟨fun _ hC H => w_cmp_Compare_int hC orders (has_at H 0 rfl), ks_ne (by kernel_rfl), L11_ok⟩
theorem L13_ok : SpecsOk Try.prog L13 := ⟨fun _ hC H => w_slices_Compare_int_int hC orders (has_at H 0 rfl), ks_ne (by kernel_rfl), L12_ok⟩
theorem L14_ok : SpecsOk Try.prog L14 := ⟨fun _ hC H => w_cmp_Or_int hC orders, ks_ne (by kernel_rfl), L13_ok⟩
theorem L15_ok : SpecsOk Try.prog L15 := ⟨fun _ hC H => w_words_Compare hC orders (has_at H 2 rfl) (has_at H 1 rfl) (has_at H 0 rfl), ks_ne (by kernel_rfl), L14_ok⟩
theorem L16_ok : SpecsOk Try.prog L16 := ⟨fun _ hC H => w_tries_ahead hC orders (has_at H 0 rfl), ks_ne (by kernel_rfl), L15_ok⟩
theorem L17_ok : SpecsOk Try.prog L17 := ⟨fun _ hC H => w_tries_steps hC orders, ks_ne (by kernel_rfl), L16_ok⟩
theorem L18_ok : SpecsOk Try.prog L18 := ⟨fun _ hC H => w_tries_Check hC orders (has_at H 7 rfl) (has_at H 1 rfl) (has_at H 0 rfl), ks_ne (by kernel_rfl), L17_ok⟩
theorem L19_ok : SpecsOk Try.prog L19 := ⟨fun _ hC H => w_tries_of hC orders, ks_ne (by kernel_rfl), L18_ok⟩
theorem L20_ok : SpecsOk Try.prog L20 := ⟨fun _ hC H => w_tries_walk hC orders, ks_ne (by kernel_rfl), L19_ok⟩
theorem L21_ok : SpecsOk Try.prog L21 := ⟨fun _ hC H => w_slices_Clip_int_int hC orders, ks_ne (by kernel_rfl), L20_ok⟩
theorem L22_ok : SpecsOk Try.prog L22 := ⟨fun _ hC H => w_slices_Clip_tries_Node_tries_Node hC orders, ks_ne (by kernel_rfl), L21_ok⟩
theorem L23_ok : SpecsOk Try.prog L23 := ⟨fun _ hC H => w_tries_builder_ordered hC orders (has_at H 2 rfl) (has_at H 1 rfl) (has_at H 0 rfl), ks_ne (by kernel_rfl), L22_ok⟩
theorem L24_ok : SpecsOk Try.prog L24 := ⟨fun _ hC H => w_tries_Of hC orders (has_at H 5 rfl) (has_at H 4 rfl) (has_at H 0 rfl), ks_ne (by kernel_rfl), L23_ok⟩
theorem L25_ok : SpecsOk Try.prog L25 := ⟨fun _ hC H => w_ref12_Prefixes hC orders (has_at H 21 rfl), ks_ne (by kernel_rfl), L24_ok⟩
theorem L26_ok : SpecsOk Try.prog L26 := ⟨fun _ hC H => w_ref12_Has hC orders (has_at H 23 rfl), ks_ne (by kernel_rfl), L25_ok⟩
theorem L27_ok : SpecsOk Try.prog L27 := ⟨fun _ hC H => w_ref12_Trie hC orders (has_at H 1 rfl) (has_at H 0 rfl) (has_at H 24 rfl), ks_ne (by kernel_rfl), L26_ok⟩
theorem L28_ok : SpecsOk Try.prog L28 := ⟨fun _ hC H => w_ref12_Equal hC orders (has_at H 25 rfl), ks_ne (by kernel_rfl), L27_ok⟩
theorem L29_ok : SpecsOk Try.prog L29 := ⟨fun _ hC H => w_tries_tree hC orders, ks_ne (by kernel_rfl), L28_ok⟩
theorem L30_ok : SpecsOk Try.prog L30 := ⟨fun _ hC H => w_tries_leaf_1 hC orders, ks_ne (by kernel_rfl), L29_ok⟩
theorem L31_ok : SpecsOk Try.prog L31 := ⟨fun _ hC H => w_tries_leaf hC orders (has_at H 0 rfl), ks_ne (by kernel_rfl), L30_ok⟩
theorem L32_ok : SpecsOk Try.prog L32 := ⟨fun _ hC H => w_slices_Clone_int_int hC orders, ks_ne (by kernel_rfl), L31_ok⟩
theorem L33_ok : SpecsOk Try.prog L33 := ⟨fun _ hC H => w_tries_Words hC orders (has_at H 3 rfl) (has_at H 12 rfl) (has_at H 11 rfl) (has_at H 1 rfl) (has_at H 0 rfl) (has_at H 14 rfl), ks_ne (by kernel_rfl), L32_ok⟩
theorem L34_ok : SpecsOk Try.prog L34 := ⟨fun _ hC H => w_tries_Count hC orders (has_at H 0 rfl) (has_at H 2 rfl), ks_ne (by kernel_rfl), L33_ok⟩
theorem L35_ok : SpecsOk Try.prog L35 := ⟨fun _ hC H => w_ref12_Same hC orders (has_at H 32 rfl), ks_ne (by kernel_rfl), L34_ok⟩
theorem L36_ok : SpecsOk Try.prog L36 := ⟨fun _ hC H => w_law12_same hC orders (has_at H 0 rfl), ks_ne (by kernel_rfl), L35_ok⟩
theorem L37_ok : SpecsOk Try.prog L37 := ⟨fun _ hC H => w_ref12_prefix hC orders (has_at H 34 rfl), ks_ne (by kernel_rfl), L36_ok⟩
theorem L38_ok : SpecsOk Try.prog L38 := ⟨fun _ hC H => w_ref12_Reduce hC orders (has_at H 0 rfl), ks_ne (by kernel_rfl), L37_ok⟩
theorem L39_ok : SpecsOk Try.prog L39 := ⟨fun _ hC H => w_law12_list hC orders, ks_ne (by kernel_rfl), L38_ok⟩
theorem L40_ok : SpecsOk Try.prog L40 := ⟨fun _ hC H => w_slices_CloneW_int_int hC orders, ks_ne (by kernel_rfl), L39_ok⟩
theorem L41_ok : SpecsOk Try.prog L41 := ⟨fun _ hC H => w_tries_sorted_1 hC orders (has_at H 25 rfl), ks_ne (by kernel_rfl), L40_ok⟩
theorem L42_ok : SpecsOk Try.prog L42 := ⟨fun _ hC H => w_slices_CompactFuncW_int_int hC orders (has_at H 0 rfl), ks_ne (by kernel_rfl), L41_ok⟩
theorem L43_ok : SpecsOk Try.prog L43 := ⟨fun _ hC H => w_tries_sorted hC orders (has_at H 2 rfl) (has_at H 27 rfl) (has_at H 0 rfl) (has_at H 25 rfl) (has_at H 10 rfl) (has_at H 21 rfl), ks_ne (by kernel_rfl), L42_ok⟩
theorem L44_ok : SpecsOk Try.prog L44 := ⟨fun _ hC H => w_tries_Sort hC orders (has_at H 33 rfl) (has_at H 0 rfl), ks_ne (by kernel_rfl), L43_ok⟩
theorem L45_ok : SpecsOk Try.prog L45 := ⟨fun _ hC H => w_tries_collect hC orders (has_at H 24 rfl) (has_at H 23 rfl) (has_at H 13 rfl) (has_at H 12 rfl), ks_ne (by kernel_rfl), L44_ok⟩
theorem L46_ok : SpecsOk Try.prog L46 := ⟨fun _ hC H => w_tries_Reduce hC orders (has_at H 27 rfl) (has_at H 26 rfl) (has_at H 0 rfl), ks_ne (by kernel_rfl), L45_ok⟩
theorem L47_ok : SpecsOk Try.prog L47 := ⟨fun _ hC H => w_tries_Prefixes_1 hC orders, ks_ne (by kernel_rfl), L46_ok⟩
theorem L48_ok : SpecsOk Try.prog L48 := ⟨fun _ hC H => w_tries_valid hC orders (has_at H 30 rfl), ks_ne (by kernel_rfl), L47_ok⟩
theorem L49_ok : SpecsOk Try.prog L49 := ⟨fun _ hC H => w_tries_Prefixes hC orders (has_at H 30 rfl) (has_at H 29 rfl) (has_at H 28 rfl) (has_at H 27 rfl) (has_at H 1 rfl) (has_at H 16 rfl) (has_at H 0 rfl), ks_ne (by kernel_rfl), L48_ok⟩
theorem L50_ok : SpecsOk Try.prog L50 := ⟨fun _ hC H => w_tries_both hC orders (has_at H 31 rfl), ks_ne (by kernel_rfl), L49_ok⟩
theorem L51_ok : SpecsOk Try.prog L51 := ⟨fun _ hC H => w_tries_key hC orders, ks_ne (by kernel_rfl), L50_ok⟩
theorem L52_ok : SpecsOk Try.prog L52 := ⟨fun _ hC H => w_tries_Concat hC orders (has_at H 1 rfl) (has_at H 30 rfl) (has_at H 0 rfl) (has_at H 8 rfl), ks_ne (by kernel_rfl), L51_ok⟩
theorem L53_ok : SpecsOk Try.prog L53 := ⟨fun _ hC H => w_tries_all hC orders (has_at H 9 rfl) (has_at H 31 rfl), ks_ne (by kernel_rfl), L52_ok⟩
theorem L54_ok : SpecsOk Try.prog L54 := ⟨fun _ hC H => w_tries_Upto hC orders (has_at H 0 rfl), ks_ne (by kernel_rfl), L53_ok⟩
theorem L55_ok : SpecsOk Try.prog L55 := ⟨fun _ hC H => w_tries_Exact hC orders (has_at H 1 rfl), ks_ne (by kernel_rfl), L54_ok⟩
theorem L56_ok : SpecsOk Try.prog L56 := ⟨fun _ hC H => w_law12_lives hC orders (has_at H 16 rfl) (has_at H 11 rfl) (has_at H 9 rfl) (has_at H 6 rfl) (has_at H 3 rfl) (has_at H 19 rfl) (has_at H 1 rfl) (has_at H 0 rfl) (has_at H 31 rfl) (has_at H 21 rfl) (has_at H 27 rfl) (has_at H 37 rfl), ks_ne (by kernel_rfl), L55_ok⟩
theorem L57_ok : SpecsOk Try.prog L57 := ⟨fun _ hC H => w_law12_TriesTrie hC orders (has_at H 51 rfl) (has_at H 56 rfl) (has_at H 32 rfl) (has_at H 29 rfl) (has_at H 28 rfl) (has_at H 23 rfl) (has_at H 22 rfl) (has_at H 20 rfl) (has_at H 18 rfl) (has_at H 0 rfl), ks_ne (by kernel_rfl), L56_ok⟩
end Go.Own

namespace Go.Own
set_option linter.unusedVariables false
theorem w64_in {x : Int} (h1 : -9223372036854775808 ≤ x) (h2 : x ≤ 9223372036854775807) : w64 x = x := by
 simp only [w64, IntKind.wrap, IntKind.bits, IntKind.signed]
 simp
 omega
section
variable {α β σ τ ρ : Type}
def Ret (x : Option α) (Q : α → Prop) : Prop := ∃ a, x = some a ∧ Q a
theorem Ret.mono {x : Option α} {Q R : α → Prop} (h : Ret x Q) (q : ∀ a, Q a → R a) : Ret x R := by
 obtain ⟨a, e, h⟩ := h
 exact ⟨a, e, q a h⟩
theorem Ret.eq {x : Option α} {a : α} (h : Ret x fun b => b = a) : x = some a := by
 obtain ⟨b, e, rfl⟩ := h
 exact e
theorem ret_some {a : α} {Q : α → Prop} : Ret (some a) Q ↔ Q a := ⟨fun ⟨b, e, q⟩ => by cases e; exact q, fun q => ⟨a, rfl, q⟩⟩
theorem ret_bind {x : Option α} {f : α → Option β} {Q : β → Prop} : Ret (Option.bind x f) Q ↔ Ret x fun a => Ret (f a) Q := by
 cases x with
 | none => exact ⟨fun ⟨b, e, _⟩ => (by cases e), fun ⟨b, e, _⟩ => (by cases e)⟩
 | some a => exact ⟨fun h => ⟨a, rfl, h⟩, fun ⟨b, e, h⟩ => by cases e; exact h⟩
theorem ret_bif {c : Bool} {x y : Option α} {Q : α → Prop} : Ret (bif c then x else y) Q ↔ (c = true → Ret x Q) ∧ (c = false → Ret y Q) := by
 cases c <;> simp
theorem idx_nat (l : List α) (i : Nat) : idx l (i : Int) = l[i]? := rfl
theorem gdT {p : Prop} [Decidable p] {x : Option α} (h : p) : gd p x = x := by unfold gd; rw [if_pos h]
theorem bdT {x : Option α} {u : α} {f : α → Option ρ} (h : x = some u) : Option.bind x f = f u := by rw [h]; rfl
theorem loopN_succ (step : σ → Option (LR σ τ)) (n : Nat) (s : σ) : loopN step (n + 1) s = (match step s with | none => none | some (.next s') => loopN step n s' | some (.done t) => some t) := rfl
def LRP (N : σ → Prop) (D : τ → Prop) : LR σ τ → Prop
 | .next s => N s
 | .done t => D t
theorem ret_loop {step : σ → Option (LR σ τ)} (I : σ → Prop) (m : σ → Nat) {R : τ → Prop} {s : σ} (hs : I s) (hm : m s < 18446744073709551616)
  (h : ∀ s, I s → Ret (step s) (LRP (fun s' => I s' ∧ m s' < m s) R)) : Ret (loop step s) R := by
 have gen : ∀ (n : Nat) (s : σ), I s → m s < n → Ret (loopN step n s) R := by
  intro n
  induction n with
  | zero => intro s _ h; omega
  | succ n ih =>
   intro s hs hm
   obtain ⟨a, e, q⟩ := h s hs
   rw [loopN_succ, e]
   cases a with
   | next s' => exact ih s' q.1 (by have := q.2; omega)
   | done t => exact ⟨t, rfl, q⟩
 exact gen fuel s hs hm
theorem loop_seq {step : σ → Option (LR σ τ)} (st : Nat → σ) (n : Nat) {t : τ} (hn : n < 9223372036854775808) (h : ∀ i, i < n → step (st i) = some (.next (st (i + 1)))) (hd : step (st n) = some (.done t)) : loop step (st 0) = some t := by
 have gen : ∀ (k : Nat) (i : Nat), i ≤ n → n - i < k → loopN step k (st i) = some t := by
  intro k
  induction k with
  | zero => intro i _ h; omega
  | succ k ih =>
   intro i hi hk
   rw [loopN_succ]
   rcases Nat.lt_or_ge i n with q | q
   ·rw [h i q]
    exact ih (i + 1) q (by omega)
   ·have : i = n := by omega
    subst this
    rw [hd]
 exact gen fuel 0 (Nat.zero_le _) (by show n - 0 < 18446744073709551616; omega)
def firstS (f : Nat → α → Option ρ) : List α → Nat → Option ρ
 | [], _ => none
 | x :: l, i => match f i x with | some r => some r | none => firstS f l (i + 1)
theorem firstS_none {f : Nat → α → Option ρ} : ∀ {l : List α} {k : Nat}, (∀ i x, l[i]? = some x → f (k + i) x = none) → firstS f l k = none
 | [], _, _ => rfl
 | x :: l, k, h => by
  have h0 := h 0 x rfl
  simp only [Nat.add_zero] at h0
  simp only [firstS, h0]
  exact firstS_none fun i y hy => by have := h (i + 1) y (by simpa using hy); rwa [show k + 1 + i = k + (i + 1) by omega]
theorem firstS_some {f : Nat → α → Option ρ} {r : ρ} : ∀ {l : List α} {k : Nat}, firstS f l k = some r → ∃ i x, l[i]? = some x ∧ f (k + i) x = some r
 | [], _, h => by cases h
 | x :: l, k, h => by
  simp only [firstS] at h
  cases hf : f k x with
  | some r' => rw [hf] at h; exact ⟨0, x, rfl, by rw [Nat.add_zero, hf]; exact h⟩
  | none =>
   rw [hf] at h
   obtain ⟨i, y, h1, h2⟩ := firstS_some h
   exact ⟨i + 1, y, by simpa using h1, by rw [← h2]; congr 1; omega⟩
theorem firstS_isNone {f : Nat → α → Option ρ} {l : List α} {k : Nat} (h : firstS f l k = none) : ∀ i x, l[i]? = some x → f (k + i) x = none := by
 induction l generalizing k with
 | nil => intro i x h; simp at h
 | cons y l ih =>
  intro i x hx
  simp only [firstS] at h
  cases hf : f k y with
  | some r' => rw [hf] at h; cases h
  | none =>
   rw [hf] at h
   cases i with
   | zero => simp at hx; subst hx; simpa using hf
   | succ i => have := ih h i x (by simpa using hx); rwa [show k + (i + 1) = k + 1 + i by omega]
def oS : Option ρ → Unit ⊕ ρ
 | some r => .inr r
 | none => .inl ()
def nS (i : Nat) : Option ρ → LR Int (Unit ⊕ ρ)
 | some r => .done (.inr r)
 | none => .next (w64 ((i : Int) + 1))
theorem loop_list (l : List α) (hl : l.length < 4611686018427387904) {step : Int → Option (LR Int (Unit ⊕ ρ))} (f : Nat → α → Option ρ)
  (h : ∀ (i : Nat) (x : α), l[i]? = some x → step (i : Int) = some (nS i (f i x))) (h2 : step (l.length : Int) = some (.done (.inl ()))) :
  loop step 0 = some (oS (firstS f l 0)) := by
 have gen : ∀ (n : Nat) (k : Nat), k ≤ l.length → l.length - k < n → loopN step n (k : Int) = some (oS (firstS f (l.drop k) k)) := by
  intro n
  induction n with
  | zero => intro k _ h; omega
  | succ n ih =>
   intro k hk hn
   rw [loopN_succ]
   rcases Nat.lt_or_ge k l.length with hlt | hge
   ·have hx : l[k]? = some l[k] := List.getElem?_eq_getElem hlt
    rw [h k _ hx, List.drop_eq_getElem_cons hlt]
    simp only [firstS]
    cases hf : f k l[k] with
    | some r => rfl
    | none =>
     simp only [nS]
     rw [w64_in (by omega) (by omega)]
     exact ih (k + 1) hlt (by omega)
   ·have : k = l.length := by omega
    subst this
    rw [h2, List.drop_length]
    rfl
 exact gen fuel 0 (Nat.zero_le _) (by show l.length - 0 < 18446744073709551616; omega)
end
end Go.Own

namespace Go.Own
set_option linter.unusedVariables false
def lexC : List Int → List Int → Int
 | [], [] => 0
 | [], _ :: _ => -1
 | _ :: _, [] => 1
 | x :: a, y :: b => if x < y then -1 else if y < x then 1 else lexC a b
def cmpW (a b : List Int) : Int := if a.length < b.length then -1 else if b.length < a.length then 1 else lexC a b
theorem lexC_eq : ∀ {a b : List Int}, lexC a b = 0 → a = b
 | [], [], _ => rfl
 | [], _ :: _, h => by simp [lexC] at h
 | _ :: _, [], h => by simp [lexC] at h
 | x :: a, y :: b, h => by
  simp only [lexC] at h
  split at h
  ·simp at h
  ·split at h
   ·simp at h
   ·rw [show x = y by omega, lexC_eq h]
theorem lexC_self : ∀ a : List Int, lexC a a = 0
 | [] => rfl
 | x :: a => by simp [lexC, lexC_self a]
theorem lexC_neg : ∀ a b : List Int, lexC b a = - lexC a b
 | [], [] => rfl
 | [], _ :: _ => rfl
 | _ :: _, [] => rfl
 | x :: a, y :: b => by
  simp only [lexC]
  split
  ·rw [if_neg (by omega)]
  ·split
   ·rfl
   ·exact lexC_neg a b
theorem lexC_trans : ∀ {a b c : List Int}, lexC a b < 0 → lexC b c < 0 → lexC a c < 0
 | [], [], _, h, _ => by simp [lexC] at h
 | [], _ :: _, [], _, h => by simp [lexC] at h
 | [], _ :: _, _ :: _, _, _ => by simp [lexC]
 | _ :: _, [], _, h, _ => by simp [lexC] at h
 | _ :: _, _ :: _, [], _, h => by simp [lexC] at h
 | x :: a, y :: b, z :: c, h1, h2 => by
  simp only [lexC] at h1 h2 ⊢
  by_cases e1 : x < y
  ·by_cases e2 : y < z
   ·rw [if_pos (by omega)]; omega
   ·rw [if_neg e2] at h2
    by_cases e3 : z < y
    ·rw [if_pos e3] at h2; omega
    ·rw [if_pos (by omega)]; omega
  ·rw [if_neg e1] at h1
   by_cases e3 : y < x
   ·rw [if_pos e3] at h1; omega
   ·rw [if_neg e3] at h1
    have : x = y := by omega
    subst this
    by_cases e2 : x < z
    ·rw [if_pos e2]; omega
    ·rw [if_neg e2] at h2 ⊢
     by_cases e4 : z < x
     ·rw [if_pos e4] at h2; omega
     ·rw [if_neg e4] at h2 ⊢
      exact lexC_trans h1 h2
theorem cmpW_eq {a b : List Int} (h : cmpW a b = 0) : a = b := by
 unfold cmpW at h
 split at h
 ·simp at h
 ·split at h
  ·simp at h
  ·exact lexC_eq h
theorem cmpW_self (a : List Int) : cmpW a a = 0 := by simp [cmpW, lexC_self]
theorem cmpW_eq0 {a b : List Int} : cmpW a b = 0 ↔ a = b := ⟨cmpW_eq, fun h => h ▸ cmpW_self a⟩
theorem cmpW_neg (a b : List Int) : cmpW b a = - cmpW a b := by
 unfold cmpW
 by_cases h1 : a.length < b.length
 ·rw [if_pos h1, if_neg (by omega), if_pos h1]; rfl
 ·by_cases h2 : b.length < a.length
  ·rw [if_pos h2, if_neg h1, if_pos h2]
  ·rw [if_neg h1, if_neg h2, if_neg h2, if_neg h1, lexC_neg]
theorem cmpW_trans {a b c : List Int} (h1 : cmpW a b < 0) (h2 : cmpW b c < 0) : cmpW a c < 0 := by
 unfold cmpW at *
 by_cases e1 : a.length < b.length
 ·by_cases e2 : b.length < c.length
  ·rw [if_pos (by omega)]; omega
  ·rw [if_neg e2] at h2
   by_cases e3 : c.length < b.length
   ·rw [if_pos e3] at h2; omega
   ·rw [if_pos (by omega)]; omega
 ·rw [if_neg e1] at h1
  by_cases e3 : b.length < a.length
  ·rw [if_pos e3] at h1; omega
  ·rw [if_neg e3] at h1
   have e : a.length = b.length := by omega
   rw [e]
   by_cases e2 : b.length < c.length
   ·rw [if_pos e2]; omega
   ·rw [if_neg e2] at h2 ⊢
    by_cases e4 : c.length < b.length
    ·rw [if_pos e4] at h2; omega
    ·rw [if_neg e4] at h2 ⊢
     exact lexC_trans h1 h2
theorem cmpW_irr (a : List Int) : ¬ cmpW a a < 0 := by rw [cmpW_self]; omega
theorem cmpW_asym {a b : List Int} (h : cmpW a b < 0) : ¬ cmpW b a < 0 := by rw [cmpW_neg a b]; omega
theorem cmpW_ge {a b : List Int} : ¬ cmpW a b < 0 ↔ cmpW b a < 0 ∨ a = b := by
 rw [← cmpW_eq0, cmpW_neg a b]; omega
def SW (l : List (List Int)) : Prop := l.Pairwise fun a b => cmpW a b < 0
theorem SW.nil : SW [] := List.Pairwise.nil
theorem SW.tail {x : List Int} {l : List (List Int)} (h : SW (x :: l)) : SW l := (List.pairwise_cons.1 h).2
theorem SW.head {x : List Int} {l : List (List Int)} (h : SW (x :: l)) : ∀ y ∈ l, cmpW x y < 0 := (List.pairwise_cons.1 h).1
theorem SW.unique : ∀ {l m : List (List Int)}, SW l → SW m → (∀ x, x ∈ l ↔ x ∈ m) → l = m
 | [], [], _, _, _ => rfl
 | [], y :: m, _, _, h => by have := (h y).2 (by simp); simp at this
 | x :: l, [], _, _, h => by have := (h x).1 (by simp); simp at this
 | x :: l, y :: m, h1, h2, h => by
  have hxy : x = y := by
   rcases List.mem_cons.1 ((h x).1 (by simp)) with e | e
   ·exact e
   ·rcases List.mem_cons.1 ((h y).2 (by simp)) with e' | e'
    ·exact e'.symm
    ·exact absurd (h2.head x e) (cmpW_asym (h1.head y e'))
  subst hxy
  rw [SW.unique h1.tail h2.tail fun z => ?_]
  constructor
  ·intro hz
   rcases List.mem_cons.1 ((h z).1 (by simp [hz])) with e | e
   ·subst e; exact absurd (h1.head _ hz) (cmpW_irr _)
   ·exact e
  ·intro hz
   rcases List.mem_cons.1 ((h z).2 (by simp [hz])) with e | e
   ·subst e; exact absurd (h2.head _ hz) (cmpW_irr _)
   ·exact e
theorem SW.sub {l m : List (List Int)} (h : SW l) (hs : List.Sublist m l) : SW m := List.Pairwise.sublist hs h
theorem SW.filter {l : List (List Int)} (h : SW l) (p : List Int → Bool) : SW (l.filter p) := h.sub List.filter_sublist
theorem SW.nodup {l : List (List Int)} (h : SW l) : l.Nodup := List.Pairwise.imp (fun {a b} q e => by subst e; exact cmpW_irr _ q) h
def putW (w : List Int) : List (List Int) → List (List Int)
 | [] => [w]
 | x :: l => if cmpW x w < 0 then x :: putW w l else if cmpW x w = 0 then x :: l else w :: x :: l
theorem mem_putW {w x : List Int} : ∀ {l : List (List Int)}, x ∈ putW w l ↔ x = w ∨ x ∈ l
 | [] => by simp [putW]
 | y :: l => by
  simp only [putW]
  split
  ·simp only [List.mem_cons, mem_putW]
   constructor
   ·rintro (h | h | h) <;> simp [h]
   ·rintro (h | h | h) <;> simp [h]
  ·split
   ·rename_i h1 h2
    have := cmpW_eq h2
    subst this
    simp
   ·simp
theorem SW.put {w : List Int} : ∀ {l : List (List Int)}, SW l → SW (putW w l)
  | [], _ => by simp [putW, SW]
  | y :: l, h => by
    simp only [putW]
    split
    · rename_i h1
      refine List.pairwise_cons.2 ⟨fun z hz => ?_, SW.put h.tail⟩
      rcases mem_putW.1 hz with rfl | hz
      · exact h1
      · exact h.head z hz
    · split
      · exact h
      · rename_i h1 h2
        have hw : cmpW w y < 0 := by rcases cmpW_ge.1 h1 with q | q
                                     · exact q
                                     · exact absurd (cmpW_eq0.2 q) h2
        refine List.pairwise_cons.2 ⟨fun z hz => ?_, h⟩
        rcases List.mem_cons.1 hz with rfl | hz
        · exact hw
        · exact cmpW_trans hw (h.head z hz)
theorem putW_len (w : List Int) : ∀ l, (putW w l).length ≤ l.length + 1
 | [] => by simp [putW]
 | y :: l => by
  simp only [putW]
  split
  ·have := putW_len w l; simp; omega
  ·split <;> simp
def srt (l : List (List Int)) : List (List Int) := l.foldl (fun m w => putW w m) []
theorem srt_gen : ∀ (l m : List (List Int)), SW m → SW (l.foldl (fun m w => putW w m) m) ∧ ∀ x, x ∈ l.foldl (fun m w => putW w m) m ↔ x ∈ m ∨ x ∈ l
 | [], m, h => ⟨h, by simp⟩
 | w :: l, m, h => by
  obtain ⟨h1, h2⟩ := srt_gen l (putW w m) h.put
  refine ⟨h1, fun x => ?_⟩
  rw [List.foldl_cons, h2, mem_putW]
  simp only [List.mem_cons]
  constructor
  ·rintro ((h | h) | h) <;> simp [h]
  ·rintro (h | h | h) <;> simp [h]
theorem srt_sw (l : List (List Int)) : SW (srt l) := (srt_gen l [] .nil).1
theorem mem_srt {l : List (List Int)} {x : List Int} : x ∈ srt l ↔ x ∈ l := by rw [srt, (srt_gen l [] .nil).2]; simp
theorem srt_eq {l m : List (List Int)} (h : SW m) (hm : ∀ x, x ∈ m ↔ x ∈ l) : m = srt l := h.unique (srt_sw l) fun x => by rw [hm, mem_srt]
theorem srt_of_sw {l : List (List Int)} (h : SW l) : srt l = l := (srt_eq h fun _ => .rfl).symm
theorem srt_congr {l m : List (List Int)} (h : ∀ x, x ∈ l ↔ x ∈ m) : srt l = srt m := srt_eq (srt_sw l) fun x => by rw [mem_srt, h]
theorem srt_snoc (l : List (List Int)) (w : List Int) : srt (l ++ [w]) = putW w (srt l) := by simp [srt]
theorem srt_len (l : List (List Int)) : (srt l).length ≤ l.length := by
 have : ∀ (l m : List (List Int)), (l.foldl (fun m w => putW w m) m).length ≤ m.length + l.length := by
  intro l
  induction l with
  | nil => intro m; simp
  | cons w l ih => intro m; have := ih (putW w m); have := putW_len w m; simp only [List.foldl_cons, List.length_cons]; omega
 have q := this l []
 simp only [List.length_nil, Nat.zero_add] at q
 exact q
end Go.Own

namespace Go.Own
set_option linter.unusedVariables false
theorem idx_some {α : Type} {l : List α} {i : Nat} {x : α} (h : l[i]? = some x) : idx l (i : Int) = some x := h
theorem fs_lex (b : List Int) (g : Nat → Int → Option Int) (hg : ∀ i x y, b[i]? = some y → g i x = if x < y then some (-1) else if y < x then some 1 else none) :
  ∀ (a : List Int) (k : Nat), k + a.length = b.length → (firstS g a k).getD 0 = lexC a (b.drop k)
 | [], k, h => by
  have : b.drop k = [] := List.drop_eq_nil_of_le (by simp at h; omega)
  rw [this]; rfl
 | x :: a, k, h => by
  simp only [List.length_cons] at h
  have hk : k < b.length := by omega
  rw [List.drop_eq_getElem_cons hk]
  simp only [firstS, lexC, hg k x b[k] (List.getElem?_eq_getElem hk)]
  by_cases h1 : x < b[k]
  ·simp [h1]
  ·by_cases h2 : b[k] < x
   ·simp [h1, h2]
   ·simp only [h1, h2, if_false]
    exact fs_lex b g hg a (k + 1) (by omega)
theorem compare_eq (a b : List Int) (h : a.length = b.length → a.length < 4611686018427387904) : ref12_compare a b = some (cmpW a b) := by
 unfold ref12_compare
 by_cases hl : a.length = b.length
 ·have h' := h hl
  simp only [hl, bne_self_eq_false, cond_false]
  rw [bdT (loop_list a h' (fun i x => match b[i]? with | some y => if x < y then some (-1 : Int) else if y < x then some 1 else none | none => none) ?_ ?_)]
  ·have q := fs_lex b (fun i x => match b[i]? with | some y => if x < y then some (-1 : Int) else if y < x then some 1 else none | none => none) (fun i x y hy => by simp only [hy]) a 0 (by omega)
   rw [List.drop_zero] at q
   have hc : cmpW a b = lexC a b := by unfold cmpW; rw [if_neg (by omega), if_neg (by omega)]
   rw [hc, ← q]
   cases firstS (fun i x => match b[i]? with | some y => if x < y then some (-1 : Int) else if y < x then some 1 else none | none => none) a 0 <;> rfl
  ·intro i x hx
   have hi : i < a.length := (List.getElem?_eq_some_iff.1 hx).1
   have hy : b[i]? = some b[i] := List.getElem?_eq_getElem (by omega)
   unfold ref12_compare_L2
   have hc : decide ((i : Int) < (a.length : Int)) = true := by simpa using hi
   simp only [hc, cond_true, idx_some hx, idx_some hy, hy, Option.bind_some]
   by_cases h1 : x < b[i]
   ·simp [h1, nS]
   ·by_cases h2 : b[i] < x
    ·simp [h1, h2, nS]
    ·simp [h1, h2, nS]
  ·unfold ref12_compare_L2
   simp
 ·have h1 : (((a.length : Nat) : Int) != ((b.length : Nat) : Int)) = true := by simp; omega
  simp only [h1, cond_true]
  unfold cmpW
  by_cases h2 : a.length < b.length
  ·simp [h2]
  ·have h3 : b.length < a.length := by omega
   simp [h2, h3]
def cI (x y : Int) : Int := if x < y then -1 else if y < x then 1 else 0
theorem cmpi_eq (x y : Int) : cmp_Compare_int x y = some (cI x y) := by
 unfold cmp_Compare_int cmp_isNaN_int cI
 simp only [bne_self_eq_false, Option.bind_some, cond_false]
 by_cases h1 : x < y
 ·simp [h1]
 ·by_cases h2 : y < x
  ·simp [h1, h2]
  ·simp [h1, h2]
theorem scmp_eq (a b : List Int) (h : a.length < 4611686018427387904) : ∃ c, slices_Compare_int_int a b = some c ∧ (a.length = b.length → c = lexC a b) := by
 unfold slices_Compare_int_int
 have hloop := loop_list a h (step := fun s => slices_Compare_int_int_L2 a b s) (fun i x => match b[i]? with | some y => if x < y then some (-1 : Int) else if y < x then some 1 else none | none => some 1) (by
  intro i x hx
  have hi : i < a.length := (List.getElem?_eq_some_iff.1 hx).1
  unfold slices_Compare_int_int_L2
  have hc : decide ((i : Int) < (a.length : Int)) = true := by simpa using hi
  simp only [hc, cond_true, idx_some hx, Option.bind_some]
  by_cases hb : i < b.length
  ·have hy : b[i]? = some b[i] := List.getElem?_eq_getElem hb
   have hd : decide ((i : Int) ≥ (b.length : Int)) = false := by simp; omega
   simp only [hd, cond_false, idx_some hy, hy, Option.bind_some, cmpi_eq]
   unfold cI
   by_cases h1 : x < b[i]
   ·simp [h1, nS]
   ·by_cases h2 : b[i] < x
    ·simp [h1, h2, nS]
    ·simp [h1, h2, nS]
  ·have hy : b[i]? = none := List.getElem?_eq_none (by omega)
   have hd : decide ((i : Int) ≥ (b.length : Int)) = true := by simp; omega
   simp only [hd, cond_true, hy, nS]) (by unfold slices_Compare_int_int_L2; simp)
 rw [bdT hloop]
 have q := fun hl => fs_lex b (fun i x => match b[i]? with | some y => if x < y then some (-1 : Int) else if y < x then some 1 else none | none => some 1) (fun i x y hy => by simp only [hy]) a 0 hl
 cases hf : firstS (fun i x => match b[i]? with | some y => if x < y then some (-1 : Int) else if y < x then some 1 else none | none => some 1) a 0 with
 | some r =>
  refine ⟨r, rfl, fun hl => ?_⟩
  have := q (by omega)
  rw [hf] at this
  simpa using this
 | none =>
  unfold slices_Compare_int_int_J1
  by_cases hl : a.length < b.length
  ·refine ⟨-1, by simp [oS, hl], fun hl2 => by omega⟩
  ·refine ⟨0, by simp [oS, hl], fun hl2 => ?_⟩
   have := q (by omega)
   rw [hf] at this
   simpa using this
theorem or_eq (x y : Int) : cmp_Or_int [x, y] = some (if x = 0 then y else x) := by
 unfold cmp_Or_int
 rw [bdT (loop_list [x, y] (by simp) (step := fun s => cmp_Or_int_L2 [x, y] s) (fun i v => if v ≠ 0 then some v else none) ?_ ?_)]
 ·by_cases h1 : x = 0
  ·by_cases h2 : y = 0
   ·simp [firstS, h1, h2, oS, cmp_Or_int_J1]
   ·simp [firstS, h1, h2, oS]
  ·simp [firstS, h1, oS]
 ·intro i v hv
  have hi : i < [x, y].length := (List.getElem?_eq_some_iff.1 hv).1
  unfold cmp_Or_int_L2
  have hc : decide ((i : Int) < (([x, y] : List Int).length : Int)) = true := by simp only [decide_eq_true_eq]; omega
  simp only [hc, cond_true, idx_some hv, Option.bind_some]
  by_cases h : v = 0
  ·simp [h, nS]
  ·have hb : (v != 0) = true := by simpa using h
   simp [h, hb, nS]
 ·unfold cmp_Or_int_L2; simp
theorem Compare_eq (a b : List Int) (h : a.length < 4611686018427387904) : words_Compare a b = some (cmpW a b) := by
 unfold words_Compare
 obtain ⟨c, hc, hl⟩ := scmp_eq a b h
 rw [cmpi_eq, hc]
 simp only [Option.bind_some, or_eq]
 unfold cI cmpW
 by_cases h1 : a.length < b.length
 ·simp [h1]
 ·by_cases h2 : b.length < a.length
  ·simp [h1, h2]
  ·simp [h1, h2, hl (by omega)]
def wE (n : Int) (w : List Int) : Int := if 256 < w.length then 3 else if w.any (fun c => decide (c < 0) || decide (n ≤ c)) then 1 else 0
theorem wE_zero {n : Int} {w : List Int} : wE n w = 0 ↔ w.length ≤ 256 ∧ ∀ c ∈ w, 0 ≤ c ∧ c < n := by
 unfold wE
 by_cases h : 256 < w.length
 ·rw [if_pos h]
  exact ⟨fun q => by simp at q, fun q => by omega⟩
 ·rw [if_neg h]
  by_cases h2 : w.any (fun c => decide (c < 0) || decide (n ≤ c)) = true
  ·rw [if_pos h2]
   simp only [List.any_eq_true, Bool.or_eq_true, decide_eq_true_eq] at h2
   obtain ⟨c, h3, h4⟩ := h2
   refine ⟨fun q => by simp at q, fun q => ?_⟩
   have := q.2 c h3
   omega
  ·rw [if_neg h2]
   simp only [List.any_eq_true, Bool.or_eq_true, decide_eq_true_eq, not_exists, not_and, not_or] at h2
   refine ⟨fun _ => ⟨by omega, fun c hc => ?_⟩, fun _ => rfl⟩
   have := h2 c hc
   omega
theorem fs_any {ρ : Type} (p : Int → Bool) (g : Nat → Int → Option ρ) (hg : ∀ i x, (g i x).isSome = p x) : ∀ (w : List Int) (k : Nat), (firstS g w k).isSome = w.any p
 | [], k => rfl
 | x :: w, k => by
  simp only [firstS, List.any_cons]
  have := hg k x
  cases hx : g k x with
  | some r => rw [hx] at this; simp at this; simp [← this]
  | none => rw [hx] at this; simp at this; rw [this, Bool.false_or]; exact fs_any p g hg w (k + 1)
theorem wCheck_eq (n : Int) (w : List Int) : words_Check w n = some (if 16 < n then 3 else if 256 < w.length then 3 else if n < 1 then 1 else wE n w) := by
 unfold words_Check
 by_cases h0 : 16 < n
 ·simp [h0]
 by_cases h : 256 < w.length
 ·have h' : (256 : Int) < (w.length : Int) := by omega
  simp [h0, h, h']
 by_cases h1 : n < 1
 ·have h' : ¬ (256 : Int) < (w.length : Int) := by omega
  simp [h0, h, h', h1]
 ·have hd : decide (((w.length : Nat) : Int) > 256) = false := by simp; omega
  have hd0 : decide (n > 16) = false := by simp; omega
  have hd1 : decide (n < 1) = false := by simp; omega
  simp only [hd, hd0, hd1, cond_false, if_neg h, if_neg h0, if_neg h1]
  unfold slices_ContainsFunc_int_int slices_IndexFunc_int_int wE
  have hl := loop_list w (by omega) (step := fun s => slices_IndexFunc_int_int_L2 w n s) (fun i c => if c < 0 ∨ n ≤ c then some (i : Int) else none) (by
   intro i c hc
   have hi : i < w.length := (List.getElem?_eq_some_iff.1 hc).1
   unfold slices_IndexFunc_int_int_L2 words_Check_1
   have hq : decide ((i : Int) < (w.length : Int)) = true := by simpa using hi
   simp only [hq, cond_true, idx_some hc, Option.bind_some]
   by_cases h1 : c < 0
   ·simp [h1, nS]
   ·by_cases h2 : n ≤ c
    ·simp [h1, h2, nS]
    ·simp [h1, h2, nS]) (by unfold slices_IndexFunc_int_int_L2; simp)
  rw [bdT hl, if_neg h]
  have q := fs_any (fun c => decide (c < 0) || decide (n ≤ c)) (fun i c => if c < 0 ∨ n ≤ c then some (i : Int) else none) (fun i c => by by_cases h : c < 0 ∨ n ≤ c <;> simp [h] <;> simpa using h) w 0
  cases hf : firstS (fun i c => if c < 0 ∨ n ≤ c then some (i : Int) else none) w 0 with
  | none => rw [hf] at q; rw [← q]; rfl
  | some r =>
   rw [hf] at q
   obtain ⟨i, x, h1, h2⟩ := firstS_some hf
   rw [← q]
   split at h2
   ·cases h2
    simp [oS]
   ·cases h2
def eS (e : Int) : Option Int := if e = 0 then none else some e
def loE (n : Int) (l : List (List Int)) : Int := if 16 < n then 3 else if 4096 < l.length then 3 else if n < 1 then 1 else (firstS (fun _ w => eS (wE n w)) l 0).getD 0
theorem fsE_zero {n : Int} : ∀ {l : List (List Int)} {k : Nat}, (firstS (fun _ w => eS (wE n w)) l k).getD 0 = 0 ↔ ∀ w ∈ l, wE n w = 0
 | [], _ => by simp [firstS]
 | w :: l, k => by
  by_cases h : wE n w = 0
  ·have : eS (wE n w) = none := by simp [eS, h]
   simp only [firstS, this]
   rw [fsE_zero]
   simp [h]
  ·have : eS (wE n w) = some (wE n w) := by simp [eS, h]
   simp [firstS, this, h]
theorem loE_zero {n : Int} {l : List (List Int)} : loE n l = 0 ↔ (1 ≤ n ∧ n ≤ 16) ∧ l.length ≤ 4096 ∧ ∀ w ∈ l, w.length ≤ 256 ∧ ∀ c ∈ w, 0 ≤ c ∧ c < n := by
 unfold loE
 by_cases h0 : 16 < n
 ·rw [if_pos h0]; exact ⟨fun q => by simp at q, fun q => by omega⟩
 by_cases h1 : 4096 < l.length
 ·rw [if_neg h0, if_pos h1]; exact ⟨fun q => by simp at q, fun q => by omega⟩
 by_cases h2 : n < 1
 ·rw [if_neg h0, if_neg h1, if_pos h2]; exact ⟨fun q => by simp at q, fun q => by omega⟩
 rw [if_neg h0, if_neg h1, if_neg h2, fsE_zero]
 constructor
 ·intro q; exact ⟨by omega, by omega, fun w hw => wE_zero.1 (q w hw)⟩
 ·intro q w hw; exact wE_zero.2 (q.2.2 w hw)
theorem loose_eq (l : List (List Int)) (n : Int) : tries_loose l n = some (loE n l) := by
 unfold tries_loose loE
 by_cases h0 : 16 < n
 ·simp [h0]
 by_cases h1 : 4096 < l.length
 ·have h' : (4096 : Int) < (l.length : Int) := by omega
  simp [h0, h1, h']
 by_cases h2 : n < 1
 ·have h' : ¬ (4096 : Int) < (l.length : Int) := by omega
  simp [h0, h1, h2, h']
 have d0 : decide (n > 16) = false := by simp; omega
 have d1 : decide (((l.length : Nat) : Int) > 4096) = false := by simp; omega
 have d2 : decide (n < 1) = false := by simp; omega
 simp only [d0, d1, d2, cond_false, if_neg h0, if_neg h1, if_neg h2]
 rw [bdT (loop_list l (by omega) (step := fun s => tries_loose_L2 l n s) (fun _ w => eS (wE n w)) ?_ ?_)]
 ·cases firstS (fun _ w => eS (wE n w)) l 0 <;> rfl
 ·intro i w hw
  have hi : i < l.length := (List.getElem?_eq_some_iff.1 hw).1
  have hq : decide ((i : Int) < (l.length : Int)) = true := by simpa using hi
  have he : words_Check w n = some (wE n w) := by
   rw [wCheck_eq, if_neg h0, if_neg h2]
   by_cases h : 256 < w.length
   ·rw [if_pos h]; unfold wE; rw [if_pos h]
   ·rw [if_neg h]
  unfold tries_loose_L2
  simp only [hq, cond_true, idx_some hw, Option.bind_some, he]
  by_cases hz : wE n w = 0
  ·simp [hz, eS, nS]
  ·have hb : (wE n w != 0) = true := by simpa using hz
   simp [hz, hb, eS, nS]
 ·unfold tries_loose_L2; simp
theorem loop_sum (l : List (List Int)) (hl : l.length < 4611686018427387904) {step : Int × Int → Option (LR (Int × Int) Int)}
  (h : ∀ (n : Int) (i : Nat) (x : List Int), l[i]? = some x → step (n, (i : Int)) = some (.next (w64 (n + ((x.length : Nat) : Int)), w64 ((i : Int) + 1)))) (h2 : ∀ n, step (n, (l.length : Int)) = some (.done n)) :
  loop step (0, 0) = some (l.foldl (fun n x => w64 (n + ((x.length : Nat) : Int))) 0) := by
 have gen : ∀ (m k : Nat) (n : Int), k ≤ l.length → l.length - k < m → loopN step m (n, (k : Int)) = some ((l.drop k).foldl (fun n x => w64 (n + ((x.length : Nat) : Int))) n) := by
  intro m
  induction m with
  | zero => intro k n _ h; omega
  | succ m ih =>
   intro k n hk hn
   rw [loopN_succ]
   rcases Nat.lt_or_ge k l.length with hlt | hge
   ·have hx : l[k]? = some l[k] := List.getElem?_eq_getElem hlt
    rw [h n k _ hx, List.drop_eq_getElem_cons hlt]
    simp only [List.foldl_cons]
    rw [w64_in (x := (k : Int) + 1) (by omega) (by omega)]
    exact ih (k + 1) _ hlt (by omega)
   ·have : k = l.length := by omega
    subst this
    rw [h2, List.drop_length]
    rfl
 exact gen fuel 0 0 (Nat.zero_le _) (by show l.length - 0 < 18446744073709551616; omega)
def stW (l : List (List Int)) : Int := l.foldl (fun n x => w64 (n + ((x.length : Nat) : Int))) 0
theorem steps_eq (l : List (List Int)) (hl : l.length < 4611686018427387904) : tries_steps l = some (stW l) := by
 unfold tries_steps
 rw [bdT (loop_sum l hl (step := fun s => tries_steps_L2 l s.1 s.2) ?_ ?_)]
 ·rfl
 ·intro n i x hx
  have hi : i < l.length := (List.getElem?_eq_some_iff.1 hx).1
  have hq : decide ((i : Int) < (l.length : Int)) = true := by simpa using hi
  unfold tries_steps_L2
  simp only [hq, cond_true, idx_some hx, Option.bind_some]
 ·intro n; unfold tries_steps_L2; simp
def syms (l : List (List Int)) : Nat := (l.map List.length).sum
theorem stW_eq {l : List (List Int)} (h : syms l < 4611686018427387904) : stW l = (syms l : Int) := by
 have gen : ∀ (l : List (List Int)) (n : Nat), n + syms l < 4611686018427387904 → l.foldl (fun n x => w64 (n + ((x.length : Nat) : Int))) (n : Int) = ((n + syms l : Nat) : Int) := by
  intro l
  induction l with
  | nil => intro n _; simp [syms]
  | cons x l ih =>
   intro n hn
   have hs : syms (x :: l) = x.length + syms l := by simp [syms]
   rw [hs] at hn ⊢
   rw [List.foldl_cons, w64_in (by omega) (by omega), ← Int.natCast_add, ih (n + x.length) (by omega)]
   congr 1; omega
 have := gen l 0 (by omega)
 simpa [stW] using this
theorem syms_le {l : List (List Int)} {m : Nat} (h : ∀ w ∈ l, w.length ≤ m) : syms l ≤ l.length * m := by
 induction l with
 | nil => simp [syms]
 | cons x l ih =>
  have hs : syms (x :: l) = x.length + syms l := by simp [syms]
  have h1 := h x (by simp)
  have h2 := ih fun w hw => h w (by simp [hw])
  rw [hs, List.length_cons, Nat.add_mul]
  omega
theorem sw_iff : ∀ {l : List (List Int)}, SW l ↔ ∀ i x y, l[i]? = some x → l[i + 1]? = some y → cmpW x y < 0
 | [] => by simp [SW]
 | [x] => ⟨fun _ i a b _ h2 => by simp at h2, fun _ => by simp [SW]⟩
 | x :: y :: l => by
  constructor
  ·intro h i a b h1 h2
   cases i with
   | zero =>
    simp at h1 h2
    subst h1; subst h2
    exact h.head y (by simp)
   | succ i => exact sw_iff.1 h.tail i a b (by simpa using h1) (by simpa using h2)
  ·intro h
   have ht : SW (y :: l) := sw_iff.2 fun i a b h1 h2 => h (i + 1) a b (by simpa using h1) (by simpa using h2)
   have h0 := h 0 x y rfl rfl
   refine List.pairwise_cons.2 ⟨fun z hz => ?_, ht⟩
   rcases List.mem_cons.1 hz with rfl | hz
   ·exact h0
   ·exact cmpW_trans h0 (ht.head z hz)
theorem loop_from1 {α ρ : Type} (l : List α) (hl : l.length < 4611686018427387904) {step : Int → Option (LR Int (Unit ⊕ ρ))} (f : Nat → α → Option ρ)
  (h : ∀ (i : Nat) (x : α), 1 ≤ i → l[i]? = some x → step (i : Int) = some (nS i (f i x))) (h2 : ∀ k : Nat, l.length ≤ k → step (k : Int) = some (.done (.inl ()))) :
  loop step 1 = some (oS (firstS f (l.drop 1) 1)) := by
 have gen : ∀ (n : Nat) (k : Nat), 1 ≤ k → l.length - k < n → loopN step n (k : Int) = some (oS (firstS f (l.drop k) k)) := by
  intro n
  induction n with
  | zero => intro k _ h; omega
  | succ n ih =>
   intro k hk hn
   rw [loopN_succ]
   rcases Nat.lt_or_ge k l.length with hlt | hge
   ·have hx : l[k]? = some l[k] := List.getElem?_eq_getElem hlt
    rw [h k _ hk hx, List.drop_eq_getElem_cons hlt]
    simp only [firstS]
    cases hf : f k l[k] with
    | some r => rfl
    | none =>
     simp only [nS]
     rw [w64_in (by omega) (by omega)]
     exact ih (k + 1) (by omega) (by omega)
   ·rw [h2 k hge, List.drop_eq_nil_of_le hge]
    rfl
 exact gen fuel 1 (Nat.le_refl _) (by show l.length - 1 < 18446744073709551616; omega)
instance (l : List (List Int)) : Decidable (SW l) := by unfold SW; infer_instance
theorem fs_chain {ρ : Type} (l : List (List Int)) (r : ρ) : firstS (fun i x => match l[i - 1]? with | some y => if 0 ≤ cmpW y x then some r else none | none => none) (l.drop 1) 1 = if SW l then none else some r := by
 by_cases hs : SW l
 ·rw [if_pos hs]
  refine firstS_none fun i x hx => ?_
  rw [List.getElem?_drop] at hx
  have hi : 1 + i < l.length := (List.getElem?_eq_some_iff.1 hx).1
  have hy : l[1 + i - 1]? = some l[i] := by rw [show 1 + i - 1 = i by omega]; exact List.getElem?_eq_getElem (by omega)
  rw [hy]
  have := sw_iff.1 hs i l[i] x (List.getElem?_eq_getElem (by omega)) (by rw [Nat.add_comm]; exact hx)
  simp only
  rw [if_neg (by omega)]
 ·rw [if_neg hs]
  cases hf : firstS (fun i x => match l[i - 1]? with | some y => if 0 ≤ cmpW y x then some r else none | none => none) (l.drop 1) 1 with
  | some r' =>
   obtain ⟨i, x, h1, h2⟩ := firstS_some hf
   split at h2
   ·split at h2
    ·exact h2.symm
    ·cases h2
   ·cases h2
  | none =>
   exfalso
   refine hs (sw_iff.2 fun i x y hx hy => ?_)
   have := firstS_isNone hf i y (by rw [List.getElem?_drop, Nat.add_comm]; exact hy)
   rw [show 1 + i - 1 = i by omega, hx] at this
   simp only at this
   split at this
   ·cases this
   ·omega
theorem ahead_eq (l : List (List Int)) (h : l.length ≤ 4096) (hw : ∀ w ∈ l, w.length < 4611686018427387904) : tries_ahead l = some (decide (SW l)) := by
 unfold tries_ahead
 rw [bdT (loop_from1 l (by omega) (step := fun s => tries_ahead_L2 l s) (fun i x => match l[i - 1]? with | some y => if 0 ≤ cmpW y x then some false else none | none => none) ?_ ?_), fs_chain]
 ·by_cases hs : SW l
  ·simp [hs, oS, tries_ahead_J1]
  ·simp [hs, oS]
 ·intro i x hi hx
  have hil : i < l.length := (List.getElem?_eq_some_iff.1 hx).1
  have hy : l[i - 1]? = some l[i - 1] := List.getElem?_eq_getElem (by omega)
  have hq : decide ((i : Int) < (l.length : Int)) = true := by simpa using hil
  unfold tries_ahead_L2
  rw [w64_in (x := (i : Int) - 1) (by omega) (by omega), show ((i : Int) - 1) = ((i - 1 : Nat) : Int) by omega]
  have hE := Compare_eq l[i - 1] x (hw _ (List.getElem_mem (by omega)))
  simp only [hq, cond_true, idx_some hx, idx_some hy, Option.bind_some, hy, hE]
  by_cases hc : 0 ≤ cmpW l[i - 1] x
  ·simp [hc, nS]
  ·simp [hc, nS]
 ·intro k hk; unfold tries_ahead_L2; have : decide ((k : Int) < (l.length : Int)) = false := by simp; omega
  simp only [this, cond_false]
def chE (n : Int) (l : List (List Int)) : Int := if loE n l ≠ 0 then loE n l else if SW l then (if 65536 < syms l then 3 else 0) else 1
theorem chE_zero {n : Int} {l : List (List Int)} : chE n l = 0 ↔ loE n l = 0 ∧ SW l ∧ syms l ≤ 65536 := by
 unfold chE
 by_cases h : loE n l = 0
 ·rw [if_neg (by simp [h])]
  by_cases h2 : SW l
  ·rw [if_pos h2]
   by_cases h3 : 65536 < syms l
   ·rw [if_pos h3]; exact ⟨fun q => by simp at q, fun q => by omega⟩
   ·rw [if_neg h3]; exact ⟨fun _ => ⟨h, h2, by omega⟩, fun _ => rfl⟩
  ·rw [if_neg h2]; exact ⟨fun q => by simp at q, fun q => absurd q.2.1 h2⟩
 ·rw [if_pos h]; exact ⟨fun q => absurd q h, fun q => absurd q.1 h⟩
theorem loE_small {n : Int} {l : List (List Int)} (h : loE n l = 0) : l.length ≤ 4096 ∧ (∀ w ∈ l, w.length ≤ 256) ∧ syms l ≤ 1048576 := by
 obtain ⟨_, h1, h2⟩ := loE_zero.1 h
 refine ⟨h1, fun w hw => (h2 w hw).1, ?_⟩
 have := syms_le (m := 256) fun w hw => (h2 w hw).1
 omega
theorem tCheck_eq (l : List (List Int)) (n : Int) : tries_Check l n = some (chE n l) := by
 unfold tries_Check chE
 rw [loose_eq]
 simp only [Option.bind_some]
 by_cases h : loE n l = 0
 ·obtain ⟨h1, h2, h3⟩ := loE_small h
  rw [ahead_eq l h1 fun w hw => by have := h2 w hw; omega, steps_eq l (by omega), stW_eq (by omega)]
  simp only [h, bne_self_eq_false, cond_false, Option.bind_some, ne_eq, not_true, if_false]
  by_cases hs : SW l
  ·by_cases hq : 65536 < syms l
   ·have : (65536 : Int) < (syms l : Int) := by omega
    simp [hs, hq, this]
   ·have : ¬ (65536 : Int) < (syms l : Int) := by omega
    simp [hs, hq, this]
  ·simp [hs]
 ·have hb : (loE n l != 0) = true := by simpa using h
  simp [h, hb]
end Go.Own

namespace Go.Own
set_option linter.unusedVariables false
theorem clip_eq (w : List Int) : slices_Clip_int_int w = some w := by
 unfold slices_Clip_int_int
 rw [gdT (by omega)]
 simp
theorem clipW_eq (l : List (List Int)) : slices_ClipW_int_int_v4 l = some l := by
 unfold slices_ClipW_int_int_v4
 rw [gdT (by omega)]
 simp
theorem clone_eq (w : List Int) (h : w.length ≤ 4294967296) : slices_Clone_int_int w = some w := by
 unfold slices_Clone_int_int
 rw [gdT (by simpa using h)]
def QW (l : List (List Int)) : Prop := l.Pairwise fun a b => ¬ cmpW b a < 0
theorem mem_take {α : Type} {l : List α} {n : Nat} {x : α} : x ∈ l.take n ↔ ∃ i, i < n ∧ l[i]? = some x := by
 rw [List.mem_iff_getElem?]
 constructor
 ·rintro ⟨i, h⟩
  rw [List.getElem?_take] at h
  split at h
  ·exact ⟨i, by omega, h⟩
  ·cases h
 ·rintro ⟨i, h1, h2⟩
  exact ⟨i, by rw [List.getElem?_take, if_pos h1]; exact h2⟩
end Go.Own

namespace Go.Own
set_option linter.unusedVariables false
def extW (a : Nat) (w : List Int) : List (List Int) := (List.range a).map fun s : Nat => w ++ [(s : Int)]
def exW (a : Nat) : Nat → List (List Int)
 | 0 => [[]]
 | k + 1 => (exW a k).flatMap (extW a)
theorem extW_len (a : Nat) (w : List Int) : (extW a w).length = a := by simp [extW]
theorem flat_len (a : Nat) (l : List (List Int)) : (l.flatMap (extW a)).length = l.length * a := by
 induction l with
 | nil => simp
 | cons w l ih => rw [List.flatMap_cons, List.length_append, ih, extW_len, List.length_cons, Nat.succ_mul]; omega
theorem exW_len (a : Nat) : ∀ k, (exW a k).length = a ^ k
 | 0 => rfl
 | k + 1 => by rw [exW, flat_len, exW_len, Nat.pow_succ]
theorem exW_word (a : Nat) : ∀ k, ∀ w ∈ exW a k, w.length = k
 | 0, w, h => by simp [exW] at h; subst h; rfl
 | k + 1, w, h => by
  rw [exW, List.mem_flatMap] at h
  obtain ⟨v, h1, h2⟩ := h
  simp only [extW, List.mem_map] at h2
  obtain ⟨s, _, rfl⟩ := h2
  simp [exW_word a k v h1]
theorem ext_eq {a : Nat} (ha : a ≤ 16) {w : List Int} (hw : w.length ≤ 1000) {nx : List (List Int)} (hn : nx.length ≤ 10000000) :
  loop (fun s => tries_all_L8 (a : Int) w s.1 s.2) (nx, 0) = some (nx ++ extW a w) := by
 have h := loop_seq (step := fun s => tries_all_L8 (a : Int) w s.1 s.2) (fun i => (nx ++ (List.range i).map (fun s : Nat => w ++ [(s : Int)]), (i : Int))) a (t := nx ++ extW a w) (by omega) (by
  intro i hi
  show tries_all_L8 (a : Int) w _ (i : Int) = _
  unfold tries_all_L8
  have hq : decide ((i : Int) < (a : Int)) = true := by simpa using hi
  simp only [hq, cond_true, clip_eq, Option.bind_some]
  rw [gdT (by simp; omega), gdT (by simp; omega), w64_in (by omega) (by omega), List.range_succ, List.map_append, List.append_assoc]
  rfl) (by
  show tries_all_L8 (a : Int) w _ (a : Int) = _
  unfold tries_all_L8
  simp [extW])
 have h0 : ((nx ++ (List.range 0).map (fun s : Nat => w ++ [(s : Int)])), ((0 : Nat) : Int)) = (nx, (0 : Int)) := by simp
 rw [h0] at h
 exact h
theorem next_eq {a : Nat} (ha : a ≤ 16) {l : List (List Int)} (hw : ∀ w ∈ l, w.length ≤ 1000) (hl : l.length ≤ 100000) :
  loop (fun s => tries_all_L6 (a : Int) l s.1 s.2) (([] : List (List Int)), 0) = some (l.flatMap (extW a)) := by
 have h := loop_seq (step := fun s => tries_all_L6 (a : Int) l s.1 s.2) (fun i => ((l.take i).flatMap (extW a), (i : Int))) l.length (t := l.flatMap (extW a)) (by omega) (by
  intro i hi
  show tries_all_L6 (a : Int) l _ (i : Int) = _
  unfold tries_all_L6
  have hq : decide ((i : Int) < (l.length : Int)) = true := by simpa using hi
  have hx : l[i]? = some l[i] := List.getElem?_eq_getElem hi
  have hlen : ((l.take i).flatMap (extW a)).length ≤ 10000000 := by
   rw [flat_len, List.length_take]
   have : min i l.length * a ≤ 100000 * 16 := Nat.mul_le_mul (by omega) ha
   omega
  simp only [hq, cond_true, idx_some hx, Option.bind_some]
  rw [bdT (ext_eq ha (hw _ (List.getElem_mem hi)) hlen)]
  unfold tries_all_J7
  rw [w64_in (by omega) (by omega), List.take_add_one, hx, List.flatMap_append]
  simp) (by
  show tries_all_L6 (a : Int) l _ (l.length : Int) = _
  unfold tries_all_L6
  simp)
 simpa using h
def outW (a f : Nat) : Nat → List (List Int)
 | 0 => []
 | k + 1 => if f ≤ k then outW a f k ++ exW a k else outW a f k
def syW (a f : Nat) : Nat → Nat
 | 0 => 0
 | k + 1 => if f ≤ k then syW a f k + k * a ^ k else syW a f k
def stopW (a f t k : Nat) : Prop := 4096 < (outW a f (k + 1)).length ∨ 65536 < syW a f (k + 1) ∨ k < t ∧ 4096 < a ^ k * a
instance (a f t k : Nat) : Decidable (stopW a f t k) := by unfold stopW; infer_instance
theorem all_round {a f t k : Nat} (ha : 1 ≤ a ∧ a ≤ 16) (hf : f ≤ 256) (ht : t ≤ 256) (hk : k ≤ t) (ho : (outW a f k).length ≤ 4096) (hs : syW a f k ≤ 65536) (hl : a ^ k ≤ 4096) :
  tries_all_L1 (a : Int) (f : Int) (t : Int) (outW a f k) (exW a k) (syW a f k : Int) (k : Int) = if stopW a f t k then some (.done ([], 3)) else if k = t then Option.bind (tries_sorted (outW a f (k + 1))) (fun r => some (.done (r.1, r.2))) else some (.next (outW a f (k + 1), exW a (k + 1), (syW a f (k + 1) : Int), ((k + 1 : Nat) : Int))) := by
 have hmul : k * a ^ k ≤ 256 * 4096 := Nat.mul_le_mul (by omega) hl
 have hma : a ^ k * a ≤ 4096 * 16 := Nat.mul_le_mul hl ha.2
 have e : tries_all_L1 (a : Int) (f : Int) (t : Int) (outW a f k) (exW a k) (syW a f k : Int) (k : Int) = tries_all_J3 (a : Int) (t : Int) (exW a k) (k : Int) (outW a f (k + 1)) (syW a f (k + 1) : Int) := by
  unfold tries_all_L1
  by_cases h : f ≤ k
  ·have hd : decide ((k : Int) ≥ (f : Int)) = true := by simpa using h
   simp only [hd, cond_true]
   have hm : w64 ((k : Int) * ((exW a k).length : Int)) = ((k * a ^ k : Nat) : Int) := by
    rw [exW_len, ← Int.natCast_mul, w64_in (by omega) (by omega)]
   rw [gdT (by rw [exW_len]; omega), hm, w64_in (by omega) (by omega)]
   simp only [outW, syW, if_pos h]
   congr 1
  ·have hd : decide ((k : Int) ≥ (f : Int)) = false := by simp; omega
   simp only [hd, cond_false, outW, syW, if_neg h]
 rw [e]
 unfold tries_all_J3
 by_cases h1 : 4096 < (outW a f (k + 1)).length
 ·have : decide (((outW a f (k + 1)).length : Int) > 4096) = true := by simp only [decide_eq_true_eq]; omega
  simp only [this, cond_true]
  rw [if_pos (show stopW a f t k from .inl h1)]
 have d1 : decide (((outW a f (k + 1)).length : Int) > 4096) = false := by simp; omega
 simp only [d1, cond_false]
 by_cases h2 : 65536 < syW a f (k + 1)
 ·have : decide ((syW a f (k + 1) : Int) > 65536) = true := by simp only [decide_eq_true_eq]; omega
  simp only [this, cond_true]
  rw [if_pos (show stopW a f t k from .inr (.inl h2))]
 have d2 : decide ((syW a f (k + 1) : Int) > 65536) = false := by simp; omega
 simp only [d2, cond_false]
 have hm : w64 (((exW a k).length : Int) * (a : Int)) = ((a ^ k * a : Nat) : Int) := by
  rw [exW_len, ← Int.natCast_mul, w64_in (by omega) (by omega)]
 rw [hm]
 have J4 : ∀ (hns : ¬ (k < t ∧ 4096 < a ^ k * a)) (b : Bool), tries_all_J4 (a : Int) (t : Int) (exW a k) (k : Int) (outW a f (k + 1)) (syW a f (k + 1) : Int) b = if k = t then Option.bind (tries_sorted (outW a f (k + 1))) (fun r => some (.done (r.1, r.2))) else some (.next (outW a f (k + 1), exW a (k + 1), (syW a f (k + 1) : Int), ((k + 1 : Nat) : Int))) := by
  intro hns b
  unfold tries_all_J4
  by_cases hkt : k = t
  ·subst hkt
   simp
  ·have hd : ((k : Int) == (t : Int)) = false := by simp; omega
   simp only [hd, cond_false, if_neg hkt]
   rw [bdT (next_eq ha.2 (fun w hw => by rw [exW_word a k w hw]; omega) (by rw [exW_len]; omega))]
   unfold tries_all_J5 tries_all_J2
   rw [w64_in (by omega) (by omega)]
   rfl
 by_cases hkt : k < t
 ·have hd : decide ((k : Int) < (t : Int)) = true := by simpa using hkt
  simp only [hd, cond_true]
  by_cases h3 : 4096 < a ^ k * a
  ·have : decide (((a ^ k * a : Nat) : Int) > 4096) = true := by simp only [decide_eq_true_eq]; omega
   simp only [this, cond_true]
   rw [if_pos (show stopW a f t k from .inr (.inr ⟨hkt, h3⟩))]
  ·have : decide (((a ^ k * a : Nat) : Int) > 4096) = false := by simp only [decide_eq_false_iff_not]; omega
   simp only [this, cond_false]
   rw [J4 (by omega), if_neg (show ¬ stopW a f t k by unfold stopW; omega)]
 ·have hd : decide ((k : Int) < (t : Int)) = false := by simp; omega
  simp only [hd, cond_false]
  rw [J4 (by omega), if_neg (show ¬ stopW a f t k by unfold stopW; omega)]
theorem notStop_small {a f t k : Nat} (ha : 1 ≤ a) (hs : ¬ stopW a f t k) (hk : k < t) : (outW a f (k + 1)).length ≤ 4096 ∧ syW a f (k + 1) ≤ 65536 ∧ a ^ (k + 1) ≤ 4096 := by
 unfold stopW at hs
 rw [Nat.pow_succ]
 omega
theorem all_gen {a f t : Nat} (ha : 1 ≤ a ∧ a ≤ 16) (hf : f ≤ 256) (ht : t ≤ 256) {r : Option (List (List Int) × Int)}
  (hr : (∃ j, j ≤ t ∧ stopW a f t j) → r = some ([], 3)) (hr2 : (∀ j, j ≤ t → ¬ stopW a f t j) → r = Option.bind (tries_sorted (outW a f (t + 1))) fun r => some (r.1, r.2)) :
  ∀ (m k : Nat), k ≤ t → t - k < m → (∀ j, j < k → ¬ stopW a f t j) → (outW a f k).length ≤ 4096 → syW a f k ≤ 65536 → a ^ k ≤ 4096 → loopN (fun s => tries_all_L1 (a : Int) (f : Int) (t : Int) s.1 s.2.1 s.2.2.1 s.2.2.2) m (outW a f k, exW a k, (syW a f k : Int), (k : Int)) = r
 | 0, k, _, h, _, _, _, _ => by omega
 | m + 1, k, hk, hm, hns, h1, h2, h3 => by
  rw [loopN_succ]
  dsimp only
  rw [all_round ha hf ht hk h1 h2 h3]
  by_cases hst : stopW a f t k
  ·rw [if_pos hst, hr ⟨k, hk, hst⟩]
  ·rw [if_neg hst]
   by_cases hkt : k = t
   ·subst hkt
    rw [if_pos rfl, hr2 fun j hj => by
     rcases Nat.lt_or_ge j k with q | q
     ·exact hns j q
     ·rw [show j = k by omega]; exact hst]
    cases tries_sorted (outW a f (k + 1)) <;> rfl
   ·rw [if_neg hkt]
    obtain ⟨q1, q2, q3⟩ := notStop_small ha.1 hst (by omega)
    exact all_gen ha hf ht hr hr2 m (k + 1) (by omega) (by omega) (fun j hj => by
     rcases Nat.lt_or_ge j k with q | q
     ·exact hns j q
     ·rw [show j = k by omega]; exact hst) q1 q2 q3
theorem all_eq {a f t : Nat} (ha : 1 ≤ a ∧ a ≤ 16) (hf : f ≤ 256) (ht : t ≤ 256) {r : Option (List (List Int) × Int)}
  (hr : (∃ j, j ≤ t ∧ stopW a f t j) → r = some ([], 3)) (hr2 : (∀ j, j ≤ t → ¬ stopW a f t j) → r = Option.bind (tries_sorted (outW a f (t + 1))) fun r => some (r.1, r.2)) :
  tries_all (a : Int) (f : Int) (t : Int) = r := by
 unfold tries_all
 have d1 : decide ((a : Int) > 16) = false := by simp; omega
 have d2 : decide ((a : Int) < 1) = false := by simp; omega
 have d3 : decide ((t : Int) < 0) = false := by simp
 have d4 : decide ((t : Int) > 256) = false := by simp; omega
 simp only [d1, d2, d3, d4, cond_false]
 have h := all_gen ha hf ht hr hr2 fuel 0 (Nat.zero_le _) (by show t - 0 < 18446744073709551616; omega) (fun j hj => by omega) (by simp [outW]) (by simp [syW]) (by simp)
 have h' : loop (fun s => tries_all_L1 (a : Int) (f : Int) (t : Int) s.1 s.2.1 s.2.2.1 s.2.2.2) (([] : List (List Int)), ([[]] : List (List Int)), 0, 0) = r := h
 rw [h']
 cases r <;> rfl
theorem upto12 : tries_Upto 2 12 = some ([], 3) := by
 unfold tries_Upto
 have len : ∀ k, (outW 2 0 k).length = 2 ^ k - 1 := by
  intro k
  induction k with
  | zero => rfl
  | succ k ih => simp only [outW, Nat.zero_le, if_true, List.length_append, ih, exW_len, Nat.pow_succ]; have : 1 ≤ 2 ^ k := Nat.one_le_two_pow; omega
 have h12 : stopW 2 0 12 12 := by
  unfold stopW
  rw [len]
  left; decide
 have := all_eq (a := 2) (f := 0) (t := 12) (r := some ([], 3)) (by omega) (by omega) (by omega) (fun _ => rfl) (fun h => absurd h12 (h 12 (by omega)))
 have h2 : tries_all 2 0 12 = some ([], 3) := this
 rw [h2]
 rfl
theorem lives_true : law12_lives = some true := by
 unfold law12_lives
 rw [upto12]
 kernel_rfl
end Go.Own

namespace Go.Own
set_option linter.unusedVariables false
theorem fs_mem (w : List Int) : ∀ (l : List (List Int)) (k : Nat), firstS (fun _ x => if x = w then some true else none) l k = if w ∈ l then some true else none
 | [], _ => rfl
 | x :: l, k => by
  by_cases h : x = w
  ·simp [firstS, h]
  ·simp only [firstS, if_neg h, fs_mem w l (k + 1), List.mem_cons]
   by_cases h2 : w ∈ l
   ·simp [h2]
   ·have : ¬ w = x := fun e => h e.symm
    simp [h2, this]
theorem rHas_eq (l : List (List Int)) (w : List Int) (hl : l.length < 4611686018427387904) (hw : w.length < 4611686018427387904) : ref12_Has l w = some (decide (w ∈ l)) := by
 unfold ref12_Has
 rw [bdT (loop_list l hl (step := fun s => ref12_Has_L2 l w s) (fun _ x => if x = w then some true else none) ?_ ?_), fs_mem]
 ·by_cases h : w ∈ l
  ·simp [h, oS]
  ·simp [h, oS, ref12_Has_J1]
 ·intro i x hx
  have hi : i < l.length := (List.getElem?_eq_some_iff.1 hx).1
  have hq : decide ((i : Int) < (l.length : Int)) = true := by simpa using hi
  unfold ref12_Has_L2
  simp only [hq, cond_true, idx_some hx, Option.bind_some, compare_eq x w (fun e => by omega)]
  by_cases h : x = w
  ·subst h; simp [cmpW_self, nS]
  ·have : (cmpW x w == 0) = false := by simp; exact fun q => h (cmpW_eq q)
   simp [this, h, nS]
 ·unfold ref12_Has_L2; simp
end Go.Own

namespace Go.Own
set_option linter.unusedVariables false
theorem put_place {l : List (List Int)} (hs : SW l) {w : List Int} {i : Nat} (hi : i ≤ l.length) (h1 : ∀ m x, m < i → l[m]? = some x → cmpW x w < 0) (h2 : ∀ m x, i ≤ m → l[m]? = some x → cmpW w x < 0) : l.take i ++ w :: l.drop i = putW w l := by
 have ht : ∀ x ∈ l.take i, cmpW x w < 0 := fun x hx => by
  obtain ⟨m, q1, q2⟩ := mem_take.1 hx
  exact h1 m x q1 q2
 have hd : ∀ x ∈ l.drop i, cmpW w x < 0 := fun x hx => by
  obtain ⟨m, q⟩ := List.mem_iff_getElem?.1 hx
  rw [List.getElem?_drop] at q
  exact h2 (i + m) x (by omega) q
 refine SW.unique ?_ hs.put fun x => ?_
 ·unfold SW
  rw [List.pairwise_append, List.pairwise_cons]
  refine ⟨hs.sub (List.take_sublist _ _), ⟨hd, hs.sub (List.drop_sublist _ _)⟩, fun a ha b hb => ?_⟩
  rcases List.mem_cons.1 hb with rfl | hb
  ·exact ht a ha
  ·exact cmpW_trans (ht a ha) (hd b hb)
 ·rw [mem_putW]
  have : x ∈ l ↔ x ∈ l.take i ∨ x ∈ l.drop i := by rw [← List.mem_append, List.take_append_drop]
  rw [this]
  simp only [List.mem_append, List.mem_cons]
  constructor
  ·rintro (h | h | h) <;> simp [h]
  ·rintro (h | h | h) <;> simp [h]
theorem put_eq {l : List (List Int)} (hs : SW l) (hl : l.length ≤ 1000000) (hw : ∀ x ∈ l, x.length < 4611686018427387904) {w : List Int} (hww : w.length ≤ 4294967296) : ref12_put l w = some (putW w l) := by
 unfold ref12_put
 apply Ret.eq
 rw [ret_bind]
 refine Ret.mono (ret_loop (fun q : Int × Int => ∃ i j : Nat, q = ((i : Int), (j : Int)) ∧ i ≤ j ∧ j ≤ l.length ∧ (∀ m x, m < i → l[m]? = some x → cmpW x w < 0) ∧ ∀ m x, j ≤ m → l[m]? = some x → ¬ cmpW x w < 0) (fun q => (q.2 - q.1).toNat) (R := fun t => ∃ i : Nat, t = (i : Int) ∧ i ≤ l.length ∧ (∀ m x, m < i → l[m]? = some x → cmpW x w < 0) ∧ ∀ m x, i ≤ m → l[m]? = some x → ¬ cmpW x w < 0) ?_ ?_ ?_) ?_
 ·exact ⟨0, l.length, rfl, Nat.zero_le _, Nat.le_refl _, fun m x h => by omega, fun m x h hx => by have := (List.getElem?_eq_some_iff.1 hx).1; omega⟩
 ·simp only; omega
 ·rintro _ ⟨i, j, rfl, g1, g2, g3, g4⟩
  show Ret (ref12_put_L5 l w (i : Int) (j : Int)) _
  unfold ref12_put_L5
  rw [ret_bif]
  refine ⟨fun hc => ?_, fun hc => ?_⟩
  ·have hij : i < j := by simpa using hc
   have hh : w64 (Int.tdiv (w64 ((i : Int) + (j : Int))) 2) = (((i + j) / 2 : Nat) : Int) := by
    rw [w64_in (x := (i : Int) + (j : Int)) (by omega) (by omega)]
    have : Int.tdiv ((i : Int) + (j : Int)) 2 = (((i + j) / 2 : Nat) : Int) := by
     rw [show ((i : Int) + (j : Int)) = ((i + j : Nat) : Int) by omega, Int.tdiv_eq_ediv_of_nonneg (by omega)]
     rfl
    rw [this, w64_in (by omega) (by omega)]
   rw [gdT (by omega), hh]
   have hm : (i + j) / 2 < l.length := by omega
   have hx : l[(i + j) / 2]? = some l[(i + j) / 2] := List.getElem?_eq_getElem hm
   rw [idx_some hx]
   simp only [Option.bind_some]
   rw [compare_eq _ _ (fun _ => hw _ (List.getElem_mem hm))]
   simp only [Option.bind_some]
   by_cases hc2 : cmpW l[(i + j) / 2] w < 0
   ·simp only [hc2, decide_true, cond_true]
    rw [w64_in (by omega) (by omega), ret_some]
    refine ⟨⟨(i + j) / 2 + 1, j, by simp, by omega, g2, fun m x h hmx => ?_, g4⟩, by simp only; omega⟩
    rcases Nat.lt_or_ge m ((i + j) / 2) with q | q
    ·have h1 := (List.pairwise_iff_getElem.1 hs) m ((i + j) / 2) (List.getElem?_eq_some_iff.1 hmx).1 hm q
     rw [(List.getElem?_eq_some_iff.1 hmx).2] at h1
     exact cmpW_trans h1 hc2
    ·rw [show m = (i + j) / 2 by omega, hx] at hmx
     cases hmx
     exact hc2
   ·simp only [hc2, decide_false, cond_false]
    rw [ret_some]
    refine ⟨⟨i, (i + j) / 2, rfl, by omega, by omega, g3, fun m x h hmx hlt => ?_⟩, by simp only; omega⟩
    rcases Nat.lt_or_ge ((i + j) / 2) m with q | q
    ·have h1 := (List.pairwise_iff_getElem.1 hs) ((i + j) / 2) m hm (List.getElem?_eq_some_iff.1 hmx).1 q
     rw [(List.getElem?_eq_some_iff.1 hmx).2] at h1
     exact hc2 (cmpW_trans h1 hlt)
    ·rw [show m = (i + j) / 2 by omega, hx] at hmx
     cases hmx
     exact hc2 hlt
  ·have hij : i = j := by
    have : ¬ i < j := by simpa using hc
    omega
   subst hij
   rw [ret_some]
   exact ⟨i, rfl, g2, g3, g4⟩
 ·rintro _ ⟨i, rfl, h1, h2, h3⟩
  have J2 : (∀ x, l[i]? = some x → x ≠ w) → Ret (ref12_put_J2 l w (i : Int)) fun r => r = putW w l := by
   intro hne
   have h4 : ∀ m x, i ≤ m → l[m]? = some x → cmpW w x < 0 := by
    intro m x hm hx
    have hil : i < l.length := by have := (List.getElem?_eq_some_iff.1 hx).1; omega
    have hxi : l[i]? = some l[i] := List.getElem?_eq_getElem hil
    have hlt : cmpW w l[i] < 0 := by
     rcases cmpW_ge.1 (h3 i _ (Nat.le_refl _) hxi) with q | q
     ·exact q
     ·exact absurd q (hne _ hxi)
    rcases Nat.lt_or_ge i m with q | q
    ·have h5 := (List.pairwise_iff_getElem.1 hs) i m hil (List.getElem?_eq_some_iff.1 hx).1 q
     rw [(List.getElem?_eq_some_iff.1 hx).2] at h5
     exact cmpW_trans hlt h5
    ·rw [show m = i by omega, hxi] at hx
     cases hx
     exact hlt
   unfold ref12_put_J2
   rw [gdT (by simp; omega), ret_bind]
   have hlen : w64 ((((l ++ ([[]] : List (List Int))).length : Nat) : Int) - 1) = ((l.length : Nat) : Int) := by
    rw [List.length_append, List.length_singleton, w64_in (by omega) (by omega)]; omega
   rw [hlen]
   refine Ret.mono (ret_loop (fun q : List (List Int) × Int => ∃ (j : Nat) (x : List Int), q = (l.take j ++ x :: l.drop j, (j : Int)) ∧ i ≤ j ∧ j ≤ l.length) (fun q => q.2.toNat) (R := fun t => ∃ x : List Int, t = l.take i ++ x :: l.drop i) ⟨l.length, [], by simp, h1, Nat.le_refl _⟩ (by simp only [Int.toNat_natCast]; omega) ?_) ?_
   ·rintro _ ⟨j, x, rfl, g1, g2⟩
    show Ret (ref12_put_L4 (i : Int) (l.take j ++ x :: l.drop j) (j : Int)) _
    unfold ref12_put_L4
    rw [ret_bif]
    refine ⟨fun hc => ?_, fun hc => ?_⟩
    ·have hij : i < j := by simpa using hc
     have hA : (l.take j).length = j := by rw [List.length_take]; omega
     have hy : (l.take j ++ x :: l.drop j)[j - 1]? = some l[j - 1] := by
      rw [List.getElem?_append_left (by omega), List.getElem?_take, if_pos (by omega)]; exact List.getElem?_eq_getElem (by omega)
     have hz : (l.take j ++ x :: l.drop j)[j]? = some x := by
      rw [List.getElem?_append_right (by omega), hA]; simp
     rw [w64_in (by omega) (by omega), show (j : Int) - 1 = ((j - 1 : Nat) : Int) by omega, idx_some hy, idx_some hz]
     simp only [Option.bind_some, ret_some, Int.toNat_natCast]
     refine ⟨⟨j - 1, l[j - 1], ?_, by omega, by omega⟩, by simp only [Int.toNat_natCast]; omega⟩
     rw [List.set_append_right _ _ (by omega), hA, Nat.sub_self, List.set_cons_zero]
     have e1 : l.take j = l.take (j - 1) ++ [l[j - 1]] := by
      have := List.take_add_one (l := l) (i := j - 1)
      rw [show j - 1 + 1 = j by omega, List.getElem?_eq_getElem (by omega)] at this
      exact this
     have e2 : l.drop (j - 1) = l[j - 1] :: l.drop j := by
      rw [List.drop_eq_getElem_cons (by omega), show j - 1 + 1 = j by omega]
     rw [e2, e1, List.append_assoc]
     rfl
    ·have hij : j = i := by
      have : ¬ i < j := by simpa using hc
      omega
     subst hij
     rw [ret_some]
     exact ⟨x, rfl⟩
   ·rintro _ ⟨x, rfl⟩
    unfold ref12_put_J3
    have hA : (l.take i).length = i := by rw [List.length_take]; omega
    have hz : (l.take i ++ x :: l.drop i)[i]? = some x := by
     rw [List.getElem?_append_right (by omega), hA]; simp
    rw [gdT (by simpa using hww), idx_some hz]
    simp only [Option.bind_some, ret_some, Int.toNat_natCast]
    rw [List.set_append_right _ _ (by omega), hA, Nat.sub_self, List.set_cons_zero]
    exact put_place hs h1 h2 h4
  unfold ref12_put_J1
  rw [ret_bif]
  refine ⟨fun hc => ?_, fun hc => ?_⟩
  ·have hi : i < l.length := by simpa using hc
   have hx : l[i]? = some l[i] := List.getElem?_eq_getElem hi
   rw [idx_some hx]
   simp only [Option.bind_some]
   rw [compare_eq _ _ (fun _ => hw _ (List.getElem_mem hi))]
   simp only [Option.bind_some]
   by_cases he : l[i] = w
   ·have hb : (cmpW l[i] w == 0) = true := by rw [he, cmpW_self]; rfl
    rw [hb, cond_true, ret_some]
    refine SW.unique hs hs.put fun x => ?_
    rw [mem_putW]
    refine ⟨fun q => .inr q, fun q => ?_⟩
    rcases q with rfl | q
    ·exact he ▸ List.getElem_mem hi
    ·exact q
   ·have hb : (cmpW l[i] w == 0) = false := by simp; exact fun q => he (cmpW_eq q)
    rw [hb, cond_false]
    exact J2 fun x hx2 => by rw [hx] at hx2; cases hx2; exact he
  ·have hi : ¬ i < l.length := by simpa using hc
   exact J2 fun x hx2 => by have := (List.getElem?_eq_some_iff.1 hx2).1; omega
theorem rSort_eq {l : List (List Int)} (hl : l.length ≤ 1000000) (hw : ∀ x ∈ l, x.length ≤ 4294967296) : ref12_Sort l = some (srt l) := by
 unfold ref12_Sort
 have h := loop_seq (step := fun s => ref12_Sort_L2 l s.1 s.2) (fun i => (srt (l.take i), (i : Int))) l.length (t := srt l) (by omega) (by
  intro i hi
  show ref12_Sort_L2 l _ (i : Int) = _
  unfold ref12_Sort_L2
  have hq : decide ((i : Int) < (l.length : Int)) = true := by simpa using hi
  have hx : l[i]? = some l[i] := List.getElem?_eq_getElem hi
  simp only [hq, cond_true, idx_some hx, Option.bind_some]
  have hlen : (srt (l.take i)).length ≤ 1000000 := by have := srt_len (l.take i); rw [List.length_take] at this; omega
  rw [put_eq (srt_sw _) hlen (fun x hx => by have := hw x (List.mem_of_mem_take (mem_srt.1 hx)); omega) (hw _ (List.getElem_mem hi))]
  simp only [Option.bind_some]
  rw [w64_in (by omega) (by omega), ← srt_snoc, List.take_add_one, hx]
  rfl) (by
  show ref12_Sort_L2 l _ (l.length : Int) = _
  unfold ref12_Sort_L2
  simp)
 have h0 : (srt (l.take 0), ((0 : Nat) : Int)) = (([] : List (List Int)), (0 : Int)) := by simp [srt]
 rw [h0] at h
 rw [bdT h]
 rfl
theorem same_eq (a b : List (List Int)) (hl : a.length < 4611686018427387904) (hw : ∀ x ∈ a, x.length < 4611686018427387904) : law12_same a b = some (decide (a = b)) := by
 have hS : ref12_Same a b = some (decide (a = b)) := by
  unfold ref12_Same
  by_cases he : a.length = b.length
  ·have hb : (((a.length : Nat) : Int) != ((b.length : Nat) : Int)) = false := by simp; omega
   simp only [hb, cond_false]
   rw [bdT (loop_list a hl (step := fun s => ref12_Same_L2 a b s) (fun i x => if b[i]? = some x then none else some false) ?_ ?_)]
   ·cases hf : firstS (fun i x => if b[i]? = some x then none else some false) a 0 with
    | some r =>
     obtain ⟨i, x, h1, h2⟩ := firstS_some hf
     rw [Nat.zero_add] at h2
     split at h2
     ·cases h2
     ·rename_i h3
      have : a ≠ b := fun e => h3 (by rw [← e]; exact h1)
      cases h2
      simp [oS, this]
    | none =>
     have hab : a = b := by
      refine List.ext_getElem? fun i => ?_
      rcases Nat.lt_or_ge i a.length with q | q
      ·have hx : a[i]? = some a[i] := List.getElem?_eq_getElem q
       have := firstS_isNone hf i _ hx
       rw [Nat.zero_add] at this
       split at this
       ·rename_i h3; rw [h3, hx]
       ·cases this
      ·rw [List.getElem?_eq_none q, List.getElem?_eq_none (by omega)]
     simp [oS, ref12_Same_J1, hab]
   ·intro i x hx
    have hi : i < a.length := (List.getElem?_eq_some_iff.1 hx).1
    have hq : decide ((i : Int) < (a.length : Int)) = true := by simpa using hi
    have hy : b[i]? = some b[i] := List.getElem?_eq_getElem (by omega)
    have hxm : x ∈ a := (List.getElem?_eq_some_iff.1 hx).2 ▸ List.getElem_mem hi
    unfold ref12_Same_L2
    simp only [hq, cond_true, idx_some hx, idx_some hy, Option.bind_some, compare_eq x b[i] (fun _ => hw x hxm), hy]
    by_cases h : b[i] = x
    ·rw [if_pos (by rw [h]), h, cmpW_self]; rfl
    ·have : (cmpW x b[i] != 0) = true := by simp; exact fun q => h (cmpW_eq q).symm
     rw [this, if_neg (by simpa using h)]
     rfl
   ·unfold ref12_Same_L2; simp
  ·have hb : (((a.length : Nat) : Int) != ((b.length : Nat) : Int)) = true := by simp; omega
   have : a ≠ b := fun e => he (by rw [e])
   simp [hb, this]
 unfold law12_same
 rw [hS]
 simp only [Option.bind_some]
 by_cases he : a = b
 ·simp only [he, decide_true, Bool.not_true, cond_false, bne_self_eq_false]
  subst he
  rw [bdT (loop_list a hl (step := fun s => law12_same_L2 a s) (fun i x => none) ?_ ?_)]
  ·rw [firstS_none fun _ _ _ => rfl]
   rfl
  ·intro i x hx
   have hi : i < a.length := (List.getElem?_eq_some_iff.1 hx).1
   have hq : decide ((i : Int) < (a.length : Int)) = true := by simpa using hi
   unfold law12_same_L2
   simp only [hq, cond_true, idx_some hx, Option.bind_some, bne_self_eq_false, cond_false]
   rfl
  ·unfold law12_same_L2; simp
 ·simp [he]
theorem syms_mono {l : List (List Int)} {m : Nat} {L : Nat} (hl : l.length ≤ L) (h : ∀ w ∈ l, w.length ≤ m) : syms l ≤ L * m := Nat.le_trans (syms_le h) (Nat.mul_le_mul_right _ hl)
end Go.Own

namespace Go.Own
set_option linter.unusedVariables false
theorem ch_small {n : Int} {l : List (List Int)} (h : chE n l = 0) : l.length ≤ 4096 ∧ (∀ w ∈ l, w.length ≤ 256) ∧ syms l ≤ 65536 ∧ SW l ∧ (1 ≤ n ∧ n ≤ 16) ∧ ∀ w ∈ l, ∀ c ∈ w, 0 ≤ c ∧ c < n := by
 obtain ⟨h1, h2, h3⟩ := chE_zero.1 h
 obtain ⟨q1, q2, _⟩ := loE_small h1
 obtain ⟨r1, _, r3⟩ := loE_zero.1 h1
 exact ⟨q1, q2, h3, h2, r1, fun w hw => (r3 w hw).2⟩
theorem syms_sub {l m : List (List Int)} (h : List.Sublist l m) : syms l ≤ syms m := by
 induction h with
 | slnil => exact Nat.le_refl _
 | cons a _ ih => simp only [syms, List.map_cons, List.sum_cons] at *; omega
 | cons_cons a _ ih => simp only [syms, List.map_cons, List.sum_cons] at *; omega
theorem syms_append (l m : List (List Int)) : syms (l ++ m) = syms l + syms m := by simp [syms]
def Wd (n : Int) (L k : Nat) (l : List (List Int)) : Prop := SW l ∧ l.length ≤ L ∧ ∀ w ∈ l, w.length ≤ k ∧ ∀ c ∈ w, 0 ≤ c ∧ c < n
theorem Wd.ch {n : Int} {L k : Nat} {l : List (List Int)} (h : Wd n L k l) (hn : 1 ≤ n ∧ n ≤ 16) (hL : L ≤ 4096) (hk : k ≤ 256) (hLk : L * k ≤ 65536) : chE n l = 0 := by
 obtain ⟨h1, h2, h3⟩ := h
 refine chE_zero.2 ⟨loE_zero.2 ⟨hn, by omega, fun w hw => ⟨by have := (h3 w hw).1; omega, (h3 w hw).2⟩⟩, h1, ?_⟩
 exact Nat.le_trans (syms_mono h2 fun w hw => (h3 w hw).1) hLk
theorem Wd.take {n : Int} {L k : Nat} {l : List (List Int)} (h : Wd n L k l) (m : Nat) : Wd n m k (l.take m) :=
 ⟨h.1.sub (List.take_sublist _ _), by rw [List.length_take]; omega, fun w hw => h.2.2 w (List.mem_of_mem_take hw)⟩
theorem same_of {n : Int} {L k : Nat} {a b : List (List Int)} (h : Wd n L k a) (hL : L ≤ 1000000) (hk : k ≤ 1000000) (e : a = b) : law12_same a b = some true := by
 rw [same_eq a b (by have := h.2.1; omega) (fun w hw => by have := (h.2.2 w hw).1; omega), decide_eq_true e]
theorem alpha_eq {x : S_law12_L} (h : 0 ≤ x.Inputs ∧ x.Inputs ≤ 255) : ∃ n : Int, law12_L_Alphabet x = some n ∧ 1 ≤ n ∧ n ≤ 3 := by
 unfold law12_L_Alphabet
 rw [gdT (by omega)]
 have e : Int.tmod x.Inputs 3 = x.Inputs % 3 := Int.tmod_eq_emod_of_nonneg h.1
 refine ⟨_, rfl, ?_, ?_⟩
 ·rw [e, w64_in (x := x.Inputs % 3) (by omega) (by omega), w64_in (by omega) (by omega)]; omega
 ·rw [e, w64_in (x := x.Inputs % 3) (by omega) (by omega), w64_in (by omega) (by omega)]; omega
theorem raw_word {x : S_law12_L} {n : Int} (hn : law12_L_Alphabet x = some n) (h1 : 1 ≤ n ∧ n ≤ 3) (hw : ∀ w ∈ x.Words, ∀ c ∈ w, 0 ≤ c ∧ c ≤ 255) {i : Nat} (hi : i < x.Words.length) :
  Ret (loop (fun s => law12_L_Raw_L5 x (i : Int) s.1 s.2) (([] : List Int), 0)) fun w => w.length ≤ 12 ∧ ∀ c ∈ w, 0 ≤ c ∧ c < n := by
 refine ret_loop (fun q => ∃ k : Nat, q.2 = (k : Int) ∧ q.1.length = k ∧ k ≤ 12 ∧ ∀ c ∈ q.1, 0 ≤ c ∧ c < n) (fun q => 12 - q.2.toNat) ⟨0, rfl, rfl, by omega, by simp⟩ (by show 12 - _ < _; omega) ?_
 rintro ⟨w, _⟩ ⟨k, rfl, g1, g2, g3⟩
 simp only at g1 g3
 show Ret (law12_L_Raw_L5 x (i : Int) w (k : Int)) _
 unfold law12_L_Raw_L5
 have hx : x.Words[i]? = some x.Words[i] := List.getElem?_eq_getElem hi
 rw [idx_some hx, Option.bind_some, ret_bif]
 have fin : w.length ≤ 12 ∧ ∀ c ∈ w, 0 ≤ c ∧ c < n := ⟨by omega, g3⟩
 refine ⟨fun hc => ?_, fun hc => ret_some.2 fin⟩
 rw [ret_bif]
 refine ⟨fun hc2 => ?_, fun hc2 => ret_some.2 fin⟩
 have hk : k < x.Words[i].length := by simpa using hc
 have hk2 : k < 12 := by simp only [decide_eq_true_eq] at hc2; omega
 have hy : (x.Words[i])[k]? = some (x.Words[i])[k] := List.getElem?_eq_getElem hk
 obtain ⟨b1, b2⟩ := hw _ (List.getElem_mem hi) _ (List.getElem_mem hk)
 rw [Option.bind_some, idx_some hy, Option.bind_some, hn, Option.bind_some, gdT (by omega), gdT (by simp; omega), w64_in (x := (k : Int) + 1) (by omega) (by omega), ret_some]
 refine ⟨⟨k + 1, rfl, by simp [g1], by omega, fun c hc => ?_⟩, by simp only; omega⟩
 rcases List.mem_append.1 hc with q | q
 ·exact g3 c q
 ·simp at q
  subst q
  rw [w64_in (by omega) (by omega), Int.tmod_eq_emod_of_nonneg b1]
  exact ⟨Int.emod_nonneg _ (by omega), Int.emod_lt_of_pos _ (by omega)⟩
theorem of_ret {x : S_law12_L} {n : Int} (hn : law12_L_Alphabet x = some n) (h1 : 1 ≤ n ∧ n ≤ 3) (hw : ∀ w ∈ x.Words, ∀ c ∈ w, 0 ≤ c ∧ c ≤ 255) : Ret (law12_L_Of x) (Wd n 40 12) := by
 have hraw : Ret (law12_L_Raw x) fun r => r.length ≤ 40 ∧ ∀ w ∈ r, w.length ≤ 12 ∧ ∀ c ∈ w, 0 ≤ c ∧ c < n := by
  unfold law12_L_Raw
  rw [ret_bind]
  refine Ret.mono (ret_loop (fun q => ∃ k : Nat, q.2 = (k : Int) ∧ q.1.length = k ∧ k ≤ 40 ∧ ∀ w ∈ q.1, w.length ≤ 12 ∧ ∀ c ∈ w, 0 ≤ c ∧ c < n) (fun q => 40 - q.2.toNat) (R := fun r : List (List Int) => r.length ≤ 40 ∧ ∀ w ∈ r, w.length ≤ 12 ∧ ∀ c ∈ w, 0 ≤ c ∧ c < n) ⟨0, rfl, rfl, by omega, by simp⟩ (by show 40 - _ < _; omega) ?_) fun r hr => ret_some.2 hr
  rintro ⟨out, _⟩ ⟨k, rfl, g1, g2, g3⟩
  simp only at g1 g3
  show Ret (law12_L_Raw_L2 x out (k : Int)) _
  unfold law12_L_Raw_L2
  have fin : out.length ≤ 40 ∧ ∀ w ∈ out, w.length ≤ 12 ∧ ∀ c ∈ w, 0 ≤ c ∧ c < n := ⟨by omega, g3⟩
  rw [ret_bif]
  refine ⟨fun hc => ?_, fun hc => ret_some.2 fin⟩
  rw [ret_bif]
  refine ⟨fun hc2 => ?_, fun hc2 => ret_some.2 fin⟩
  have hk : k < x.Words.length := by simpa using hc
  have hk2 : k < 40 := by simp only [decide_eq_true_eq] at hc2; omega
  rw [ret_bind]
  refine (raw_word hn h1 hw hk).mono fun w hww => ?_
  unfold law12_L_Raw_J4 law12_L_Raw_J3
  rw [gdT (by simp; omega), w64_in (by omega) (by omega), ret_some]
  refine ⟨⟨k + 1, rfl, by simp [g1], by omega, fun v hv => ?_⟩, by simp only; omega⟩
  rcases List.mem_append.1 hv with q | q
  ·exact g3 v q
  ·simp at q
   subst q
   exact hww
 unfold law12_L_Of
 rw [ret_bind]
 refine hraw.mono fun r hr => ?_
 rw [rSort_eq (by omega) (fun w hw => by have := (hr.2 w hw).1; omega), Option.bind_some, ret_some]
 exact ⟨srt_sw _, Nat.le_trans (srt_len _) hr.1, fun w hw => hr.2 w (mem_srt.1 hw)⟩
end Go.Own

namespace Go.Own
set_option linter.unusedVariables false
theorem lexC_app : ∀ {u v : List Int} (x y : List Int), u.length = v.length → lexC u v < 0 → lexC (u ++ x) (v ++ y) < 0
 | [], [], _, _, _, h => by simp [lexC] at h
 | [], _ :: _, _, _, h, _ => by simp at h
 | _ :: _, [], _, _, h, _ => by simp at h
 | a :: u, b :: v, x, y, hl, h => by
  simp only [List.cons_append, lexC] at h ⊢
  by_cases h1 : a < b
  ·simp [h1]
  ·by_cases h2 : b < a
   ·simp [h1, h2] at h
   ·simp only [h1, h2, if_false] at h ⊢
    exact lexC_app x y (by simpa using hl) h
theorem lexC_snoc : ∀ (u : List Int) {s t : Int}, s < t → lexC (u ++ [s]) (u ++ [t]) < 0
 | [], s, t, h => by simp [lexC, h]
 | a :: u, s, t, h => by
  simp only [List.cons_append, lexC, Int.lt_irrefl, if_false]
  exact lexC_snoc u h
theorem cmpW_len {a b : List Int} (h : a.length = b.length) : cmpW a b = lexC a b := by unfold cmpW; rw [if_neg (by omega), if_neg (by omega)]
theorem extW_sw (a : Nat) (w : List Int) : SW (extW a w) := by
 unfold extW SW
 rw [List.pairwise_map]
 refine List.Pairwise.imp (fun {s t} h => ?_) List.pairwise_lt_range
 rw [cmpW_len (by simp)]
 exact lexC_snoc w (by omega)
theorem flat_sw (a k : Nat) : ∀ {l : List (List Int)}, SW l → (∀ w ∈ l, w.length = k) → SW (l.flatMap (extW a))
 | [], _, _ => by simp [SW]
 | w :: l, h, hk => by
  rw [List.flatMap_cons]
  unfold SW
  rw [List.pairwise_append]
  refine ⟨extW_sw a w, flat_sw a k h.tail fun x hx => hk x (by simp [hx]), fun x hx y hy => ?_⟩
  simp only [extW, List.mem_map] at hx
  obtain ⟨s, _, rfl⟩ := hx
  rw [List.mem_flatMap] at hy
  obtain ⟨v, hv, hy⟩ := hy
  simp only [extW, List.mem_map] at hy
  obtain ⟨t, _, rfl⟩ := hy
  have e1 := hk w (by simp)
  have e2 := hk v (by simp [hv])
  rw [cmpW_len (by simp [e1, e2])]
  have := h.head v hv
  rw [cmpW_len (by omega)] at this
  exact lexC_app _ _ (by omega) this
end Go.Own
